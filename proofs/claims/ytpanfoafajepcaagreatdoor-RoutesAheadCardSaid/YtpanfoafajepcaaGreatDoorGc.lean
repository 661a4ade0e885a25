import Derived.Test.YtpanfoafajepcaaGreatDoorGb
namespace Go.AM
open Go
mutual
def same:Value→Value→Bool
  | .bool a,.bool b=>bif a then b else(bif b then false else true)
  | .int k a,.int j b=>k==j&&a==b
  | .string a,.string b=>a.data.toList==b.data.toList
  | .pointer none,.pointer none=>true
  | .pointer (some ⟨a,b,none⟩),.pointer (some ⟨c,d,none⟩)=>Nat.beq a c&&Nat.beq b d
  | .slice none l c,.slice none m d=>Nat.beq l m&&Nat.beq c d
  | .slice (some ⟨a,b,none⟩) l c,.slice (some ⟨e,f,none⟩) m d=>Nat.beq a e&&Nat.beq b f&&Nat.beq l m&&Nat.beq c d
  | .map none,.map none=>true
  | .map (some a),.map (some b)=>Nat.beq a b
  | .func (.func f) a b,.func (.func g) c d=>Nat.beq f g&&sameA a c&&sameA b d
  | .nilFunc,.nilFunc=>true
  | .nilIface,.nilIface=>true
  | .iface t v,.iface u w=>Nat.beq t u&&same v w
  | .agg a,.agg b=>sameA a b
  | .tuple a,.tuple b=>sameA a b
  |_,_=>false
def sameA:Array Value→Array Value→Bool
  |⟨a⟩,⟨b⟩=>sameL a b
def sameL:List Value→List Value→Bool
  |[],[]=>true
  |a::r,b::s=>same a b&&sameL r s
  |_,_=>false
end
mutual
theorem gB:∀(a b:Value),same a b=true→a=b
  | .bool a,b,h=>by
    cases b with
    |bool b=>cases a<;>cases b<;>simp_all [same]
    |_=>simp[same]at h
  | .int k a,b,h=>by
    cases b with
    |int j b=>simp only[same,kO,beq_iff_eq]at h;rw[h.1,h.2]
    |_=>simp[same]at h
  | .string a,b,h=>by
    cases b with
    |string b=>simp only[same,beq_iff_eq]at h;rw[fK h]
    |_=>simp[same]at h
  | .pointer none,b,h=>by
    cases b with
    |pointer b=>cases b with
      |none=>rfl
      |some b=>simp[same]at h
    |_=>simp[same]at h
  | .pointer (some ⟨a,o,none⟩),b,h=>by
    cases b with
    |pointer b=>cases b with
      |none=>simp[same]at h
      |some b=>
        obtain⟨c,d,s⟩:=b
        cases s with
        |none=>simp only[same,kO,beq_iff]at h;rw[h.1,h.2]
        |some s=>simp[same]at h
    |_=>simp[same]at h
  | .pointer (some ⟨a,o,some s⟩),b,h=>by simp[same]at h
  | .slice none l c,b,h=>by
    cases b with
    |slice b m d=>cases b with
      |none=>simp only[same,kO,beq_iff]at h;rw[h.1,h.2]
      |some b=>simp[same]at h
    |_=>simp[same]at h
  | .slice (some ⟨a,o,none⟩) l c,b,h=>by
    cases b with
    |slice b m d=>cases b with
      |none=>simp[same]at h
      |some b=>
        obtain⟨e,f,s⟩:=b
        cases s with
        |none=>simp only[same,kO,beq_iff]at h;rw[h.1.1.1,h.1.1.2,h.1.2,h.2]
        |some s=>simp[same]at h
    |_=>simp[same]at h
  | .slice (some ⟨a,o,some s⟩) l c,b,h=>by simp[same]at h
  | .map none,b,h=>by
    cases b with
    |map b=>cases b with
      |none=>rfl
      |some b=>simp[same]at h
    |_=>simp[same]at h
  | .map (some a),b,h=>by
    cases b with
    |map b=>cases b with
      |none=>simp[same]at h
      |some b=>simp only[same,beq_iff]at h;rw[h]
    |_=>simp[same]at h
  | .func (.func f) a c,b,h=>by
    cases b with
    |func g p q=>
      cases g with
      |func g=>simp only[same,kO,beq_iff]at h;rw[h.1.1,mX a p h.1.2,mX c q h.2]
      |_=>simp[same]at h
    |_=>simp[same]at h
  | .func (.method _) _ _,b,h=>by simp[same]at h
  | .func (.methodOf _ _) _ _,b,h=>by simp[same]at h
  | .func (.via _ _ _ _) _ _,b,h=>by simp[same]at h
  | .func (.yield _) _ _,b,h=>by simp[same]at h
  | .nilFunc,b,h=>by cases b<;>simp_all [same]
  | .nilIface,b,h=>by cases b<;>simp_all [same]
  | .iface t v,b,h=>by
    cases b with
    |iface u x=>simp only[same,kO,beq_iff]at h;rw[h.1,gB v x h.2]
    |_=>simp[same]at h
  | .agg a,b,h=>by
    cases b with
    |agg b=>simp only[same]at h;rw[mX a b h]
    |_=>simp[same]at h
  | .tuple a,b,h=>by
    cases b with
    |tuple b=>simp only[same]at h;rw[mX a b h]
    |_=>simp[same]at h
  | .float _ _,b,h=>by simp[same]at h
  | .complex _ _ _,b,h=>by simp[same]at h
  | .chan _,b,h=>by simp[same]at h
theorem mX:∀(a b:Array Value),sameA a b=true→a=b
  |⟨a⟩,⟨b⟩,h=>by simp only[sameA]at h;rw[rZ a b h]
theorem rZ:∀(a b:List Value),sameL a b=true→a=b
  |[],[],_=>rfl
  |[],_::_,h=>by simp[sameL]at h
  |_::_,[],h=>by simp[sameL]at h
  |a::r,b::s,h=>by
    simp only[sameL,kO]at h;rw[gB a b h.1,rZ r s h.2]
end
inductive OK where
  |pure|reads|makes|effect
  deriving DecidableEq
def bC (P:Program)(o:Oper):Option OK:=
  match o.op with
  | .move _| .assign _| .pick .. | .build .. | .nilCheck _| .binOp .. | .unOp .. | .makeFunc .. | .fieldAddr .. | .field .. | .indexAddr .. | .index .. | .extract .. =>some .pure
  | .slice t .. =>(match P.underlying t with|some .string=>some .pure|_=>some .reads)
  | .load .. =>some .reads
  | .lookup .. =>some .reads
  | .alloc _| .box .. | .buildSlice .. | .makeSlice .. | .makeMap .. =>some .makes
  | .store .. =>some .effect
  | .mapUpdate .. | .range .. | .next .. =>some .effect
  | .call c=>match c.callee with
    | .value _=>some .effect
    | .builtin .append| .builtin .copy| .builtin .clear| .builtin .delete=>some .effect
    | .builtin .len=>(match(c.argTypes[0]?).bind P.underlying with|some (.map _ _)=>some .reads|_=>some .pure)
    | .builtin .min| .builtin .max=>some .pure
    |_=>none
  | .convert s d _=>(match P.underlying s,P.underlying d with|some (.int _),some (.int _)=>some .pure|_,_=>some .effect)
  |_=>none
def before (ops:Array Oper):List Nat:=(Region.before ops).toList
def aKb (p:Oper)(d:Tmp):Bool:=match p.dst with|some e=>Nat.beq d e|none=>false
def aIa (ops:Array Oper)(bef:List Nat):Bool:=
  let l:=ops.toList.zipIdx
  l.all fun(o,i)=>
    match o.dst with
    |none=>true
    |some d=>l.all fun(p,j)=>
      Nat.beq i j||!((lU p ops).any (Nat.beq d)||aKb p d)||
        Nat.testBit (bef.getD (max i j) 0) (min i j)
def fQ (P:Program)(ops:Array Oper)(bef:List Nat):Bool:=
  let l:=ops.toList.zipIdx
  (l.all fun(o,i)=>(bC P o).isSome&&o.after.toList.all (fun e=>Nat.blt e.on i||!Region.binds .any e)&&
    (match o.guard with
     |none=>true
     |some (j,_)=>Nat.blt j i&&Nat.testBit (bef.getD i 0) j))&&
  (l.all fun(o,i)=>l.all fun(p,j)=>!(bC P o==some .effect&&bC P p==some .effect&&Nat.blt i j)||Nat.testBit (bef.getD j 0) i)&&
  aIa ops bef
def bJ (P:Program)(NG:Nat)(o:Oper)(fr:T Value)(h:H)(v:Value):Bool:=
  match aop P (fun _ _ _=>none) (aG NG fr h) h o (fun rv _=>rv)with
  |some u=>same u v
  |none=>false
def runD {β:Type}(P:Program)(C:CF)(NG:Nat)(ops:Array Oper)(bef:List Nat):Nat→List Oper→T Value→H→List (Nat×H)→List (Nat×Oper×T Value×Value)→(T Value→H→Option β)→Option β
  |_,[],fr,h,_,_,K=>K fr h
  |i,o::rest,fr,h,es,ls,K=>
    let run (fr:T Value):Option β:=
      match bC P o with
      |some .effect=>aop P C (aG NG fr h) h o<|bE P o fun rv h'=>
          bif ls.all (fun(j,oj,frj,vj)=>Nat.testBit (bef.getD i 0) j||bJ P NG oj frj h' vj)then
            runD P C NG ops bef (i+1) rest (bU fr o.dst rv) h' ((i,h)::es) ls K else none
      |some .reads=>aop P C (aG NG fr h) h o<|bE P o fun rv h'=>
          (match rv with
           |some v=>bif es.all (fun(p,hp)=>Nat.testBit (bef.getD i 0) p||bJ P NG o fr hp v)then
              runD P C NG ops bef (i+1) rest (bU fr o.dst rv) h' es ((i,o,fr,v)::ls) K else none
           |none=>none)
      |some _=>aop P C (aG NG fr h) h o<|bE P o fun rv h'=>runD P C NG ops bef (i+1) rest (bU fr o.dst rv) h' es ls K
      |none=>none
    match o.guard with
    |none=>run fr
    |some (j,want)=>
      match(ops[j]?).bind (·.dst)with
      |none=>none
      |some d=>
        match fr.get d with
        |some (.bool b)=>
          bif b then
            (bif want then run (fr.set d (some (.bool true)))
             else runD P C NG ops bef (i+1) rest (bU (fr.set d (some (.bool true))) o.dst (some undef)) h es ls K)
          else
            (bif want then runD P C NG ops bef (i+1) rest (bU (fr.set d (some (.bool false))) o.dst (some undef)) h es ls K
             else run (fr.set d (some (.bool false))))
        |some (.tuple _)=>runD P C NG ops bef (i+1) rest (bU fr o.dst (some undef)) h es ls K
        |_=>none
variable {P:Program}{C:CF}{NG:Nat}
abbrev aQ:Option Value→H→Option (Option Value×H):=fun a b=>some (a,b)
set_option maxHeartbeats 1000000 in
theorem cH {β:Type}(P:Program)(C:CF)(ρ:Operand→Option Value)(h:H)(o:Oper)(K:Option Value→H→Option β):
 aop P C ρ h o K=(aop P C ρ h o aQ).bind fun p=>K p.1 p.2:=by
 obtain⟨dst,op,type,pos,after,guard⟩:=o
 cases op with
 |pick c x y=>
  simp only[aop]
  cases ρ c with
  |none=>rfl
  |some v=>
   cases v<;>try rfl
   rename_i t;cases ρ x<;>cases ρ y<;>cases t<;>rfl
 |makeFunc f a b=>
  cases f<;>simp only[aop]<;>(try rfl)
  repeat' split
  all_goals rfl
 |call c=>
  obtain⟨callee,args,argTypes⟩:=c
  cases callee with
  |builtin b=>
   simp only[aop]
   repeat' split
   all_goals (first|rfl|(simp only[Option.bind_assoc];rfl)|(cases hb:(_:Bool)<;>rfl)|skip)
   all_goals (simp only[cond_eq_ite];split<;>first|rfl|(simp only[Option.bind_assoc];rfl))
  |value f=>
   simp only[aop]
   repeat' split
   all_goals (first|rfl|(simp only[Option.bind_assoc];rfl))
  |invoke a b=>rfl
 |_=>
  simp only[aop]
  repeat' split
  all_goals (first|rfl|(simp only[Option.bind_assoc];rfl)|skip)
  all_goals (simp only[cond_eq_ite];repeat' split)
  all_goals (first|rfl|(simp only[Option.bind_assoc];rfl))
def LEh (X Y:H):Prop:=X.next≤Y.next∧∀id b,X.get id=some b→Y.get id=some b
theorem yV {ρ:Operand→Option Value}{h:H}{o:Oper}{rv:Option Value}{h':H}(hk:bC P o=some .pure)(hr:aop P C ρ h o aQ=some (rv,h')):
 h'=h∧∀X,aop P C ρ X o aQ=some (rv,X):=by
 obtain⟨dst,op,type,pos,after,guard⟩:=o;have fin:∀{v:Value},(some (some v,h):Option (Option Value×H))=some (rv,h')→h'=h∧rv=some v:=by
  intro v he;simp only[kE,kK]at he;exact⟨he.2.symm,he.1.symm⟩
 cases op with
 |move x=>
  obtain⟨v,hv,hr⟩:=bind_some hr;obtain⟨e1,e2⟩:=fin hr;exact⟨e1,fun X=>by simp only[aop,hv,pD,aQ,e2]⟩
 |assign x=>
  obtain⟨v,hv,hr⟩:=bind_some hr;obtain⟨e1,e2⟩:=fin hr;exact⟨e1,fun X=>by simp only[aop,hv,pD,aQ,e2]⟩
 |pick c x y=>
  simp only[aop]at hr⊢;split at hr
  ·rename_i t hc;split at hr
   ·rename_i va vb ha hb;obtain⟨e1,e2⟩:=fin hr;exact⟨e1,fun X=>by simp only[ha,hb,aQ,e2]⟩
   ·rename_i va ha hb
    cases t with
    |false=>simp at hr
    |true=>obtain⟨e1,e2⟩:=fin hr;exact⟨e1,fun X=>by simp only[ha,hb,aQ,e2,cond_true]⟩
   ·rename_i vb ha hb
    cases t with
    |true=>simp at hr
    |false=>obtain⟨e1,e2⟩:=fin hr;exact⟨e1,fun X=>by simp only[ha,hb,aQ,e2,cond_false]⟩
   ·simp at hr
  ·simp at hr
 |build t ps=>
  simp only[aop]at hr⊢;split at hr
  ·rename_i z l hz hl;obtain⟨hk0,hr⟩:=aA hr;obtain⟨v,hv,hr⟩:=bind_some hr;obtain⟨e1,e2⟩:=fin hr;exact⟨e1,fun X=>by simp only[hz,hl,hk0,cond_true,hv,pD,aQ,e2]⟩
  ·simp at hr
 |nilCheck x=>
  simp only[aop]at hr⊢;obtain⟨v,hv,hr⟩:=bind_some hr;obtain⟨u,hu,hr⟩:=bind_some hr;obtain⟨e1,e2⟩:=fin hr;exact⟨e1,fun X=>by simp only[hv,hu,pD,aQ,e2]⟩
 |binOp op t x y t2=>
  simp only[aop]at hr⊢;split at hr
  ·rename_i a b ha hb;obtain⟨u,hu,hr⟩:=bind_some hr;obtain⟨e1,e2⟩:=fin hr;exact⟨e1,fun X=>by simp only[ha,hb,hu,pD,aQ,e2]⟩
  ·simp at hr
 |convert t d x=>
  simp only[bC]at hk;split at hk
  ·rename_i k1 k2 h1 h2;simp only[aop,h1,h2]at hr⊢;split at hr
   ·simp at hr
   ·rename_i v hv;obtain⟨u,hu,hr⟩:=bind_some hr;obtain⟨e1,e2⟩:=fin hr;exact⟨e1,fun X=>by simp only[hv,hu,pD,aQ,e2]⟩
  ·simp at hk
 |unOp op t x=>
  simp only[aop]at hr⊢;obtain⟨v,hv,hr⟩:=bind_some hr;obtain⟨u,hu,hr⟩:=bind_some hr;obtain⟨e1,e2⟩:=fin hr;exact⟨e1,fun X=>by simp only[hv,hu,pD,aQ,e2]⟩
 |makeFunc f a b=>
  cases f with
  |func f=>
   simp only[aop]at hr⊢;split at hr
   ·rename_i va vb ha hb;obtain⟨e1,e2⟩:=fin hr;exact⟨e1,fun X=>by simp only[ha,hb,aQ,e2]⟩
   ·simp at hr
  |methodOf t m=>
   simp only[aop]at hr⊢;split at hr
   ·rename_i ha hb;obtain⟨e1,e2⟩:=fin hr;exact⟨e1,fun X=>by simp only[ha,hb,aQ,e2]⟩
   ·simp at hr
  |_=>simp[aop]at hr
 |slice t x lo hi mx=>
  simp only[aop]at hr⊢;split at hr
  ·rename_i v l q m hx hl hq hm;have hu:P.underlying t=some .string:=by
    simp only[bC]at hk;split at hk
    ·assumption
    ·simp at hk
   simp only[hu]at hr⊢;split at hr
   ·obtain⟨u,hv,hr⟩:=bind_some hr;obtain⟨e1,e2⟩:=fin hr;exact⟨e1,fun X=>by simp only[hx,hl,hq,hm,hv,pD,aQ,e2]⟩
   ·simp at hr
  ·simp at hr
 |fieldAddr t x i=>
  simp only[aop]at hr⊢;split at hr
  ·rename_i f v hf hx;split at hr
   ·rename_i n hn
    cases h0:Nat.beq n 0 with
    |true=>rw[h0]at hr;simp at hr
    |false=>
     rw[h0]at hr;simp only[cond_false]at hr;obtain⟨u,hv,hr⟩:=bind_some hr;obtain⟨e1,e2⟩:=fin hr;exact⟨e1,fun X=>by simp only[hf,hx,hn,h0,cond_false,hv,pD,aQ,e2]⟩
   ·simp at hr
  ·simp at hr
 |field t x i=>
  simp only[aop]at hr⊢;split at hr
  ·rename_i f v hf hx;split at hr
   ·rename_i g n hg hn;obtain⟨u,hv,hr⟩:=bind_some hr;obtain⟨e1,e2⟩:=fin hr;exact⟨e1,fun X=>by simp only[hf,hx,hg,hn,hv,pD,aQ,e2]⟩
   ·simp at hr
  ·simp at hr
 |indexAddr t x i=>
  simp only[aop]at hr⊢;split at hr
  ·rename_i v iv hx hi;split at hr
   ·rename_i e hu;split at hr
    ·rename_i n hn;obtain⟨u,hv,hr⟩:=bind_some hr;obtain⟨e1,e2⟩:=fin hr;exact⟨e1,fun X=>by simp only[hx,hi,hu,hn,hv,pD,aQ,e2]⟩
    ·simp at hr
   ·rename_i len e hu;split at hr
    ·rename_i n hn;obtain⟨u,hv,hr⟩:=bind_some hr;obtain⟨e1,e2⟩:=fin hr;exact⟨e1,fun X=>by simp only[hx,hi,hu,hn,hv,pD,aQ,e2]⟩
    ·simp at hr
   ·simp at hr
  ·simp at hr
 |index t x i=>
  simp only[aop]at hr⊢;split at hr
  ·rename_i v iv hx hi;split at hr
   ·rename_i hu;obtain⟨u,hv,hr⟩:=bind_some hr;obtain⟨e1,e2⟩:=fin hr;exact⟨e1,fun X=>by simp only[hx,hi,hu,hv,pD,aQ,e2]⟩
   ·rename_i len e hu;split at hr
    ·rename_i g n hg hn;obtain⟨u,hv,hr⟩:=bind_some hr;obtain⟨e1,e2⟩:=fin hr;exact⟨e1,fun X=>by simp only[hx,hi,hu,hg,hn,hv,pD,aQ,e2]⟩
    ·simp at hr
   ·simp at hr
  ·simp at hr
 |extract x i=>
  simp only[aop]at hr⊢;obtain⟨v,hv,hr⟩:=bind_some hr;obtain⟨u,hu,hr⟩:=bind_some hr;obtain⟨e1,e2⟩:=fin hr;exact⟨e1,fun X=>by simp only[hv,hu,pD,aQ,e2]⟩
 |call c=>
  obtain⟨callee,args,argTypes⟩:=c
  cases callee with
  |value f=>simp[bC]at hk
  |invoke a b=>simp[bC]at hk
  |builtin b=>
   simp only[aop]at hr⊢;split at hr
   ·simp at hr
   ·rename_i vs hvs
    cases b with
    |len=>
     have hnm:∀k e,(argTypes[0]?).bind P.underlying≠some (.map k e):=by
      intro k e he;simp[bC,he]at hk
     split at hr
     ·rename_i v;split at hr
      ·rename_i e hu;obtain⟨u,hv,hr⟩:=bind_some hr;obtain⟨e1,e2⟩:=fin hr;exact⟨e1,fun X=>by simp only[hu,hv,pD,aQ,e2]⟩
      ·rename_i hu;obtain⟨u,hv,hr⟩:=bind_some hr;obtain⟨e1,e2⟩:=fin hr;exact⟨e1,fun X=>by simp only[hu,hv,pD,aQ,e2]⟩
      ·rename_i k e hu;exact absurd hu (hnm k e)
      ·simp at hr
     ·rename_i h1;simp at h1
     ·rename_i h1;simp at h1
     ·rename_i h1;simp at h1
     ·rename_i h1;simp at h1
     ·obtain⟨u,hv,hr⟩:=bind_some hr;simp[A.zS]at hv
    |min=>
     simp only at hr⊢;obtain⟨u,hv,hr⟩:=bind_some hr;obtain⟨e1,e2⟩:=fin hr;exact⟨e1,fun X=>by simp only[hv,pD,aQ,e2]⟩
    |max=>
     simp only at hr⊢;obtain⟨u,hv,hr⟩:=bind_some hr;obtain⟨e1,e2⟩:=fin hr;exact⟨e1,fun X=>by simp only[hv,pD,aQ,e2]⟩
    |_=>simp[bC]at hk
 |_=>simp[bC]at hk
theorem tP {ρ:Operand→Option Value}{h:H}{o:Oper}{rv:Option Value}{h':H}(hk:bC P o=some .makes)(hr:aop P C ρ h o aQ=some (rv,h')):
 ∃b,b.owned=true∧h'=h.push b∧(rv=some (.pointer (some ⟨h.next,0,none⟩))∨(∃l c,rv=some (.slice (some ⟨h.next,0,none⟩) l c))∨rv=some (.map (some h.next)))∧
  ∀X:H,X.next=h.next→aop P C ρ X o aQ=some (rv,X.push b):=by
 obtain⟨dst,op,type,pos,after,guard⟩:=o
 cases op with
 |alloc t=>
  simp only[aop]at hr⊢;split at hr
  ·rename_i z n hz hn;obtain⟨⟨v,h1⟩,hb,hr⟩:=bind_some hr;simp only[aQ,kE,kK]at hr;obtain⟨rfl,rfl⟩:=hr;unfold A.box at hb;split at hb
   ·rename_i vs hvs;obtain⟨hc,hb⟩:=aA hb;simp only[kE,kK]at hb;obtain⟨rfl,rfl⟩:=hb;exact⟨_,rfl,rfl,.inl rfl,fun X hX=>by simp only[hz,hn,A.box,hvs,hc,cond_true,pD,aQ,hX]⟩
   ·simp at hb
  ·simp at hr
 |box t x=>
  simp only[aop]at hr⊢;split at hr
  ·rename_i n v hn hx;obtain⟨⟨v,h1⟩,hb,hr⟩:=bind_some hr;simp only[aQ,kE,kK]at hr;obtain⟨rfl,rfl⟩:=hr;unfold A.box at hb;split at hb
   ·rename_i vs hvs;obtain⟨hc,hb⟩:=aA hb;simp only[kE,kK]at hb;obtain⟨rfl,rfl⟩:=hb;exact⟨_,rfl,rfl,.inl rfl,fun X hX=>by simp only[hn,hx,A.box,hvs,hc,cond_true,pD,aQ,hX]⟩
   ·simp at hb
  ·simp at hr
 |buildSlice t len ps=>
  simp only[aop]at hr⊢;split at hr
  ·simp at hr
  ·rename_i e he;split at hr
   ·rename_i n z hn hz;split at hr
    ·rename_i zs l hzs hl;obtain⟨hc,hr⟩:=aA hr;obtain⟨⟨v,h1⟩,hb,hr⟩:=bind_some hr;simp only[aQ,kE,kK]at hr;obtain⟨rfl,rfl⟩:=hr;unfold A.zF at hb;obtain⟨cs,hcs,hb⟩:=Option.map_eq_some_iff.1 hb;simp only[kK]at hb;obtain⟨rfl,rfl⟩:=hb;exact⟨_,rfl,rfl,.inr (.inl ⟨_,_,rfl⟩),fun X hX=>by simp only[he,hn,hz,hzs,hl,hc,cond_true,A.zF,hcs,Option.map_some,pD,aQ,hX]⟩
    ·simp at hr
   ·simp at hr
 |makeSlice t l c=>
  simp only[aop]at hr⊢;split at hr
  ·rename_i e vl vc he hl hc;split at hr
   ·rename_i n bs z hn hb hz;split at hr
    ·rename_i zs hzs;obtain⟨hcond,hr⟩:=aA hr;obtain⟨⟨v,h1⟩,hm,hr⟩:=bind_some hr;simp only[aQ,kE,kK]at hr;obtain⟨rfl,rfl⟩:=hr;unfold A.zP at hm;split at hm
     ·obtain⟨hc2,hm⟩:=aA hm;simp only[kE,kK]at hm;obtain⟨rfl,rfl⟩:=hm;exact⟨_,rfl,rfl,.inr (.inl ⟨_,_,rfl⟩),fun X hX=>by simp only[he,hl,hc,hn,hb,hz,hzs,hcond,cond_true,A.zP,hc2,pD,aQ,hX]⟩
     ·simp at hm
    ·simp at hr
   ·simp at hr
  ·simp at hr
 |makeMap t res=>
  cases res with
  |none=>
   simp only[aop,A.zJ,pD,aQ,kE,kK]at hr;obtain⟨rfl,rfl⟩:=hr;exact⟨_,rfl,rfl,.inr (.inr rfl),fun X hX=>by simp only[aop,A.zJ,pD,aQ,hX]⟩
  |some r=>simp[aop]at hr
 |slice t x lo hi mx=>simp only[bC]at hk;split at hk<;>simp at hk
 |call c=>
  obtain⟨callee,args,argTypes⟩:=c
  cases callee with
  |builtin b=>cases b<;>simp[bC]at hk<;>split at hk<;>simp at hk
  |_=>simp[bC]at hk
 |convert t d x=>simp only[bC]at hk;split at hk<;>simp at hk
 |_=>simp[bC]at hk
theorem eM {X Y:H}(_:LEh X Y){fr fr':T Value}(hfr:∀t,fr.get t=fr'.get t){x:Operand}{v:Value}(h:aG NG fr X x=some v):aG NG fr' Y x=some v:=by
 cases x with
 |tmp t=>simp only[aG]at h⊢;rw[←hfr];exact h
 |const v=>exact h
 |global g=>exact h
 |func f=>exact h
theorem rL {X Y:H}(hle:LEh X Y){fr fr':T Value}(hfr:∀t,fr.get t=fr'.get t):∀{xs:List Operand} {vs:List Value},cQ (aG NG fr X) xs=some vs→cQ (aG NG fr' Y) xs=some vs
 |[],vs,h=>h
 |x::xs,vs,h=>by
  simp only[cQ]at h⊢;split at h
  ·rename_i v hv;split at h
   ·rename_i vs' hvs;simp only[eM hle hfr hv,rL hle hfr hvs];exact h
   ·simp at h
  ·simp at h
theorem mF {X Y:H}(hle:LEh X Y){fr fr':T Value}(hfr:∀t,fr.get t=fr'.get t){x:Option Operand}{v:Option Value}(h:iZ (aG NG fr X) x=some v):iZ (aG NG fr' Y) x=some v:=by
 cases x with
 |none=>exact h
 |some x=>
  simp only[iZ]at h⊢;split at h
  ·rename_i u hu;simp only[eM hle hfr hu];exact h
  ·simp at h
theorem aDx {X Y:H}(hle:LEh X Y){g:Bool}{n:Nat}{p v:Value}(h:A.load g n p X=some v):A.load g n p Y=some v:=by
 cases g with
 |false=>
  simp only[A.load,cond_false]at h⊢;unfold A.load1 at h⊢;split at h
  ·split at h
   ·rename_i cs own hg;simp only[hle.2 _ _ hg];exact h
   ·simp at h
  ·simp at h
 |true=>
  simp only[A.load,cond_true]at h⊢;unfold A.loadN at h⊢;split at h
  ·split at h
   ·rename_i cs own hg;simp only[hle.2 _ _ hg];exact h
   ·simp at h
  ·simp at h
theorem aEe {X Y:H}(hle:LEh X Y){size id:Nat}(h:A.yK size id X=true):A.yK size id Y=true:=by
 unfold A.yK at h⊢;split at h
 ·rename_i cs es hg;simp only[hle.2 _ _ hg];exact h
 ·simp at h
theorem oF {X Y:H}(hle:LEh X Y){size:Nat}{x v:Value}{lo hi mx:Option Value}(h:A.zM size x lo hi mx X=some v):A.zM size x lo hi mx Y=some v:=by
 unfold A.zM at h⊢
 cases hc:(mx.isSome&&hi.isNone)with
 |true=>rw[hc]at h;simp at h
 |false=>
  rw[hc]at h;simp only[cond_false]at h⊢;split at h
  ·split at h
   ·simp at h
   ·rename_i m hm;split at h
    ·simp at h
    ·rename_i q hq;split at h
     ·simp at h
     ·rename_i p hp;obtain⟨hcond,h⟩:=aA h;have hcond':∀c id,(Nat.beq (c%2) 1||m.isSome||Nat.beq (p.getD 0) 0||A.yK size id X)=true→(Nat.beq (c%2) 1||m.isSome||Nat.beq (p.getD 0) 0||A.yK size id Y)=true:=by
       intro c id hh;simp only[Bool.or_eq_true]at hh⊢;rcases hh with hh|hh
       ·exact .inl hh
       ·exact .inr (aEe hle hh)
      simp only[hm,hq,hp,hcond' _ _ hcond,cond_true];exact h
  ·exact h
  ·simp at h
theorem wR {X Y:H}(hle:LEh X Y){z k x v:Value}{co:Bool}(hv:A.yA z co k x X=some v):A.yA z co k x Y=some v:=by
 unfold A.yA at hv⊢;split at hv
 ·exact hv
 ·split at hv
  ·rename_i es c hg;simp only[hle.2 _ _ hg];exact hv
  ·simp at hv
 ·simp at hv
theorem iH {C0:CF}{o:Oper}(hk:bC P o=some .reads){fr fr':T Value}(hfr:∀t,fr.get t=fr'.get t){X Y:H}(hle:LEh X Y){v:Value}
 (h:aop P C0 (aG NG fr X) X o (fun rv _=>rv)=some v) (C:CF):aop P C (aG NG fr' Y) Y o aQ=some (some v,Y):=by
 obtain⟨dst,op,type,pos,after,guard⟩:=o
 cases op with
 |load t x=>
  simp only[aop]at h⊢;split at h
  ·rename_i g n p hg hn hp;obtain⟨u,hu,h⟩:=bind_some h;simp only[kE]at h;subst h;rw[hg,hn,eM hle hfr hp];simp only[aDx hle hu,pD,aQ]
  ·simp at h
 |lookup t x k co=>
  simp only[aop]at h⊢;split at h
  ·rename_i kt et xv kv ht hx hk2;simp only[ht,eM hle hfr hx,eM hle hfr hk2];split at h
   ·rename_i s z hs hz;obtain⟨u,hu,h⟩:=bind_some h;simp only[kE]at h;subst h;obtain⟨hkk,hu⟩:=aA hu;simp only[hs,hz,A.zE,hkk,cond_true,wR hle hu,pD,aQ]
   ·simp at h
  ·simp at h
 |slice t x lo hi mx=>
  simp only[bC]at hk;simp only[aop]at h⊢;split at h
  ·rename_i w l q m hx hl hq hm;simp only[eM hle hfr hx,mF hle hfr hl,mF hle hfr hq,mF hle hfr hm];split at h
   ·rename_i hu;rw[hu]at hk;simp at hk
   ·rename_i e hu;split at h
    ·rename_i n hn;obtain⟨u,hv,h⟩:=bind_some h;simp only[kE]at h;subst h;simp only[oF hle hv,pD,aQ]
    ·simp at h
   ·rename_i len e hu;split at h
    ·rename_i n hn;obtain⟨u,hv,h⟩:=bind_some h;simp only[kE]at h;subst h;have:A.yN len n w l q m Y=some u:=by
      unfold A.yN at hv⊢;split at hv
      ·exact oF hle hv
      ·simp at hv
     simp only[this,pD,aQ]
    ·simp at h
   ·simp at h
  ·simp at h
 |call c=>
  obtain⟨callee,args,argTypes⟩:=c
  cases callee with
  |value f=>simp[bC]at hk
  |invoke a b=>simp[bC]at hk
  |builtin b=>
   cases b with
   |len=>
    have hmap:∃k e,(argTypes[0]?).bind P.underlying=some (.map k e):=by
     simp only[bC]at hk;split at hk
     ·exact⟨_,_,by assumption⟩
     ·simp at hk
    obtain⟨k,e,hu⟩:=hmap;simp only[aop]at h⊢;split at h
    ·simp at h
    ·rename_i vs hvs;simp only[rL hle hfr hvs];split at h
     ·rename_i x _;simp only[hu]at h⊢;obtain⟨u,hv,h⟩:=bind_some h;simp only[kE]at h;subst h;have:A.lenM x Y=some u:=by
       unfold A.lenM at hv⊢;split at hv
       ·exact hv
       ·split at hv
        ·rename_i es cl hg;simp only[hle.2 _ _ hg];exact hv
        ·simp at hv
       ·simp at hv
      simp only[this,pD,aQ]
     ·rename_i h1;simp at h1
     ·rename_i h1;simp at h1
     ·rename_i h1;simp at h1
     ·rename_i h1;simp at h1
     ·obtain⟨u,hv,h⟩:=bind_some h;simp[A.zS]at hv
   |_=>simp[bC]at hk
 |convert t d x=>simp only[bC]at hk;split at hk<;>simp at hk
 |_=>simp[bC]at hk
end Go.AM

namespace Go.AM
open Go
variable {P:Program}{C:CF}{NG:Nat}
theorem fU {fr fr':T Value}(h:∀t,fr.get t=fr'.get t)(X:H):aG NG fr X=aG NG fr' X:=by
  funext x
  cases x with
  |tmp t=>exact h t
  |_=>rfl
def cA (fr:T Value)(ops:Array Oper)(o:Oper):Option Bool:=
  match o.guard with
  |none=>some true
  |some (j,want)=>
    match(ops[j]?).bind (·.dst)with
    |none=>none
    |some d=>match fr.get d with
      |some (.bool b)=>some (b==want)
      |some (.tuple _)=>some false
      |_=>none
def Row (P:Program)(C:CF)(NG:Nat)(ops:Array Oper)(o:Oper)(f:T Value)(h:H)(r:Option Value)(f':T Value)(h':H):Prop:=
  (∀t,f'.get t=if o.dst=some t then r else f.get t)∧
  ((cA f ops o=some false∧r=some undef∧h'=h)∨(cA f ops o=some true∧aop P C (aG NG f h) h o aQ=some (r,h')))
theorem aHc (fr:T Value)(dst:Option Tmp)(v:Option Value)(t:Tmp):(bU fr dst v).get t=if dst=some t then v else fr.get t:=by
  cases dst with
  |none=>simp[bU]
  |some d=>
    simp only[bU,T.get_set];by_cases h:t=d
    ·subst h;simp
    ·rw[kA h,kA (by simpa using fun e=>h e.symm)]
theorem fE {fr:T Value}{d:Tmp}{v:Value}(h:fr.get d=some v)(t:Tmp):(fr.set d (some v)).get t=fr.get t:=by
  rw[T.get_set];split
  ·rename_i e;subst e;exact h.symm
  ·rfl
def upd {α:Type}(F:Nat→α)(k:Nat)(x:α):Nat→α:=fun i=>if i=k then x else F i
theorem dQ {α:Type}(F:Nat→α)(k:Nat)(x:α):upd F k x k=x:=by simp[upd]
theorem aCu {α:Type}(F:Nat→α){k i:Nat}(x:α)(h:i≠k):upd F k x i=F i:=by simp[upd,h]
def Ran (P:Program)(ops:Array Oper)(F:Nat→T Value)(i:Nat)(o:Oper)(k:OK):Prop:=
  ops[i]?=some o∧cA (F i) ops o=some true∧bC P o=some k
def lS (ops:Array Oper)(j i:Nat):Prop:=Nat.testBit ((before ops).getD j 0) i=true
abbrev lH {β:Type}(P:Program)(C:CF)(NG:Nat)(ops:Array Oper)(K:T Value→H→Option β)(r:β)(k:Nat)(fr:T Value)(h:H)(es:List (Nat×H))(ls:List (Nat×Oper×T Value×Value)):Prop:=
    ∃(F:Nat→T Value) (Hh:Nat→H) (rv:Nat→Option Value),k≤max k ops.size∧F k=fr∧Hh k=h∧K (F (max k ops.size)) (Hh (max k ops.size))=some r∧
      (∀i,k≤i→i<ops.size→∃o,ops[i]?=some o∧Row P C NG ops o (F i) (Hh i) (rv i) (F (i+1)) (Hh (i+1)))∧
      (∀i o v,k≤i→Ran P ops F i o .reads→rv i=some v→∀p hp,(p,hp)∈es→lS ops i p∨bJ P NG o (F i) hp v=true)∧
      (∀p o,k≤p→Ran P ops F p o .effect→∀j oj frj vj,(j,oj,frj,vj)∈ls→lS ops p j∨bJ P NG oj frj (Hh (p+1)) vj=true)∧
      (∀p i o o' v,k≤p→p<i→Ran P ops F p o .effect→Ran P ops F i o' .reads→rv i=some v→lS ops i p∨bJ P NG o' (F i) (Hh p) v=true)∧
      (∀i p o o' v,k≤i→i<p→Ran P ops F p o .effect→Ran P ops F i o' .reads→rv i=some v→lS ops p i∨bJ P NG o' (F i) (Hh (p+1)) v=true)∧
      (∀i o,k≤i→Ran P ops F i o .reads→∃v,rv i=some v)
theorem rD {β:Type}{ops:Array Oper}{K:T Value→H→Option β}{r:β}:∀(l:List Oper) (k:Nat) (fr:T Value) (h:H) (es:List (Nat×H)) (ls:List (Nat×Oper×T Value×Value)),
    ops.toList.drop k=l→runD P C NG ops (before ops) k l fr h es ls K=some r→
    lH P C NG ops K r k fr h es ls:=by
  intro l
  induction l with
  |nil=>
    intro k fr h es ls hl hr;have hk:ops.size≤k:=by
      have:=congrArg List.length hl;simp at this;omega
    have hno:∀{F:Nat→T Value} {i:Nat} {o:Oper} {kd:OK},k≤i→Ran P ops F i o kd→False:=by
      intro F i o kd hi hran;have:=(Array.getElem?_eq_some_iff.1 hran.1).1;omega
    refine⟨fun _=>fr,fun _=>h,fun _=>none,by omega,rfl,rfl,hr,fun i h1 h2=>absurd h2 (by omega),?_,?_,?_,?_,?_⟩
    ·intro i o v hi hran;exact(hno hi hran).elim
    ·intro p o hp hran;exact(hno hp hran).elim
    ·intro p i o o' v hp _ hran;exact(hno hp hran).elim
    ·intro i p o o' v hi hip hran;exact(hno (by omega) hran).elim
    ·intro i o hi hran;exact(hno hi hran).elim
  |cons o rest ih=>
    intro k fr h es ls hl hr;have hlt:k<ops.size:=by
      have:=congrArg List.length hl;simp at this;omega
    have ho:ops[k]?=some o:=by
      have:(ops.toList.drop k)[0]?=some o:=by rw[hl];rfl
      simpa using this
    have hrest:ops.toList.drop (k+1)=rest:=by
      have:(ops.toList.drop k).drop 1=rest:=by rw[hl];rfl
      rw[pT]at this;exact this
    have hmax:max (k+1) ops.size=max k ops.size:=by omega
    have hcong:∀{fr1 fr2:T Value},(∀t,fr1.get t=fr2.get t)→∀(o:Oper) (X:H) (v:Value),bJ P NG o fr1 X v=bJ P NG o fr2 X v:=by
      intro fr1 fr2 he o X v;unfold bJ;rw[fU he]
    have joint:∀(fr1:T Value) (rvk:Option Value) (h1:H) (es1:List (Nat×H)) (ls1:List (Nat×Oper×T Value×Value)),(∀t,fr1.get t=fr.get t)→
        runD P C NG ops (before ops) (k+1) rest (bU fr1 o.dst rvk) h1 es1 ls1 K=some r→
        ((cA fr ops o=some false∧rvk=some undef∧h1=h)∨(cA fr ops o=some true∧aop P C (aG NG fr h) h o aQ=some (rvk,h1)))→
        (∀p hp,(p,hp)∈es→(p,hp)∈es1)→(∀j oj frj vj,(j,oj,frj,vj)∈ls→(j,oj,frj,vj)∈ls1)→
        (cA fr ops o=some true→bC P o=some .effect→(k,h)∈es1∧∀j oj frj vj,(j,oj,frj,vj)∈ls→lS ops k j∨bJ P NG oj frj h1 vj=true)→
        (cA fr ops o=some true→bC P o=some .reads→∃v fr2,rvk=some v∧(∀t,fr2.get t=fr.get t)∧(k,o,fr2,v)∈ls1∧∀p hp,(p,hp)∈es→lS ops k p∨bJ P NG o fr2 hp v=true)→
        lH P C NG ops K r k fr h es ls:=by
      intro fr1 rvk h1 es1 ls1 hfr hrun hrow hes hls heff hrd;obtain⟨F,Hh,rv,_,hF,hH,hK,hrows,q1,q2,q3,q4,q5⟩:=ih (k+1) _ _ _ _ hrest hrun;have fu:∀i,i≠k→upd F k fr i=F i:=fun i hi=>aCu F fr hi;have hu:∀i,i≠k→upd Hh k h i=Hh i:=fun i hi=>aCu Hh h hi;have ru:∀i,i≠k→upd rv k rvk i=rv i:=fun i hi=>aCu rv rvk hi;have ranu:∀i o kd,i≠k→Ran P ops (upd F k fr) i o kd→Ran P ops F i o kd:=by
        intro i o kd hi hran;unfold Ran at hran⊢;rw[fu i hi]at hran;exact hran
      have rank:∀o2 kd,Ran P ops (upd F k fr) k o2 kd→o2=o∧cA fr ops o=some true∧bC P o=some kd:=by
        intro o2 kd hran;unfold Ran at hran;rw[dQ]at hran;have:o2=o:=by have:=hran.1;rw[ho]at this;simpa using this.symm
        subst this;exact⟨rfl,hran.2.1,hran.2.2⟩
      refine⟨upd F k fr,upd Hh k h,upd rv k rvk,by omega,dQ _ _ _,dQ _ _ _,?_,?_,?_,?_,?_,?_,?_⟩
      ·rw[fu _ (by omega),hu _ (by omega),←hmax];exact hK
      ·intro i h1' h2';by_cases hi:i=k
       ·subst hi;refine⟨o,ho,?_⟩;rw[dQ,dQ,dQ,fu _ (by omega),hu _ (by omega),hF,hH];refine⟨fun t=>by rw[aHc,hfr],hrow⟩
       ·obtain⟨o2,e1,e2⟩:=hrows i (by omega) h2';exact⟨o2,e1,by rw[fu i hi,hu i hi,ru i hi,fu _ (by omega),hu _ (by omega)];exact e2⟩
      ·intro i o2 v hi hran hv p hp hmem;by_cases hik:i=k
       ·subst hik;obtain⟨rfl,hw,hkd⟩:=rank _ _ hran;obtain⟨v',fr2,hv',hfr2,_,hchk⟩:=hrd hw hkd;rw[dQ]at hv⊢;rw[hv']at hv;simp at hv;subst hv;rw[hcong (fun t=>(hfr2 t).symm)];exact hchk p hp hmem
       ·rw[fu i hik];exact q1 i o2 v (by omega) (ranu i o2 _ hik hran) (by rw[←ru i hik];exact hv) p hp (hes p hp hmem)
      ·intro p o2 hp hran j oj frj vj hmem;by_cases hpk:p=k
       ·subst hpk;obtain⟨rfl,hw,hkd⟩:=rank _ _ hran;rw[hu _ (by omega),hH];exact(heff hw hkd).2 j oj frj vj hmem
       ·rw[hu _ (by omega)];exact q2 p o2 (by omega) (ranu p o2 _ hpk hran) j oj frj vj (hls _ _ _ _ hmem)
      ·intro p i o2 o3 v hp hpi hran hran' hv;rw[fu i (by omega)];rw[ru i (by omega)]at hv;by_cases hpk:p=k
       ·subst hpk;obtain⟨rfl,hw,hkd⟩:=rank _ _ hran;rw[dQ];exact q1 i o3 v (by omega) (ranu i o3 _ (by omega) hran') hv _ _ (heff hw hkd).1
       ·rw[hu p hpk];exact q3 p i o2 o3 v (by omega) hpi (ranu p o2 _ hpk hran) (ranu i o3 _ (by omega) hran') hv
      ·intro i p o2 o3 v hi hip hran hran' hv;rw[hu (p+1) (by omega)];by_cases hik:i=k
       ·subst hik;obtain⟨rfl,hw,hkd⟩:=rank _ _ hran';obtain⟨v',fr2,hv',hfr2,hm,_⟩:=hrd hw hkd;rw[dQ]at hv⊢;rw[hv']at hv;simp at hv;subst hv;rw[hcong (fun t=>(hfr2 t).symm)];exact q2 p o2 (by omega) (ranu p o2 _ (by omega) hran) _ _ _ _ hm
       ·rw[fu i hik];rw[ru i hik]at hv;exact q4 i p o2 o3 v (by omega) hip (ranu p o2 _ (by omega) hran) (ranu i o3 _ hik hran') hv
      ·intro i o2 hi hran;by_cases hik:i=k
       ·subst hik;obtain⟨rfl,hw,hkd⟩:=rank _ _ hran;obtain⟨v',fr2,hv',_⟩:=hrd hw hkd;rw[dQ];exact⟨v',hv'⟩
       ·rw[ru i hik];exact q5 i o2 (by omega) (ranu i o2 _ hik hran)
    have skip:∀(fr1:T Value),(∀t,fr1.get t=fr.get t)→cA fr ops o=some false→runD P C NG ops (before ops) (k+1) rest (bU fr1 o.dst (some undef)) h es ls K=some r→lH P C NG ops K r k fr h es ls:=
      fun fr1 hfr hw hrun=>joint fr1 (some undef) h es ls hfr hrun (.inl ⟨hw,rfl,rfl⟩) (fun _ _ hm=>hm) (fun _ _ _ _ hm=>hm) (fun h1=>by rw[hw]at h1;simp at h1) (fun h1=>by rw[hw]at h1;simp at h1)
    have run:∀(fr1:T Value),(∀t,fr1.get t=fr.get t)→cA fr ops o=some true→
        (match bC P o with
        |some .effect=>aop P C (aG NG fr1 h) h o<|bE P o fun rv h'=>
          bif ls.all (fun(j,oj,frj,vj)=>Nat.testBit ((before ops).getD k 0) j||bJ P NG oj frj h' vj)then
            runD P C NG ops (before ops) (k+1) rest (bU fr1 o.dst rv) h' ((k,h)::es) ls K else none
        |some .reads=>aop P C (aG NG fr1 h) h o<|bE P o fun rv h'=>
          (match rv with
           |some v=>bif es.all (fun(p,hp)=>Nat.testBit ((before ops).getD k 0) p||bJ P NG o fr1 hp v)then
              runD P C NG ops (before ops) (k+1) rest (bU fr1 o.dst rv) h' es ((k,o,fr1,v)::ls) K else none
           |none=>none)
        |some _=>aop P C (aG NG fr1 h) h o<|bE P o fun rv h'=>runD P C NG ops (before ops) (k+1) rest (bU fr1 o.dst rv) h' es ls K
        |none=>none)=some r→lH P C NG ops K r k fr h es ls:=by
      intro fr1 hfr hw hrun;have hev:aG NG fr1 h=aG NG fr h:=fU hfr h;rw[hev]at hrun;split at hrun
      ·rename_i hkd;rw[cH]at hrun;obtain⟨⟨rvk,h1⟩,hop,hrun⟩:=bind_some hrun;replace hrun:=cJ hrun;obtain⟨hall,hrun⟩:=aA hrun;refine joint fr1 rvk h1 _ _ hfr hrun (.inr ⟨hw,hop⟩) (fun _ _ hm=>List.mem_cons_of_mem _ hm) (fun _ _ _ _ hm=>hm) (fun _ _=>⟨by simp,fun j oj frj vj hmem=>?_⟩) (fun _ hk2=>by rw[hkd]at hk2;simp at hk2);have:=List.all_eq_true.1 hall _ hmem;simpa[Bool.or_eq_true,lS]using this
      ·rename_i hkd;rw[cH]at hrun;obtain⟨⟨rvk,h1⟩,hop,hrun⟩:=bind_some hrun;replace hrun:=cJ hrun;simp only at hrun;split at hrun
       ·rename_i v;obtain⟨hall,hrun⟩:=aA hrun;refine joint fr1 _ h1 _ _ hfr hrun (.inr ⟨hw,hop⟩) (fun _ _ hm=>hm) (fun _ _ _ _ hm=>List.mem_cons_of_mem _ hm) (fun _ hk2=>by rw[hkd]at hk2;simp at hk2) (fun _ _=>⟨v,fr1,rfl,hfr,by simp,fun p hp hmem=>?_⟩);have:=List.all_eq_true.1 hall _ hmem;simpa[Bool.or_eq_true,lS]using this
       ·simp at hrun
      ·rename_i kd hne1 hne2 hkd;rw[cH]at hrun;obtain⟨⟨rvk,h1⟩,hop,hrun⟩:=bind_some hrun;replace hrun:=cJ hrun;exact joint fr1 rvk h1 _ _ hfr hrun (.inr ⟨hw,hop⟩) (fun _ _ hm=>hm) (fun _ _ _ _ hm=>hm) (fun _ hk2=>by rw[hkd]at hk2;simp at hk2;exact absurd hk2 hne1) (fun _ hk2=>by rw[hkd]at hk2;simp at hk2;exact absurd hk2 hne2)
      ·simp at hrun
    simp only[runD]at hr;split at hr
    ·rename_i hg;exact run fr (fun _=>rfl) (by simp[cA,hg]) hr
    ·rename_i j want hg;split at hr
     ·simp at hr
     ·rename_i d hdj;split at hr
      ·rename_i b hb;have hw:cA fr ops o=some (b==want):=by simp only[cA,hg,hdj,hb]
       cases b with
       |true=>
         simp only[cond_true]at hr
         cases want with
         |true=>exact run _ (fE hb) (hw.trans rfl) hr
         |false=>exact skip _ (fE hb) (hw.trans rfl) hr
       |false=>
         simp only[cond_false]at hr
         cases want with
         |true=>exact skip _ (fE hb) (hw.trans rfl) hr
         |false=>exact run _ (fE hb) (hw.trans rfl) hr
      ·rename_i vs hb;exact skip fr (fun _=>rfl) (by simp only[cA,hg,hdj,hb]) hr
      ·simp at hr
end Go.AM

namespace Go.AM
open Go
variable {P:Program}{NG:Nat}
def dN (acc:Array Nat)(o:Oper):Array Nat:=
 acc.push (o.after.foldl (fun s e=>if Region.binds .any e then s|||2^e.on|||acc.getD e.on 0 else s) 0)
theorem tR (acc:Array Nat)(i:Nat):∀(es:List Edge) (s:Nat),Nat.testBit (es.foldl (fun s e=>if Region.binds .any e then s|||2^e.on|||acc.getD e.on 0 else s) s) i=true→
 Nat.testBit s i=true∨∃e∈es,Region.binds .any e=true∧(e.on=i∨Nat.testBit (acc.getD e.on 0) i=true)
 |[],s,h=>.inl h
 |e::es,s,h=>by
  rw[List.foldl_cons]at h;rcases tR acc i es _ h with h|⟨e',he',hb,hx⟩
  ·split at h
   ·rename_i hb;rw[Nat.testBit_or,Nat.testBit_or]at h;simp only[Bool.or_eq_true,Nat.testBit_two_pow,pJ]at h;rcases h with(h|h)|h
    ·exact .inl h
    ·exact .inr ⟨e,by simp,hb,.inl h⟩
    ·exact .inr ⟨e,by simp,hb,.inr h⟩
   ·exact .inl h
  ·exact .inr ⟨e',by simp[he'],hb,hx⟩
theorem mQ:∀(l:List Oper) (acc:Array Nat),(l.foldl dN acc).size=acc.size+l.length∧(∀j,j<acc.size→(l.foldl dN acc).getD j 0=acc.getD j 0)∧
 ∀j o,l[j]?=some o→∀i,Nat.testBit ((l.foldl dN acc).getD (acc.size+j) 0) i=true→
  ∃e∈o.after.toList,Region.binds .any e=true∧(e.on=i∨(e.on<acc.size+j∧Nat.testBit ((l.foldl dN acc).getD e.on 0) i=true))
 |[],acc=>⟨by simp,fun _ _=>rfl,fun j o h=>by simp at h⟩
 |o::l,acc=>by
  obtain⟨h1,h2,h3⟩:=mQ l (dN acc o);have hs:(dN acc o).size=acc.size+1:=by simp[dN]
  have hold:∀j,j<acc.size→(dN acc o).getD j 0=acc.getD j 0:=by
   intro j hj;simp only[dN,pG,Array.getElem?_push];rw[kA (by omega)]
  refine⟨by rw[List.foldl_cons,h1,hs,kM];omega,fun j hj=>?_,fun j o' ho i hb=>?_⟩
  ·rw[List.foldl_cons,h2 j (by omega),hold j hj]
  ·rw[List.foldl_cons]at hb⊢
   cases j with
   |zero=>
    simp only[kY,kE]at ho;subst ho;rw[Nat.add_zero,h2 _ (by omega)]at hb;have hv:(dN acc o).getD acc.size 0=o.after.foldl (fun s e=>if Region.binds .any e then s|||2^e.on|||acc.getD e.on 0 else s) 0:=by
     simp[dN]
    rw[hv,←Array.foldl_toList]at hb;rcases tR acc i _ _ hb with hb|⟨e,he,hbd,hx⟩
    ·simp at hb
    ·refine⟨e,he,hbd,?_⟩;rcases hx with hx|hx
     ·exact .inl hx
     ·have hlt:e.on<acc.size:=by
       rcases Nat.lt_or_ge e.on acc.size with hh|hh
       ·exact hh
       ·simp[pG,Array.getElem?_eq_none hh]at hx
      exact .inr ⟨by omega,by rw[h2 _ (by omega),hold _ hlt];exact hx⟩
   |succ j=>
    have:=h3 j o' (by simpa using ho) i (by rw[hs,show acc.size+1+j=acc.size+(j+1) by omega];exact hb);rw[hs,show acc.size+1+j=acc.size+(j+1) by omega]at this;exact this
theorem tM {ops:Array Oper}{j i:Nat}(h:lS ops j i):∃o,ops[j]?=some o∧∃e∈o.after.toList,Region.binds .any e=true∧(e.on=i∨(e.on<j∧lS ops e.on i)):=by
 unfold lS before at h;have e0:Region.before ops=ops.toList.foldl dN #[]:=by
  unfold Region.before;rw[←Array.foldl_toList];rfl
 have eg:∀k,(Region.before ops).toList.getD k 0=(ops.toList.foldl dN #[]).getD k 0:=by
  intro k;rw[e0];simp[List.getD_eq_getElem?_getD]
 obtain⟨h1,_,h3⟩:=mQ ops.toList #[];rw[eg]at h;have hlt:j<ops.size:=by
  rcases Nat.lt_or_ge j ops.size with hh|hh
  ·exact hh
  ·rw[pG,Array.getElem?_eq_none (by rw[h1];simpa using hh)]at h;simp at h
 have ho:ops.toList[j]?=some ops[j]:=by simp[hlt]
 have:=h3 j ops[j] ho i (by simpa using h);obtain⟨e,he,hb,hx⟩:=this;refine⟨ops[j],by simp[hlt],e,he,hb,?_⟩;rcases hx with hx|⟨hx1,hx2⟩
 ·exact .inl hx
 ·refine .inr ⟨by simpa using hx1,?_⟩;unfold lS before;rw[eg];exact hx2
structure bK (P:Program)(ops:Array Oper):Prop where
 kind:∀(i:Nat) (o:Oper),ops[i]?=some o→∃k,bC P o=some k
 edge:∀(i:Nat) (o:Oper),ops[i]?=some o→∀e∈o.after.toList,Region.binds .any e=true→e.on<i
 guard:∀(i:Nat) (o:Oper) (j:Nat) (want:Bool),ops[i]?=some o→o.guard=some (j,want)→j<i∧lS ops i j
 chain:∀(i j:Nat) (oi oj:Oper),ops[i]?=some oi→ops[j]?=some oj→i<j→bC P oi=some .effect→bC P oj=some .effect→lS ops j i
 regs:∀(i j:Nat) (oi oj:Oper) (d:Tmp),ops[i]?=some oi→ops[j]?=some oj→oi.dst=some d→i≠j→(d∈lU oj ops∨oj.dst=some d)→lS ops (max i j) (min i j)
theorem rN {ops:Array Oper}(h:fQ P ops (before ops)=true):bK P ops:=by
 simp only[fQ,kO]at h;obtain⟨⟨h1,h2⟩,h3⟩:=h;have mem:∀{i:Nat} {o:Oper},ops[i]?=some o→(o,i)∈ops.toList.zipIdx:=by
  intro i o ho;rw[List.mem_zipIdx_iff_getElem?];simpa using ho
 have g1:=fun(i:Nat) (o:Oper) (ho:ops[i]?=some o)=>List.all_eq_true.1 h1 _ (mem ho);refine⟨?_,?_,?_,?_,?_⟩
 ·intro i o ho;have:=g1 i o ho;simp only[kO]at this;exact Option.isSome_iff_exists.1 this.1.1
 ·intro i o ho e he hb;have:=g1 i o ho;simp only[kO]at this;have:=List.all_eq_true.1 this.1.2 e he;simp only[hb,Bool.not_true,Bool.or_false]at this;exact blt_iff.1 this
 ·intro i o j want ho hg;have:=g1 i o ho;simp only[kO,hg]at this;exact⟨blt_iff.1 this.2.1,this.2.2⟩
 ·intro i j oi oj hoi hoj hlt hki hkj;have:=List.all_eq_true.1 (List.all_eq_true.1 h2 _ (mem hoi)) _ (mem hoj);simp only[hki,hkj,beq_self_eq_true,Bool.true_and,blt_iff.2 hlt,Bool.not_true,Bool.false_or]at this;exact this
 ·intro i j oi oj d hoi hoj hd hne hor;unfold aIa at h3;have:=List.all_eq_true.1 h3 _ (mem hoi);simp only[hd]at this;have:=List.all_eq_true.1 this _ (mem hoj);have hb:Nat.beq i j=false:=by
   cases hb:Nat.beq i j with
   |false=>rfl
   |true=>exact absurd (beq_iff.1 hb) hne
  have hx:((lU oj ops).any (Nat.beq d)||aKb oj d)=true:=by
   rcases hor with hor|hor
   ·simp only[Bool.or_eq_true];left;exact List.any_eq_true.2 ⟨d,hor,by simp⟩
   ·simp[aKb,hor]
  simp only[hb,hx,Bool.not_true,Bool.false_or]at this;exact this
def oY (ops:Array Oper)(i:Nat):Option Tmp:=(ops[i]?).bind (·.dst)
def env (ops:Array Oper)(f0:T Value)(rv:Nat→Option Value)(D:Nat→Bool):Nat→Tmp→Option Value
 |0,t=>f0.get t
 |i+1,t=>if D i=true∧oY ops i=some t then rv i else env ops f0 rv D i t
theorem gJ {ops:Array Oper}{f0:T Value}{rv:Nat→Option Value}{D D':Nat→Bool}(t:Tmp):∀(m:Nat),(∀i,i<m→oY ops i=some t→D i=D' i)→env ops f0 rv D m t=env ops f0 rv D' m t
 |0,_=>rfl
 |m+1,h=>by
  simp only[env];have ih:=gJ (f0:=f0) (rv:=rv) (D:=D) (D':=D') t m (fun i hi=>h i (by omega));by_cases hd:oY ops m=some t
  ·rw[h m (by omega) hd,ih]
  ·rw[kA (fun e=>hd e.2),kA (fun e=>hd e.2),ih]
theorem mY {ops:Array Oper}{f0:T Value}{rv:Nat→Option Value}{D:Nat→Bool}(t:Tmp)(j:Nat):∀(m:Nat),j≤m→(∀i,j≤i→i<m→oY ops i=some t→D i=false)→env ops f0 rv D m t=env ops f0 rv D j t
 |0,hj,_=>by rw[show j=0 by omega]
 |m+1,hj,h=>by
  by_cases e:j=m+1
  ·rw[e]
  ·simp only[env];rw[kA (fun hh=>by rw[h m (by omega) (by omega) hh.2]at hh;simp at hh)];exact mY t j m (by omega) (fun i h1 h2=>h i h1 (by omega))
end Go.AM

namespace Go.AM
open Go
variable {P:Program}{NG nt:Nat}{C:CF}
theorem eS {ρ ρ':Operand→Option Value}:∀{xs:List Operand},(∀x∈xs,ρ x=ρ' x)→cQ ρ xs=cQ ρ' xs
 |[],_=>rfl
 |x::xs,h=>by
  simp only[cQ];rw[h x (by simp),eS fun y hy=>h y (by simp[hy])]
theorem jJ {ρ ρ':Operand→Option Value}{x:Option Operand}(h:∀y∈x.toArray,ρ y=ρ' y):iZ ρ x=iZ ρ' x:=by
 cases x with
 |none=>rfl
 |some x=>simp only[iZ];rw[h x (by simp)]
theorem iB {ρ ρ':Operand→Option Value}(place:Nat→Option (Nat×Nat)):∀{ps:List (Nat×Operand)},(∀x∈ps.map (·.2),ρ x=ρ' x)→fY ρ place ps=fY ρ' place ps
 |[],_=>rfl
 |(i,x)::r,h=>by
  simp only[fY];rw[h x (by simp),iB place fun y hy=>h y (by simp at hy⊢;exact .inr hy)]
theorem lG {β:Type}{ρ ρ':Operand→Option Value}(h:H)(o:Oper)(K:Option Value→H→Option β)(he:∀x∈o.op.operands,ρ x=ρ' x):
 aop P C ρ h o K=aop P C ρ' h o K:=by
 obtain⟨dst,op,type,pos,after,guard⟩:=o
 cases op with
 |build t ps=>simp only[Op.operands]at he;simp only[aop];rw[iB _ (fun x hx=>he x (by simpa using hx))]
 |buildSlice t n ps=>
  simp only[Op.operands]at he;have hpp:=fun pl=>iB (ρ:=ρ) (ρ':=ρ') pl (ps:=ps.toList) (fun x hx=>he x (by simpa using hx));simp only[aop,hpp]
 |makeFunc f a b=>
  simp only[Op.operands]at he;cases f<;>simp only[aop]
  rw[eS (xs:=a.toList) (fun x hx=>he x (by simp at hx⊢;exact .inl hx)),eS (xs:=b.toList) (fun x hx=>he x (by simp at hx⊢;exact .inr hx))]
 |slice t x lo hi mx=>
  simp only[Op.operands]at he;simp only[aop];rw[he x (by simp),jJ (x:=lo) (fun y hy=>he y (by simp at hy⊢;simp[hy])),jJ (x:=hi) (fun y hy=>he y (by simp at hy⊢;simp[hy])),jJ (x:=mx) (fun y hy=>he y (by simp at hy⊢;simp[hy]))]
 |call c=>
  obtain⟨callee,args,argTypes⟩:=c;simp only[Op.operands,Call.operands]at he;have hl:cQ ρ args.toList=cQ ρ' args.toList:=eS (fun x hx=>he x (by simp at hx⊢;exact .inr hx))
  cases callee with
  |value f=>simp only[aop];rw[he f (by simp),hl]
  |builtin b=>simp only[aop];rw[hl]
  |invoke a b=>rfl
 |pick c a b=>simp only[Op.operands]at he;simp only[aop];rw[he c (by simp),he a (by simp),he b (by simp)]
 |move x=>simp only[Op.operands]at he;simp only[aop];rw[he x (by simp)]
 |assign x=>simp only[Op.operands]at he;simp only[aop];rw[he x (by simp)]
 |box t x=>simp only[Op.operands]at he;simp only[aop];rw[he x (by simp)]
 |load t x=>simp only[Op.operands]at he;simp only[aop];rw[he x (by simp)]
 |store t x y=>simp only[Op.operands]at he;simp only[aop];rw[he x (by simp),he y (by simp)]
 |nilCheck x=>simp only[Op.operands]at he;simp only[aop];rw[he x (by simp)]
 |binOp op t x y t2=>simp only[Op.operands]at he;simp only[aop];rw[he x (by simp),he y (by simp)]
 |unOp op t x=>simp only[Op.operands]at he;simp only[aop];rw[he x (by simp)]
 |convert s d x=>simp only[Op.operands]at he;simp only[aop];rw[he x (by simp)]
 |makeSlice t l c=>simp only[Op.operands]at he;simp only[aop];rw[he l (by simp),he c (by simp)]
 |fieldAddr t x i=>simp only[Op.operands]at he;simp only[aop];rw[he x (by simp)]
 |field t x i=>simp only[Op.operands]at he;simp only[aop];rw[he x (by simp)]
 |indexAddr t x i=>simp only[Op.operands]at he;simp only[aop];rw[he x (by simp),he i (by simp)]
 |index t x i=>simp only[Op.operands]at he;simp only[aop];rw[he x (by simp),he i (by simp)]
 |extract x i=>simp only[Op.operands]at he;simp only[aop];rw[he x (by simp)]
 |makeMap t r=>cases r<;>rfl
 |lookup t x k co=>simp only[Op.operands]at he;simp only[aop];rw[he x (by simp),he k (by simp)]
 |mapUpdate t x k y=>simp only[Op.operands]at he;simp only[aop];rw[he x (by simp),he k (by simp),he y (by simp)]
 |range t x=>simp only[Op.operands]at he;simp only[aop];rw[he x (by simp)]
 |next x s=>simp only[Op.operands]at he;simp only[aop];rw[he x (by simp)]
 |entry x=>simp only[Op.operands]at he;simp only[aop];rw[he x (by simp)]
 |_=>rfl
structure Trace (P:Program)(C:CF)(NG:Nat)(ops:Array Oper)(F:Nat→T Value)(Hh:Nat→H)(rv:Nat→Option Value):Prop where
 row:∀i,i<ops.size→∃o,ops[i]?=some o∧Row P C NG ops o (F i) (Hh i) (rv i) (F (i+1)) (Hh (i+1))
 c1:∀p i o o' v,p<i→Ran P ops F p o .effect→Ran P ops F i o' .reads→rv i=some v→lS ops i p∨bJ P NG o' (F i) (Hh p) v=true
 c2:∀i p o o' v,i<p→Ran P ops F p o .effect→Ran P ops F i o' .reads→rv i=some v→lS ops p i∨bJ P NG o' (F i) (Hh (p+1)) v=true
 c5:∀i o,Ran P ops F i o .reads→∃v,rv i=some v
section
variable {ops:Array Oper}{F:Nat→T Value}{Hh:Nat→H}{rv:Nat→Option Value}
def Eff (P:Program)(ops:Array Oper)(F:Nat→T Value)(i:Nat):Prop:=∃o,Ran P ops F i o .effect
def Mk (P:Program)(ops:Array Oper)(F:Nat→T Value)(Hh:Nat→H)(i:Nat)(b:Blk):Prop:=
 (∃o,Ran P ops F i o .makes)∧b.owned=true∧Hh (i+1)=(Hh i).push b
theorem Ran.lt {i:Nat}{o:Oper}{k:OK}(h:Ran P ops F i o k):i<ops.size:=(Array.getElem?_eq_some_iff.1 h.1).1
theorem Trace.ran (tr:Trace P C NG ops F Hh rv){i:Nat}{o:Oper}{k:OK}(h:Ran P ops F i o k):
 aop P C (aG NG (F i) (Hh i)) (Hh i) o aQ=some (rv i,Hh (i+1)):=by
 obtain⟨o',ho,_,hr⟩:=tr.row i h.lt;have:o'=o:=by have:=h.1;rw[ho]at this;simpa using this
 subst this;rcases hr with⟨hw,_⟩|⟨_,hr⟩
 ·rw[h.2.1]at hw;simp at hw
 ·exact hr
theorem aHb {o:Oper}(hk:bC P o=some .reads){fr:T Value}{X:H}{v:Value}{h':H}(h:aop P C (aG NG fr X) X o aQ=some (some v,h')):h'=X:=by
 have e:aop P C (aG NG fr X) X o (fun rv _=>rv)=some v:=by rw[cH,h];rfl
 have:=iH hk (fun _=>rfl) ⟨kF _,fun _ _ h=>h⟩ e C;rw[this]at h;simp only[kE,kK,true_and]at h;exact h.symm
theorem Trace.quiet (tr:Trace P C NG ops F Hh rv)(DF:bK P ops){i:Nat}(hi:i<ops.size)(he:¬Eff P ops F i):Hh (i+1)=Hh i∨∃b,Mk P ops F Hh i b:=by
 obtain⟨o,ho,_,hr⟩:=tr.row i hi;rcases hr with⟨_,_,hr⟩|⟨hw,hr⟩
 ·exact .inl hr
 ·obtain⟨k,hk⟩:=DF.kind i o ho
  cases k with
  |effect=>exact absurd ⟨o,ho,hw,hk⟩ he
  |pure=>exact .inl (yV hk hr).1
  |reads=>
   obtain⟨v,hv⟩:=tr.c5 i o ⟨ho,hw,hk⟩;rw[hv]at hr;exact .inl (aHb hk hr)
  |makes=>
   obtain⟨b,hb,he,_⟩:=tP hk hr;exact .inr ⟨b,⟨o,ho,hw,hk⟩,hb,he⟩
theorem Trace.next_succ (hzp:aK P=true)(hC:aM P NG C)(tr:Trace P C NG ops F Hh rv){i:Nat}(hi:i<ops.size):(Hh i).next≤(Hh (i+1)).next:=by
 obtain⟨o,ho,_,hr⟩:=tr.row i hi;rcases hr with⟨_,_,hr⟩|⟨hw,hr⟩
 ·rw[hr];exact kF _
 ·obtain⟨rv',h',hk,hs⟩:=eD hzp hC hr;simp only[aQ,kE,kK]at hk;obtain⟨rfl,rfl⟩:=hk;exact hs.1
theorem Trace.next_mono (hzp:aK P=true)(hC:aM P NG C)(tr:Trace P C NG ops F Hh rv):∀{i j:Nat},i≤j→j≤ops.size→(Hh i).next≤(Hh j).next:=by
 intro i j hij
 induction hij with
 |refl=>intro _;exact kF _
 |step _ ih=>intro hj;exact kG (ih (by omega)) (tr.next_succ hzp hC (by omega))
def Wf (h:H):Prop:=∀id b,h.get id=some b→id<h.next
theorem Trace.between (tr:Trace P C NG ops F Hh rv)(DF:bK P ops){q:Nat}(hw:Wf (Hh q)):∀(d:Nat),q+d≤ops.size→(∀i,q≤i→i<q+d→¬Eff P ops F i)→
 Wf (Hh (q+d))∧LEh (Hh q) (Hh (q+d))∧(∀i b,q≤i→i<q+d→Mk P ops F Hh i b→(Hh (q+d)).get (Hh i).next=some b)∧
 ∀id b,(Hh (q+d)).get id=some b→(Hh q).get id=some b∨∃i,q≤i∧i<q+d∧Mk P ops F Hh i b∧id=(Hh i).next:=by
 intro d
 induction d with
 |zero=>intro _ _;exact⟨hw,⟨kF _,fun _ _ h=>h⟩,fun i b h1 h2=>absurd h2 (by omega),fun id b h=>.inl h⟩
 |succ d ih=>
  intro hle hne;obtain⟨w1,l1,m1,g1⟩:=ih (by omega) (fun i h1 h2=>hne i h1 (by omega));rcases tr.quiet DF (i:=q+d) (by omega) (hne _ (by omega) (by omega))with he|⟨b0,hm⟩
  ·rw[show q+(d+1)=q+d+1 by omega,he];refine⟨w1,l1,fun i b h1 h2 hm=>?_,fun id b h=>?_⟩
   ·by_cases hi:i=q+d
    ·subst hi;have:=congrArg H.next hm.2.2;rw[he]at this;simp at this
    ·exact m1 i b h1 (by omega) hm
   ·rcases g1 id b h with h|⟨i,h1,h2,h3⟩
    ·exact .inl h
    ·exact .inr ⟨i,h1,by omega,h3⟩
  ·have he:=hm.2.2;rw[show q+(d+1)=q+d+1 by omega,he];refine⟨fun id b h=>?_,⟨by simp;have:=l1.1;omega,fun id b h=>?_⟩,fun i b h1 h2 hm'=>?_,fun id b h=>?_⟩
   ·rw[H.get_push]at h;split at h
    ·rename_i e;subst e;simp
    ·have:=w1 id b h;simp;omega
   ·rw[H.get_push];have h':=l1.2 id b h;rw[kA (fun e=>by have:=w1 id b h';omega)];exact h'
   ·rw[H.get_push];by_cases hi:i=q+d
    ·subst hi;rw[kB rfl];have e1:=hm'.2.2;rw[he]at e1;have e2:((Hh (q+d)).push b0).get (Hh (q+d)).next=((Hh (q+d)).push b).get (Hh (q+d)).next:=by rw[e1]
     rw[H.get_push,H.get_push,kB rfl,kB rfl]at e2;exact e2
    ·have h':=m1 i b h1 (by omega) hm';rw[kA (fun e=>by have:=w1 _ b h';omega)];exact h'
   ·rw[H.get_push]at h;split at h
    ·rename_i e;simp only[kE]at h;subst h;exact .inr ⟨q+d,by omega,by omega,hm,e⟩
    ·rcases g1 id b h with h|⟨i,h1,h2,h3⟩
     ·exact .inl h
     ·exact .inr ⟨i,h1,by omega,h3⟩
end
end Go.AM

namespace Go.AM
open Go
section
variable {P:Program}{NG nt:Nat}{C:CF}{ops:Array Oper}{F:Nat→T Value}{Hh:Nat→H}{rv:Nat→Option Value}
def uJ (NG:Nat)(g:Tmp→Option Value):Operand→Option Value
 | .tmp t=>g t
 |x=>aG NG .nil ⟨.nil,0⟩ x
structure Inv (P:Program)(NG nt:Nat)(ops:Array Oper)(F:Nat→T Value)(Hh:Nat→H)(rv:Nat→Option Value)(μ0:Mu)(a0:Act)(w0:World)
 (D:Nat→Bool) (a:Act) (w:World) (μ:Mu) (p:Nat):Prop where
 closed:∀(j:Nat) (o:Oper),D j=true→ops[j]?=some o→∀e∈o.after.toList,Region.binds .any e=true→D e.on=true
 dlt:∀j,D j=true→j<ops.size
 pn:p≤ops.size
 pE:∀i,i<p→Eff P ops F i→D i=true
 pNext:p=ops.size∨(Eff P ops F p∧D p=false)
 wfs:∀i,i≤p→Wf (Hh i)
 rh:RH NG μ (Hh p) w
 sz:nt≤a.tmps.size
 regs:∀(t:Tmp) (v:Value),env ops (F 0) rv D ops.size t=some v→t<nt∧VR μ v (a.tmps.getD t undef)
 dfr:a.defers=a0.defers
 mk1:∀i b,Mk P ops F Hh i b→D i=true→∃l,μ (Hh i).next=some l∧w0.heap.size≤l.blk∧(p≤i→BR μ b l w∧
  (∀id' b' l',(Hh p).get id'=some b'→μ id'=some l'→l'.blk≠l.blk)∧
  (∀i' b',i'≠i→Mk P ops F Hh i' b'→D i'=true→p≤i'→∀l',μ (Hh i').next=some l'→l'.blk≠l.blk))
 mk2:∀i b,Mk P ops F Hh i b→D i=false→μ (Hh i).next=none∧(i<p→(Hh p).get (Hh i).next=some b)
 fresh:∀id,(Hh p).next≤id→id<(Hh ops.size).next→(∀i b,Mk P ops F Hh i b→D i=true→id≠(Hh i).next)→μ id=none
 le0:μ0.le μ
 old0:∀id,id<(Hh 0).next→μ id=μ0 id
 out0:∀id,(Hh ops.size).next≤id→μ id=μ0 id
 size0:w0.heap.size≤w.heap.size
 os0:w.os=w0.os
 tape0:w.tape=w0.tape
 output0:w.output=w0.output
 frame0:∀b,b<w0.heap.size→(∀id k l,(Hh 0).get id=some k→k.owned=true→μ0 id=some l→l.blk≠b)→w.heap[b]?=w0.heap[b]?
 src0:∀id k l,(Hh p).get id=some k→k.owned=true→μ id=some l→w0.heap.size≤l.blk∨∃id0 k0 l0,(Hh 0).get id0=some k0∧k0.owned=true∧μ0 id0=some l0∧l0.blk=l.blk
 unm0:∀id k,(Hh 0).get id=some k→μ0 id=none→(Hh p).get id=some k
 dead0:∀id,id<(Hh 0).next→(Hh 0).get id=none→(Hh p).get id=none
 ro0:∀id k,(Hh p).get id=some k→k.owned=false→(Hh 0).get id=some k
def add (D:Nat→Bool)(j:Nat):Nat→Bool:=fun i=>if i=j then true else D i
theorem nB (D:Nat→Bool)(j:Nat):add D j j=true:=by simp[add]
theorem dF (D:Nat→Bool){i j:Nat}(h:i≠j):add D j i=D i:=by simp[add,h]
theorem jX (D:Nat→Bool)(j:Nat){i:Nat}(h:D i=true):add D j i=true:=by
 unfold add;split
 ·rfl
 ·exact h
theorem eT {D:Nat→Bool}(hcl:∀(j:Nat) (o:Oper),D j=true→ops[j]?=some o→∀e∈o.after.toList,Region.binds .any e=true→D e.on=true):
 ∀(j i:Nat),D j=true→lS ops j i→D i=true:=by
 intro j
 induction j using Nat.strongRecOn with
 |_ j ih=>
  intro i hD hp;obtain⟨o,ho,e,he,hb,hx⟩:=tM hp;have hDe:=hcl j o hD ho e he hb;rcases hx with hx|⟨hlt,hx⟩
  ·rw[←hx];exact hDe
  ·exact ih e.on hlt i hDe hx
theorem iG {D:Nat→Bool}(hcl:∀(j:Nat) (o:Oper),D j=true→ops[j]?=some o→∀e∈o.after.toList,Region.binds .any e=true→D e.on=true)
 {j:Nat} {o:Oper} (ho:ops[j]?=some o) (hr:∀e∈o.after.toList,Region.binds .any e=true→D e.on=true) {i:Nat} (hp:lS ops j i):D i=true:=by
 obtain⟨o',ho',e,he,hb,hx⟩:=tM hp;have:o'=o:=by rw[ho]at ho';simpa using ho'.symm
 subst this;have hDe:=hr e he hb;rcases hx with hx|⟨_,hx⟩
 ·rw[←hx];exact hDe
 ·exact eT hcl _ i hDe hx
theorem Trace.env_at (tr:Trace P C NG ops F Hh rv)(t:Tmp):∀(i:Nat),i≤ops.size→env ops (F 0) rv (fun _=>true) i t=(F i).get t
 |0,_=>rfl
 |i+1,h=>by
  obtain⟨o,ho,hg,_⟩:=tr.row i (by omega);rw[hg t,env,←tr.env_at t i (by omega)];simp[oY,ho]
section
variable {D:Nat→Bool}{j:Nat}{o:Oper}
theorem vJ (DF:bK P ops)(hcl:∀(j:Nat) (o:Oper),D j=true→ops[j]?=some o→∀e∈o.after.toList,Region.binds .any e=true→D e.on=true)
 (hj:D j=false) (ho:ops[j]?=some o) (hr:∀e∈o.after.toList,Region.binds .any e=true→D e.on=true) {t:Tmp} (ht:t∈lU o ops∨o.dst=some t)
 {i:Nat} (hi:oY ops i=some t) (hne:i≠j):D i=decide (i<j):=by
 obtain⟨oi,hoi,hdi⟩:∃oi,ops[i]?=some oi∧oi.dst=some t:=by
  unfold oY at hi
  cases hq:ops[i]? with
  |none=>simp[hq]at hi
  |some oi=>exact⟨oi,rfl,by simpa[hq]using hi⟩
 have hp:=DF.regs i j oi o t hoi ho hdi hne ht;rcases Nat.lt_or_gt_of_ne hne with hlt|hgt
 ·rw[Nat.max_eq_right (by omega),Nat.min_eq_left (by omega)]at hp;rw[iG hcl ho hr hp];simp[hlt]
 ·rw[Nat.max_eq_left (by omega),Nat.min_eq_right (by omega)]at hp
  cases hDi:D i with
  |true=>
   have:=eT hcl i j hDi hp;rw[hj]at this;simp at this
  |false=>simp;omega
theorem aAi (tr:Trace P C NG ops F Hh rv)(DF:bK P ops)(hcl:∀(j:Nat) (o:Oper),D j=true→ops[j]?=some o→∀e∈o.after.toList,Region.binds .any e=true→D e.on=true)
 (hj:D j=false) (ho:ops[j]?=some o) (hr:∀e∈o.after.toList,Region.binds .any e=true→D e.on=true) {t:Tmp} (ht:t∈lU o ops):
 env ops (F 0) rv D ops.size t=(F j).get t:=by
 have hlt:j<ops.size:=(Array.getElem?_eq_some_iff.1 ho).1;rw[mY t j ops.size (by omega) (fun i h1 h2 hd=>?_),←tr.env_at t j (by omega)]
 ·refine gJ t j fun i hi hd=>?_;rw[vJ DF hcl hj ho hr (.inl ht) hd (by omega)];simp[hi]
 ·by_cases e:i=j
  ·rw[e];exact hj
  ·rw[vJ DF hcl hj ho hr (.inl ht) hd e];simp;omega
theorem aKz (DF:bK P ops)(hcl:∀(j:Nat) (o:Oper),D j=true→ops[j]?=some o→∀e∈o.after.toList,Region.binds .any e=true→D e.on=true)
 (hj:D j=false) (ho:ops[j]?=some o) (hr:∀e∈o.after.toList,Region.binds .any e=true→D e.on=true) (f0:T Value) (t:Tmp):
 env ops f0 rv (add D j) ops.size t=if o.dst=some t then rv j else env ops f0 rv D ops.size t:=by
 have hlt:j<ops.size:=(Array.getElem?_eq_some_iff.1 ho).1;by_cases hd:o.dst=some t
 ·rw[kB hd];rw[mY t (j+1) ops.size (by omega) (fun i h1 h2 hdi=>?_)]
  ·simp only[env];rw[kB ⟨nB D j,by simp[oY,ho,hd]⟩]
  ·rw[dF D (by omega),vJ DF hcl hj ho hr (.inr hd) hdi (by omega)];simp;omega
 ·rw[kA hd];refine gJ t ops.size fun i hi hdi=>?_;rw[dF D (fun e=>by subst e;simp[oY,ho,hd]at hdi)]
end
section
variable {μ0:Mu}{a0:Act}{w0:World}{D:Nat→Bool}{a:Act}{w:World}{μ:Mu}{p:Nat}
theorem Inv.ev (inv:Inv P NG nt ops F Hh rv μ0 a0 w0 D a w μ p):EvR μ (uJ NG (env ops (F 0) rv D ops.size)) a:=by
 intro x v hv
 cases x with
 |tmp t=>exact(inv.regs t v hv).2
 |const u=>
  simp only[uJ,aG]at hv;obtain⟨hp,hv⟩:=aA hv;simp only[kE]at hv;subst hv;exact VR.of_plain μ _ hp
 |global g=>
  simp only[uJ,aG]at hv;obtain⟨hg,hv⟩:=aA hv;simp only[kE]at hv;subst hv;obtain⟨l,hl,e1,e2⟩:=inv.rh.gl g (blt_iff.1 hg);have:=VR.ptr (off:=0) hl;rw[e1,e2]at this;exact this
 |func f=>
  simp only[uJ,aG,kE]at hv;subst hv;exact .func f [] [] [] [] rfl rfl (by simp) (by simp)
theorem Inv.look (inv:Inv P NG nt ops F Hh rv μ0 a0 w0 D a w μ p)(tr:Trace P C NG ops F Hh rv)(DF:bK P ops){j:Nat}{o:Oper}(hj:D j=false)(ho:ops[j]?=some o)
 (hr:∀e∈o.after.toList,Region.binds .any e=true→D e.on=true) (X:H):∀x∈o.op.operands,aG NG (F j) X x=uJ NG (env ops (F 0) rv D ops.size) x:=by
 intro x hx
 cases x with
 |tmp t=>
  simp only[aG,uJ];rw[aAi tr DF inv.closed hj ho hr];unfold lU;exact List.mem_append_left _ (List.mem_filterMap.2 ⟨.tmp t,by simpa using hx,rfl⟩)
 |_=>rfl
theorem Inv.wanted (inv:Inv P NG nt ops F Hh rv μ0 a0 w0 D a w μ p)(tr:Trace P C NG ops F Hh rv)(DF:bK P ops){j:Nat}{o:Oper}(hj:D j=false)(ho:ops[j]?=some o)
 (hr:∀e∈o.after.toList,Region.binds .any e=true→D e.on=true) {b:Bool} (hw:cA (F j) ops o=some b):Region.wanted o (yielded ops a.tmps)=b:=by
 unfold cA at hw;split at hw
 ·rename_i hg;simp only[kE]at hw;subst hw;simp[Region.wanted,hg]
 ·rename_i g want hg;split at hw
  ·simp at hw
  ·rename_i d hd;have he:=aAi tr DF inv.closed hj ho hr (t:=d) (by unfold lU;rw[hg];simp[hd]);have fr:∀v,(F j).get d=some v→d<nt∧VR μ v (a.tmps.getD d undef):=fun v hv=>inv.regs d v (by rw[he];exact hv);split at hw
   ·rename_i x hx;simp only[kE]at hw;subst hw;obtain⟨h1,h2⟩:=fr _ hx;have hlt:d<a.tmps.size:=kH h1 inv.sz;have e:a.tmps[d]?=some (a.tmps.getD d undef):=by
     rw[pI hlt];simp only[pG,pI hlt,pC]
    simp only[Region.wanted,hg,Go.yielded,hd,pD,e,h2.bool_inv];cases x<;>cases want<;>rfl
   ·rename_i vs hx;simp only[kE]at hw;subst hw;obtain⟨h1,h2⟩:=fr _ hx;have hlt:d<a.tmps.size:=kH h1 inv.sz;have e:a.tmps[d]?=some (a.tmps.getD d undef):=by
     rw[pI hlt];simp only[pG,pI hlt,pC]
    simp only[Region.wanted,hg,Go.yielded,hd,pD,e];generalize a.tmps.getD d undef=u at h2;cases h2;rfl
   ·simp at hw
theorem Inv.regs_add (inv:Inv P NG nt ops F Hh rv μ0 a0 w0 D a w μ p)(DF:bK P ops)(hd:dJ nt ops=true){j:Nat}{o:Oper}(hj:D j=false)(ho:ops[j]?=some o)
 (hr:∀e∈o.after.toList,Region.binds .any e=true→D e.on=true) {μ':Mu} (hle:μ.le μ') {cv:Value} (hv:RV μ' (rv j) cv):
 ∀(t:Tmp) (v:Value),env ops (F 0) rv (add D j) ops.size t=some v→t<nt∧VR μ' v ((a.put o.dst cv).tmps.getD t undef):=by
 intro t v ht;rw[aKz DF inv.closed hj ho hr]at ht;split at ht
 ·rename_i hdt;have htn:=vT hd ho t hdt;have hts:t<a.tmps.size:=kH htn inv.sz;refine⟨htn,?_⟩;rw[ht]at hv;simp only[hdt,Act.put,pG,Array.getElem?_setIfInBounds,hts,if_true,pC];exact hv
 ·rename_i hdt;obtain⟨h1,h2⟩:=inv.regs t v ht;refine⟨h1,?_⟩;have:(a.put o.dst cv).tmps.getD t undef=a.tmps.getD t undef:=by
   cases hdo:o.dst with
   |none=>rfl
   |some d=>
    have hne:d≠t:=fun e=>hdt (by rw[hdo,e]);simp only[Act.put,pG,Array.getElem?_setIfInBounds_ne hne]
  rw[this];exact h2.mono hle
theorem mG {j:Nat}{o:Oper}(hcl:∀(j:Nat) (o:Oper),D j=true→ops[j]?=some o→∀e∈o.after.toList,Region.binds .any e=true→D e.on=true)
 (ho:ops[j]?=some o) (hr:∀e∈o.after.toList,Region.binds .any e=true→D e.on=true):
 ∀(i:Nat) (o':Oper),add D j i=true→ops[i]?=some o'→∀e∈o'.after.toList,Region.binds .any e=true→add D j e.on=true:=by
 intro i o' hD ho' e he hb;have key:D e.on=true:=by
  by_cases hi:i=j
  ·subst hi;have:o'=o:=by rw[ho]at ho';simpa using ho'.symm
   subst this;exact hr e he hb
  ·rw[dF D hi]at hD;exact hcl i o' hD ho' e he hb
 unfold add;split
 ·rfl
 ·exact key
theorem Inv.quiet (inv:Inv P NG nt ops F Hh rv μ0 a0 w0 D a w μ p)(DF:bK P ops)(hd:dJ nt ops=true){j:Nat}{o:Oper}(hj:D j=false)(ho:ops[j]?=some o)
 (hr:∀e∈o.after.toList,Region.binds .any e=true→D e.on=true) (hne:¬Eff P ops F j) (hnm:∀b,¬Mk P ops F Hh j b)
 {w':World} {cv:Value} (hrh:RH NG μ (Hh p) w') (hsz:w.heap.size≤w'.heap.size) (hos:w'.os=w.os) (htp:w'.tape=w.tape) (hout:w'.output=w.output)
 (hfr:∀b,b<w.heap.size→(∀id k l,(Hh p).get id=some k→k.owned=true→μ id=some l→l.blk≠b)→w'.heap[b]?=w.heap[b]?) (hv:RV μ (rv j) cv):
 Inv P NG nt ops F Hh rv μ0 a0 w0 (add D j) (a.put o.dst cv) w' μ p where
 closed:=mG inv.closed ho hr
 dlt:=fun i hi=>by
  by_cases e:i=j
  ·subst e;exact(Array.getElem?_eq_some_iff.1 ho).1
  ·rw[dF D e]at hi;exact inv.dlt i hi
 pn:=inv.pn
 pE:=fun i hi he=>by
  unfold add;split
  ·rfl
  ·exact inv.pE i hi he
 pNext:=by
  rcases inv.pNext with h|⟨h1,h2⟩
  ·exact .inl h
  ·have hpj:p≠j:=fun e=>by subst e;exact hne h1
   exact .inr ⟨h1,by rw[dF D hpj];exact h2⟩
 wfs:=inv.wfs
 rh:=hrh
 sz:=by
  have:=inv.sz;cases hdo:o.dst<;>simp[Act.put]<;>exact this
 regs:=inv.regs_add DF hd hj ho hr (fun _ _ h=>h) hv
 dfr:=(dS _ _ _).trans inv.dfr
 mk1:=fun i b hm hi=>by
  have hij:i≠j:=fun e=>hnm b (e▸hm);rw[dF D hij]at hi;obtain⟨l,h1,h2,h3⟩:=inv.mk1 i b hm hi;refine⟨l,h1,h2,fun hp=>?_⟩;obtain⟨h4,h5,h6⟩:=h3 hp;refine⟨h4.congr (hfr _ (inv.rh.bd _ _ h1) (fun id k l' hk _ hl=>h5 id k l' hk hl)),h5,fun i' b' hne' hm' hi' hp'=>?_⟩;have hij':i'≠j:=fun e=>hnm b' (e▸hm');rw[dF D hij']at hi';exact h6 i' b' hne' hm' hi' hp'
 mk2:=fun i b hm hi=>by
  have hij:i≠j:=fun e=>hnm b (e▸hm);rw[dF D hij]at hi;exact inv.mk2 i b hm hi
 fresh:=fun id h1 h2 h3=>inv.fresh id h1 h2 fun i b hm hi=>h3 i b hm (jX D j hi)
 le0:=inv.le0
 old0:=inv.old0
 out0:=inv.out0
 size0:=kG inv.size0 hsz
 os0:=hos.trans inv.os0
 tape0:=htp.trans inv.tape0
 output0:=hout.trans inv.output0
 frame0:=fun b hb hn=>by
  rw[hfr b (kH hb inv.size0) ?_,inv.frame0 b hb hn];intro id k l hk ho hl e;rcases inv.src0 id k l hk ho hl with h|⟨id0,k0,l0,g1,g2,g3,g4⟩
  ·omega
  ·exact hn id0 k0 l0 g1 g2 g3 (g4.trans e)
 src0:=inv.src0
 unm0:=inv.unm0
 dead0:=inv.dead0
 ro0:=inv.ro0
theorem Inv.make (inv:Inv P NG nt ops F Hh rv μ0 a0 w0 D a w μ p)(DF:bK P ops)(hd:dJ nt ops=true){j:Nat}{o:Oper}(hj:D j=false)(ho:ops[j]?=some o)
 (hr:∀e∈o.after.toList,Region.binds .any e=true→D e.on=true) (hne:¬Eff P ops F j) {b:Blk} (hm:Mk P ops F Hh j b)
 (hmono:∀i i',i≤i'→i'≤ops.size→(Hh i).next≤(Hh i').next) (hng:NG≤(Hh 0).next)
 {w':World} {cv:Value} {μ':Mu} {l:Loc} (hl:μ' (Hh j).next=some l) (hlb:w.heap.size≤l.blk) (hb:BR μ' b l w') (hoth:∀id,id≠(Hh j).next→μ' id=μ id)
 (hbd:∀id l,μ' id=some l→l.blk<w'.heap.size)
 (hsz:w.heap.size≤w'.heap.size) (hos:w'.os=w.os) (htp:w'.tape=w.tape) (hout:w'.output=w.output)
 (hfr:∀b,b<w.heap.size→w'.heap[b]?=w.heap[b]?) (hv:RV μ' (rv j) cv):
 Inv P NG nt ops F Hh rv μ0 a0 w0 (add D j) (a.put o.dst cv) w' μ' p:=by
 have hjn:j<ops.size:=(Array.getElem?_eq_some_iff.1 ho).1;obtain⟨hun,hmem⟩:=inv.mk2 j b hm hj;have hle:μ.le μ':=fun id m hid=>by
  by_cases e:id=(Hh j).next
  ·rw[e,hun]at hid;simp at hid
  ·rw[hoth id e];exact hid
 have hnext:(Hh (j+1)).next=(Hh j).next+1:=by rw[hm.2.2];simp
 have ids:∀i b',Mk P ops F Hh i b'→i≠j→(Hh i).next≠(Hh j).next:=by
  intro i b' hm' hij;have hn':(Hh (i+1)).next=(Hh i).next+1:=by rw[hm'.2.2];simp
  obtain⟨o',ho'⟩:=hm'.1;have hin:=ho'.lt;rcases Nat.lt_or_gt_of_ne hij with h|h
  ·have:=hmono (i+1) j (by omega) (by omega);omega
  ·have:=hmono (j+1) i (by omega) (by omega);omega
 have hj0:(Hh 0).next≤(Hh j).next:=hmono 0 j (by omega) (by omega);have heap_new:∀b',(Hh p).get (Hh j).next=some b'→j<p:=by
  intro b' hb';rcases Nat.lt_or_ge j p with h|h
  ·exact h
  ·have h1:=inv.rh.wf _ _ hb';have h2:=hmono p j h (by omega);omega
 have hdisj:∀id m,μ id=some m→m.blk≠l.blk:=fun id m hid=>by have:=inv.rh.bd id m hid;omega
 exact{
 closed:=mG inv.closed ho hr
 dlt:=fun i hi=>by
  by_cases e:i=j
  ·subst e;exact hjn
  ·rw[dF D e]at hi;exact inv.dlt i hi
 pn:=inv.pn
 pE:=fun i hi he=>jX D j (inv.pE i hi he)
 pNext:=by
  rcases inv.pNext with h|⟨h1,h2⟩
  ·exact .inl h
  ·have hpj:p≠j:=fun e=>by subst e;exact hne h1
   exact .inr ⟨h1,by rw[dF D hpj];exact h2⟩
 wfs:=inv.wfs
 rh:={
  ng:=inv.rh.ng
  wf:=inv.rh.wf
  br:=fun id c m hc hid=>by
   by_cases e:id=(Hh j).next
   ·subst e;have hjp:=heap_new c hc;have:=hmem hjp;rw[this]at hc;simp only[kE]at hc;subst hc;rw[hl]at hid;simp only[kE]at hid;subst hid;exact hb
   ·rw[hoth id e]at hid;exact((inv.rh.br id c m hc hid).congr (hfr _ (inv.rh.bd _ _ hid))).mono hle
  inj:=fun id c m id' c' m' hc hco hid hc' hid' hne'=>by
   by_cases e:id=(Hh j).next
   ·subst e;rw[hl]at hid;simp only[kE]at hid;subst hid;rw[hoth id' hne']at hid';exact hdisj id' m' hid'
   ·rw[hoth id e]at hid;by_cases e':id'=(Hh j).next
    ·subst e';rw[hl]at hid';simp only[kE]at hid';subst hid';exact fun x=>hdisj id m hid x.symm
    ·rw[hoth id' e']at hid';exact inv.rh.inj id c m id' c' m' hc hco hid hc' hid' hne'
  bd:=hbd
  gl:=fun g hg=>by
   rw[hoth g (by omega)];exact inv.rh.gl g hg}
 sz:=by
  have:=inv.sz;cases hdo:o.dst<;>simp[Act.put]<;>exact this
 regs:=inv.regs_add DF hd hj ho hr hle hv
 dfr:=(dS _ _ _).trans inv.dfr
 mk1:=fun i b' hm' hi=>by
  by_cases hij:i=j
  ·subst hij;have hbb:b'=b:=by
    have e1:=hm'.2.2;rw[hm.2.2]at e1;have e2:((Hh i).push b).get (Hh i).next=((Hh i).push b').get (Hh i).next:=by rw[e1]
    rw[H.get_push,H.get_push,kB rfl,kB rfl]at e2;simpa using e2.symm
   subst hbb;refine⟨l,hl,kG inv.size0 hlb,fun hp=>⟨hb,fun id' c' m' hc' hid'=>?_,fun i' b2 hne' hm2 hi2 hp2 m' hid'=>?_⟩⟩
   ·have hne2:id'≠(Hh i).next:=fun e=>by subst e;have:=heap_new c' hc';omega
    rw[hoth id' hne2]at hid';exact hdisj id' m' hid'
   ·rw[hoth _ (ids i' b2 hm2 hne')]at hid';exact hdisj _ m' hid'
  ·rw[dF D hij]at hi;obtain⟨m,h1,h2,h3⟩:=inv.mk1 i b' hm' hi;refine⟨m,by rw[hoth _ (ids i b' hm' hij)];exact h1,h2,fun hp=>?_⟩;obtain⟨h4,h5,h6⟩:=h3 hp;refine⟨(h4.congr (hfr _ (inv.rh.bd _ _ h1))).mono hle,fun id' c' m' hc' hid'=>?_,fun i' b2 hne' hm2 hi2 hp2 m' hid'=>?_⟩
   ·by_cases e:id'=(Hh j).next
    ·subst e;rw[hl]at hid';simp only[kE]at hid';subst hid';have:=inv.rh.bd _ _ h1;omega
    ·rw[hoth id' e]at hid';exact h5 id' c' m' hc' hid'
   ·by_cases e:i'=j
    ·subst e;rw[hl]at hid';simp only[kE]at hid';subst hid';have:=inv.rh.bd _ _ h1;omega
    ·rw[dF D e]at hi2;rw[hoth _ (ids i' b2 hm2 e)]at hid';exact h6 i' b2 hne' hm2 hi2 hp2 m' hid'
 mk2:=fun i b' hm' hi=>by
  have hij:i≠j:=fun e=>by subst e;rw[nB]at hi;simp at hi
  rw[dF D hij]at hi;rw[hoth _ (ids i b' hm' hij)];exact inv.mk2 i b' hm' hi
 fresh:=fun id h1 h2 h3=>by
  rw[hoth id (h3 j b hm (nB D j))];exact inv.fresh id h1 h2 fun i b' hm' hi=>h3 i b' hm' (jX D j hi)
 le0:=fun id m hid=>hle _ _ (inv.le0 _ _ hid)
 old0:=fun id hid=>by rw[hoth id (by omega)];exact inv.old0 id hid
 out0:=fun id hid=>by
  have:=hmono (j+1) ops.size (by omega) (kF _);rw[hoth id (by omega)];exact inv.out0 id hid
 size0:=kG inv.size0 hsz
 os0:=hos.trans inv.os0
 tape0:=htp.trans inv.tape0
 output0:=hout.trans inv.output0
 frame0:=fun b' hb' hn=>by
  rw[hfr b' (kH hb' inv.size0),inv.frame0 b' hb' hn]
 src0:=fun id k m hk hko hid=>by
  by_cases e:id=(Hh j).next
  ·subst e;rw[hl]at hid;simp only[kE]at hid;subst hid;exact .inl (kG inv.size0 hlb)
  ·rw[hoth id e]at hid;exact inv.src0 id k m hk hko hid
 unm0:=inv.unm0
 dead0:=inv.dead0
 ro0:=inv.ro0}
end
end
end Go.AM

namespace Go.AM
open Go
section
variable {P:Program}{NG nt:Nat}{C:CF}{ops:Array Oper}{F:Nat→T Value}{Hh:Nat→H}{rv:Nat→Option Value}
variable {μ0:Mu}{a0:Act}{w0:World}{D:Nat→Bool}{a:Act}{w:World}{μ:Mu}{p:Nat}
theorem Mk.next {i:Nat}{b:Blk}(h:Mk P ops F Hh i b):(Hh (i+1)).next=(Hh i).next+1:=by rw[h.2.2];simp
theorem Mk.not_eff {i:Nat}{b:Blk}(h:Mk P ops F Hh i b):¬Eff P ops F i:=by
 rintro⟨o,ho⟩;obtain⟨o',ho'⟩:=h.1;have:o'=o:=by have:=ho.1;rw[ho'.1]at this;simpa using this
 subst this;have:=ho.2.2;rw[ho'.2.2]at this;simp at this
theorem Inv.fresh_step (inv:Inv P NG nt ops F Hh rv μ0 a0 w0 D a w μ p)(hmono:∀i i',i≤i'→i'≤ops.size→(Hh i).next≤(Hh i').next)(hE:Eff P ops F p):Fresh μ (Hh p).next (Hh (p+1)).next:=by
 intro id h1 h2;obtain⟨o,ho⟩:=hE;have hp:=ho.lt;have:=hmono (p+1) ops.size (by omega) (kF _);refine inv.fresh id h1 (by omega) fun i b hm hi e=>?_;obtain⟨o',ho'⟩:=hm.1;have hin:=ho'.lt;have hne:i≠p:=fun e=>hm.not_eff (e▸⟨o,ho⟩);have hn:=hm.next;rcases Nat.lt_or_gt_of_ne hne with h|h
 ·have:=hmono (i+1) p (by omega) (by omega);omega
 ·have:=hmono (p+1) i (by omega) (by omega);omega
theorem Inv.effect (inv:Inv P NG nt ops F Hh rv μ0 a0 w0 D a w μ p)(tr:Trace P C NG ops F Hh rv)(DF:bK P ops)(hd:dJ nt ops=true){o:Oper}(hj:D p=false)(ho:ops[p]?=some o)
 (hr:∀e∈o.after.toList,Region.binds .any e=true→D e.on=true) (hE:Eff P ops F p)
 (hmono:∀i i',i≤i'→i'≤ops.size→(Hh i).next≤(Hh i').next) (hwf0:Wf (Hh 0))
 {w':World} {cv:Value} {μ':Mu} (st:Step NG μ (Hh p) w μ' (Hh (p+1)) w') (hv:RV μ' (rv p) cv):
 ∃p',Inv P NG nt ops F Hh rv μ0 a0 w0 (add D p) (a.put o.dst cv) w' μ' p':=by
 have hpn:p<ops.size:=(Array.getElem?_eq_some_iff.1 ho).1;have next:∀d,d≤ops.size-(p+1)→∃p',p+1≤p'∧p'≤p+1+d∧(∀i,p+1≤i→i<p'→¬Eff P ops F i)∧(p'=p+1+d∨Eff P ops F p'):=by
  intro d
  induction d with
  |zero=>intro _;exact⟨p+1,by omega,by omega,fun i h1 h2=>absurd h2 (by omega),.inl rfl⟩
  |succ d ih=>
   intro hdl;obtain⟨p',h1,h2,h3,h4⟩:=ih (by omega);by_cases hE':Eff P ops F p'
   ·exact⟨p',h1,by omega,h3,.inr hE'⟩
   ·rcases h4 with h4|h4
    ·refine⟨p'+1,by omega,by omega,fun i g1 g2=>?_,.inl (by omega)⟩;by_cases e:i=p'
     ·subst e;exact hE'
     ·exact h3 i g1 (by omega)
    ·exact absurd h4 hE'
 obtain⟨p',hp1,hp2,hnoE,hlast⟩:=next (ops.size-(p+1)) (kF _)
 have hpn':p'≤ops.size:=by omega
 obtain⟨d,rfl⟩:∃d,p'=p+1+d:=⟨p'-(p+1),by omega⟩;obtain⟨bwf,ble,bmk,bget⟩:=tr.between DF (q:=p+1) st.rh.wf d hpn' hnoE;have hmk_ne:∀i b,Mk P ops F Hh i b→i≠p:=fun i b hm e=>hm.not_eff (e▸hE);have hmk_lt:∀i b,Mk P ops F Hh i b→i<ops.size:=fun i b hm=>by obtain⟨o',ho'⟩:=hm.1;exact ho'.lt
 have idlo:∀i b,Mk P ops F Hh i b→i<p→(Hh i).next<(Hh p).next:=fun i b hm hi=>by
  have:=hmono (i+1) p (by omega) (by omega);have:=hm.next;omega
 have idhi:∀i b,Mk P ops F Hh i b→p<i→(Hh (p+1)).next≤(Hh i).next:=fun i b hm hi=>
  hmono (p+1) i (by omega) (by have:=hmk_lt i b hm;omega)
 have X:∀(l:Loc),l.blk<w.heap.size→(∀id' b' l',(Hh p).get id'=some b'→μ id'=some l'→l'.blk≠l.blk)→
  ∀id' c' m',(Hh (p+1)).get id'=some c'→μ' id'=some m'→m'.blk≠l.blk:=by
  intro l hlt hdis id' c' m' hc' hm'
  cases hco:c'.owned with
  |true=>
   rcases st.src id' c' m' hc' hco hm' with h|⟨id0,k0,l0,g1,g2,g3,g4⟩
   ·omega
   ·rw[←g4];exact hdis id0 k0 l0 g1 g3
  |false=>
   have h0:=st.ro id' c' hc' hco;rw[st.old id' (st.wf id' c' h0)]at hm';exact hdis id' c' m' h0 hm'
 have fl:∀i b,Mk P ops F Hh i b→p<i→D i=true→∃l,μ (Hh i).next=some l∧μ' (Hh i).next=some l∧w0.heap.size≤l.blk∧BR μ' b l w'∧
  (∀id' c' m',(Hh (p+1)).get id'=some c'→μ' id'=some m'→m'.blk≠l.blk)∧
  (∀i' b',i'≠i→Mk P ops F Hh i' b'→D i'=true→p<i'→∀l',μ' (Hh i').next=some l'→l'.blk≠l.blk):=by
  intro i b hm hpi hDi;obtain⟨l,h1,h2,h3⟩:=inv.mk1 i b hm hDi;obtain⟨h4,h5,h6⟩:=h3 (by omega);have hlt:=inv.rh.bd _ _ h1;refine⟨l,h1,st.le _ _ h1,h2,(h4.congr (st.frame _ hlt fun id k l' hk _ hl=>h5 id k l' hk hl)).mono st.le,X l hlt h5,fun i' b' hne hm' hD' hp' l' hl'=>?_⟩;obtain⟨l2,g1,_,_⟩:=inv.mk1 i' b' hm' hD';have:=st.le _ _ g1;rw[hl']at this;simp only[kE]at this;subst this;exact h6 i' b' hne hm' hD' (by omega) l' g1
 have unm':∀i b,Mk P ops F Hh i b→D i=false→μ' (Hh i).next=none:=by
  intro i b hm hDi;have h0:=(inv.mk2 i b hm hDi).1;rcases Nat.lt_or_gt_of_ne (hmk_ne i b hm)with h|h
  ·rw[st.old _ (idlo i b hm h)];exact h0
  ·rw[st.out _ (idhi i b hm h)];exact h0
 have alive:∀id c m,(Hh (p+1+d)).get id=some c→μ' id=some m→(Hh (p+1)).get id=some c∨∃i,p+1≤i∧i<p+1+d∧Mk P ops F Hh i c∧D i=true∧id=(Hh i).next:=by
  intro id c m hc hm;rcases bget id c hc with h|⟨i,h1,h2,h3,h4⟩
  ·exact .inl h
  ·right;refine⟨i,h1,h2,h3,?_,h4⟩
   cases hDi:D i with
   |true=>rfl
   |false=>rw[h4,unm' i c h3 hDi]at hm;simp at hm
 refine⟨p+1+d,{
  closed:=mG inv.closed ho hr
  dlt:=fun i hi=>by
   by_cases e:i=p
   ·subst e;exact hpn
   ·rw[dF D e]at hi;exact inv.dlt i hi
  pn:=hpn'
  pE:=fun i hi he=>by
   by_cases e:i=p
   ·subst e;exact nB D _
   ·by_cases hlt:i<p
    ·exact jX D p (inv.pE i hlt he)
    ·exact absurd he (hnoE i (by omega) hi)
  pNext:=by
   rcases hlast with h|h
   ·left;omega
   ·right;refine⟨h,?_⟩;rw[dF D (by omega)]
    cases hD:D (p+1+d)with
    |false=>rfl
    |true=>
     obtain⟨o1,ho1⟩:=hE;obtain⟨o2,ho2⟩:=h;have hp:=DF.chain p (p+1+d) o1 o2 ho1.1 ho2.1 (by omega) ho1.2.2 ho2.2.2;have:=eT inv.closed _ p hD hp;rw[hj]at this;simp at this
  wfs:=fun i hi=>by
   by_cases hle:i≤p
   ·exact inv.wfs i hle
   ·obtain⟨k,rfl⟩:∃k,i=p+1+k:=⟨i-(p+1),by omega⟩;exact(tr.between DF (q:=p+1) st.rh.wf k (by omega) fun i h1 h2=>hnoE i h1 (by omega)).1
  rh:={
   ng:=kG st.rh.ng ble.1
   wf:=bwf
   br:=fun id c m hc hm=>by
    rcases alive id c m hc hm with h|⟨i,h1,h2,h3,h4,h5⟩
    ·exact st.rh.br id c m h hm
    ·obtain⟨l,_,g2,_,g4,_⟩:=fl i c h3 (by omega) h4;rw[h5,g2]at hm;simp only[kE]at hm;subst hm;exact g4
   inj:=fun id c m id' c' m' hc hco hm hc' hm' hne=>by
    rcases alive id c m hc hm with h|⟨i,h1,h2,h3,h4,h5⟩
    ·rcases alive id' c' m' hc' hm' with h'|⟨i',h1',h2',h3',h4',h5'⟩
     ·exact st.rh.inj id c m id' c' m' h hco hm h' hm' hne
     ·obtain⟨l,_,g2,_,_,g5,_⟩:=fl i' c' h3' (by omega) h4';rw[h5',g2]at hm';simp only[kE]at hm';subst hm';exact fun e=>g5 id c m h hm e.symm
    ·obtain⟨l,_,g2,_,_,g5,g6⟩:=fl i c h3 (by omega) h4;rw[h5,g2]at hm;simp only[kE]at hm;subst hm;rcases alive id' c' m' hc' hm' with h'|⟨i',h1',h2',h3',h4',h5'⟩
     ·exact g5 id' c' m' h' hm'
     ·exact g6 i' c' (fun e=>hne (by rw[h5,h5',e])) h3' h4' (by omega) m' (by rw[←h5'];exact hm')
   bd:=st.rh.bd
   gl:=st.rh.gl}
  sz:=by
   have:=inv.sz;cases hdo:o.dst<;>simp[Act.put]<;>exact this
  regs:=inv.regs_add DF hd hj ho hr st.le hv
  dfr:=(dS _ _ _).trans inv.dfr
  mk1:=fun i b hm hi=>by
   rw[dF D (hmk_ne i b hm)]at hi;rcases Nat.lt_or_gt_of_ne (hmk_ne i b hm)with hlt|hgt
   ·obtain⟨l,h1,h2,_⟩:=inv.mk1 i b hm hi;exact⟨l,st.le _ _ h1,h2,fun h=>absurd h (by omega)⟩
   ·obtain⟨l,_,g2,g3,g4,g5,g6⟩:=fl i b hm hgt hi;refine⟨l,g2,g3,fun hp=>⟨g4,fun id' c' m' hc' hm'=>?_,fun i' b' hne hm' hi' hp' l' hl'=>?_⟩⟩
    ·rcases alive id' c' m' hc' hm' with h'|⟨i',h1',h2',h3',h4',h5'⟩
     ·exact g5 id' c' m' h' hm'
     ·exact g6 i' c' (by omega) h3' h4' (by omega) m' (by rw[←h5'];exact hm')
    ·rw[dF D (hmk_ne i' b' hm')]at hi';exact g6 i' b' hne hm' hi' (by omega) l' hl'
  mk2:=fun i b hm hi=>by
   rw[dF D (hmk_ne i b hm)]at hi;refine⟨unm' i b hm hi,fun hlt=>?_⟩;rcases Nat.lt_or_gt_of_ne (hmk_ne i b hm)with h|h
   ·have h0:=inv.mk2 i b hm hi;exact ble.2 _ _ (st.unm _ _ (h0.2 h) h0.1)
   ·exact bmk i b (by omega) hlt hm
  fresh:=fun id h1 h2 h3=>by
   have hle:=ble.1;rw[st.out id (by omega)];have:=st.next;exact inv.fresh id (by omega) h2 fun i b hm hi=>h3 i b hm (jX D p hi)
  le0:=fun id m hm=>st.le _ _ (inv.le0 _ _ hm)
  old0:=fun id hid=>by
   have:=hmono 0 p (by omega) (by omega);rw[st.old id (by omega)];exact inv.old0 id hid
  out0:=fun id hid=>by
   have:=hmono (p+1) ops.size (by omega) (kF _);rw[st.out id (by omega)];exact inv.out0 id hid
  size0:=kG inv.size0 st.size
  os0:=st.os.trans inv.os0
  tape0:=st.tape.trans inv.tape0
  output0:=st.output.trans inv.output0
  frame0:=fun b hb hn=>by
   rw[st.frame b (kH hb inv.size0) ?_,inv.frame0 b hb hn];intro id k l hk hko hl e;rcases inv.src0 id k l hk hko hl with h|⟨id0,k0,l0,g1,g2,g3,g4⟩
   ·omega
   ·exact hn id0 k0 l0 g1 g2 g3 (g4.trans e)
  src0:=fun id k m hk hko hm=>by
   rcases alive id k m hk hm with h|⟨i,h1,h2,h3,h4,h5⟩
   ·rcases st.src id k m h hko hm with hs|⟨id0,k0,l0,g1,g2,g3,g4⟩
    ·exact .inl (kG inv.size0 hs)
    ·rcases inv.src0 id0 k0 l0 g1 g2 g3 with hs|⟨id1,k1,l1,f1,f2,f3,f4⟩
     ·exact .inl (g4▸hs)
     ·exact .inr ⟨id1,k1,l1,f1,f2,f3,f4.trans g4⟩
   ·obtain⟨l,_,g2,g3,_⟩:=fl i k h3 (by omega) h4;rw[h5,g2]at hm;simp only[kE]at hm;subst hm;exact .inl g3
  unm0:=fun id k hk hm=>by
   refine ble.2 _ _ (st.unm id k (inv.unm0 id k hk hm) ?_);rw[inv.old0 id (hwf0 id k hk)];exact hm
  dead0:=fun id hid hn=>by
   have h1:=hmono 0 p (by omega) (by omega);have h2:=st.dead id (by omega) (inv.dead0 id hid hn)
   cases hg:(Hh (p+1+d)).get id with
   |none=>rfl
   |some c=>
    rcases bget id c hg with h|⟨i,g1,g2,g3,g4⟩
    ·rw[h2]at h;simp at h
    ·have:=idhi i c g3 (by omega);have:=st.next;omega
  ro0:=fun id k hk hko=>by
   rcases bget id k hk with h|⟨i,g1,g2,g3,g4⟩
   ·exact inv.ro0 id k (st.ro id k h hko) hko
   ·have:=g3.2.1;rw[hko]at this;simp at this}⟩
end
end Go.AM

namespace Go.AM
open Go
section
variable {P:Program}{NG nt:Nat}{C:CF}{ops:Array Oper}{F:Nat→T Value}{Hh:Nat→H}{rv:Nat→Option Value}
variable {μ0:Mu}{a0:Act}{w0:World}{D:Nat→Bool}{a:Act}{w:World}{μ:Mu}{p:Nat}
theorem RH.wider {h:H}{w w':World}{μ:Mu}(r:RH NG μ h w)(hs:w.heap.size≤w'.heap.size)(hb:∀b,b<w.heap.size→w'.heap[b]?=w.heap[b]?):RH NG μ h w':=
 ⟨r.ng,r.wf,fun id c l hc hl=>(r.br id c l hc hl).congr (hb _ (r.bd _ _ hl)),r.inj,fun id l hl=>kH (r.bd id l hl) hs,r.gl⟩
theorem RH.empty {h:H}{w:World}{μ:Mu}(r:RH NG μ h w)(k:Nat)(hk:NG≤k):RH NG μ ⟨.nil,k⟩ w:=
 ⟨hk,fun id b hb=>by simp[H.get]at hb,fun id b l hb=>by simp[H.get]at hb,fun id b l id' b' l' hb=>by simp[H.get]at hb,r.bd,r.gl⟩
theorem Step.mu_eq {h h':H}{w w':World}{μ μ':Mu}(st:Step NG μ h w μ' h' w')(hn:h'.next=h.next):μ'=μ:=by
 funext id;rcases Nat.lt_or_ge id h.next with hlt|hge
 ·exact st.old id hlt
 ·exact st.out id (by omega)
theorem Inv.stepR {C':CF}(inv:Inv P NG nt ops F Hh rv μ0 a0 w0 D a w μ p)(hzp:aK P=true)(hC:aM P NG C)(tr:Trace P C' NG ops F Hh rv)(DF:bK P ops)(hd:dJ nt ops=true)
 (hmono:∀i i',i≤i'→i'≤ops.size→(Hh i).next≤(Hh i').next) (hwf0:Wf (Hh 0)) (hng:NG≤(Hh 0).next)
 {j:Nat} {o:Oper} (hj:D j=false) (ho:ops[j]?=some o) (hrow0:Row P C NG ops o (F j) (Hh j) (rv j) (F (j+1)) (Hh (j+1))) (hr:∀e∈o.after.toList,Region.binds .any e=true→D e.on=true)
 (ro:Option Nat) (Q:Exit→Act→World→Prop) (Kc:Act→World→Prop) (hK:∀a' w',(∃μ' p',Inv P NG nt ops F Hh rv μ0 a0 w0 (add D j) a' w' μ' p')→Kc a' w'):wpOpIn (Fr ro) 0 P ops Q j Kc a w:=by
 have hjn:j<ops.size:=(Array.getElem?_eq_some_iff.1 ho).1;have uniq:∀{o':Oper},ops[j]?=some o'→o'=o:=fun h=>by rw[ho]at h;simpa using h.symm
 obtain⟨o',rfl⟩:∃o',o'=o:=⟨_,rfl⟩;obtain⟨gX,hrow⟩:=hrow0;have hlook:=inv.look tr DF hj ho hr;unfold wpOpIn;simp only[ho];rcases hrow with⟨hw,hrv,hh⟩|⟨hw,hop⟩
 ·-- passed over
  have hnr:∀k o2,¬Ran P ops F j o2 k:=by
   intro k o2 hran;obtain rfl:=uniq hran.1;rw[hran.2.1]at hw;simp at hw
  rw[inv.wanted tr DF hj ho hr hw];simp only[pB,if_false];refine⟨fun _ _=>trivial,?_⟩;refine hK _ _ ⟨μ,p,inv.quiet DF hd hj ho hr (fun⟨o2,h2⟩=>hnr _ _ h2) (fun b hm=>by obtain⟨o2,h2⟩:=hm.1;exact hnr _ _ h2) inv.rh (kF _) rfl rfl rfl (fun _ _ _=>rfl) (cv:=undef) ?_⟩;rw[hrv];exact mW μ
 ·rw[inv.wanted tr DF hj ho hr hw];simp only[if_true];obtain⟨k,hk⟩:=DF.kind j o' ho;have ran:Ran P ops F j o' k:=⟨ho,hw,hk⟩;have other:∀k',k'≠k→∀o2,¬Ran P ops F j o2 k':=by
   intro k' hne o2 hran;obtain rfl:=uniq hran.1;have:=hran.2.2;rw[hk]at this;simp at this;exact hne this.symm
  cases k with
  |pure=>
   obtain⟨_,hany⟩:=yV hk hop;have h1:=hany ⟨.nil,NG⟩;rw[lG _ _ _ (hlook _)]at h1;obtain⟨rv',h',hk',hs⟩:=eD hzp hC h1;simp only[aQ,kE,kK]at hk';obtain⟨rfl,rfl⟩:=hk';refine hs.2 μ a w (inv.rh.empty NG (kF _)) (fun id h1 h2=>absurd h2 (Nat.not_lt.2 h1)) inv.ev ro _ _ fun μ' w' cv st hv=>?_;have hμ:=st.mu_eq rfl;subst hμ;have hfr:∀b,b<w.heap.size→w'.heap[b]?=w.heap[b]?:=fun b hb=>st.frame b hb fun id k l hk=>by simp[H.get]at hk
   exact hK _ _ ⟨μ',p,inv.quiet DF hd hj ho hr (fun⟨o2,h2⟩=>other _ (by simp) _ h2) (fun b hm=>by obtain⟨o2,h2⟩:=hm.1;exact other _ (by simp) _ h2)
    (inv.rh.wider st.size hfr) st.size st.os st.tape st.output (fun b hb _=>hfr b hb) hv⟩
  |reads=>
   obtain⟨v,hv⟩:=tr.c5 j o' ran;have chk:∀X,bJ P NG o' (F j) X v=true→aop P (fun _ _ _=>none) (aG NG (F j) X) X o' (fun rv _=>rv)=some v:=by
    intro X hc;unfold bJ at hc;split at hc
    ·rename_i u hu;rw[hu,gB u v hc]
    ·simp at hc
   have hjp:j≠p∨p=ops.size:=by
    rcases inv.pNext with h|⟨⟨o2,h2⟩,_⟩
    ·exact .inr h
    ·exact .inl fun e=>other .effect (by simp) o2 (e▸h2)
   have at_p:aop P C (aG NG (F j) (Hh p)) (Hh p) o' aQ=some (some v,Hh p):=by
    rcases Nat.lt_or_ge j p with hlt|hge
    ·-- the last effect between j and p
     have last:∀d,j+1+d≤p→(∀i,j<i→i<j+1+d→¬Eff P ops F i)∨∃q,j<q∧q<j+1+d∧Eff P ops F q∧∀i,q<i→i<j+1+d→¬Eff P ops F i:=by
      intro d
      induction d with
      |zero=>intro _;exact .inl fun i h1 h2=>absurd h2 (by omega)
      |succ d ih=>
       intro hle;by_cases hE:Eff P ops F (j+1+d)
       ·exact .inr ⟨j+1+d,by omega,by omega,hE,fun i h1 h2=>absurd h2 (by omega)⟩
       ·rcases ih (by omega)with h|⟨q,h1,h2,h3,h4⟩
        ·exact .inl fun i g1 g2=>by
          by_cases e:i=j+1+d
          ·subst e;exact hE
          ·exact h i g1 (by omega)
        ·exact .inr ⟨q,h1,by omega,h3,fun i g1 g2=>by
          by_cases e:i=j+1+d
          ·subst e;exact hE
          ·exact h4 i g1 (by omega)⟩
     have last:=last (p-(j+1)) (by omega);rw[show j+1+(p-(j+1))=p by omega]at last;have hpn:=inv.pn;rcases last with h|⟨q,h1,h2,⟨oq,hq⟩,h4⟩
     ·have hb:=tr.between DF (q:=j) (inv.wfs j (by omega)) (p-j) (by omega) (fun i g1 g2=>by
       by_cases e:i=j
       ·subst e;rintro⟨o2,h2⟩;exact other _ (by simp) _ h2
       ·exact h i (by omega) (by omega))
      rw[show j+(p-j)=p by omega]at hb;have e1:aop P C (aG NG (F j) (Hh j)) (Hh j) o' (fun rv _=>rv)=some v:=by
       rw[cH,hop,hv];rfl
      exact iH hk (fun _=>rfl) hb.2.1 e1 C
     ·rcases tr.c2 j q oq o' v h1 hq ran hv with hp|hc
      ·have hDq:=inv.pE q h2 ⟨oq,hq⟩;have:=eT inv.closed q j hDq hp;rw[hj]at this;simp at this
      ·have hb:=tr.between DF (q:=q+1) (inv.wfs (q+1) (by omega)) (p-(q+1)) (by omega) (fun i g1 g2=>h4 i (by omega) (by omega));rw[show q+1+(p-(q+1))=p by omega]at hb;exact iH hk (fun _=>rfl) hb.2.1 (chk _ hc) C
    ·rcases inv.pNext with h|⟨⟨oq,hq⟩,hDp⟩
     ·omega
     ·have hne:j≠p:=by
       rcases hjp with h|h
       ·exact h
       ·omega
      rcases tr.c1 p j oq o' v (by omega) hq ran hv with hp|hc
      ·have:=iG inv.closed ho hr hp;rw[hDp]at this;simp at this
      ·exact iH hk (fun _=>rfl) ⟨kF _,fun _ _ h=>h⟩ (chk _ hc) C
   rw[lG _ _ _ (hlook _)]at at_p;obtain⟨rv',h',hk',hs⟩:=eD hzp hC at_p;simp only[aQ,kE,kK]at hk';obtain⟨rfl,rfl⟩:=hk';refine hs.2 μ a w inv.rh (fun id h1 h2=>absurd h2 (Nat.not_lt.2 h1)) inv.ev ro _ _ fun μ' w' cv st hv'=>?_;have hμ:=st.mu_eq rfl;subst hμ;exact hK _ _ ⟨μ',p,inv.quiet DF hd hj ho hr (fun⟨o2,h2⟩=>other _ (by simp) _ h2) (fun b hm=>by obtain⟨o2,h2⟩:=hm.1;exact other _ (by simp) _ h2)
    st.rh st.size st.os st.tape st.output st.frame (by rw[hv];exact hv')⟩
  |makes=>
   obtain⟨b,hb,hh,hform,hany⟩:=tP hk hop;have hm:Mk P ops F Hh j b:=⟨⟨_,ran⟩,hb,hh⟩;have hne:¬Eff P ops F j:=hm.not_eff;have h1:=hany ⟨.nil,(Hh j).next⟩ rfl;rw[lG _ _ _ (hlook _)]at h1;obtain⟨rv',h',hk',hs⟩:=eD hzp hC h1;simp only[aQ,kE,kK]at hk';obtain⟨rfl,rfl⟩:=hk';obtain⟨hun,_⟩:=inv.mk2 j b hm hj;have h0j:=hmono 0 j (by omega) (by omega);refine hs.2 μ a w (inv.rh.empty _ (by omega)) (fun id h1 h2=>by
    have e:id=(Hh j).next:=by simp only[H.next_push]at h1 h2;omega
    rw[e];exact hun) inv.ev ro _ _ fun μ' w' cv st hv=>?_
   have hlm:∃l,μ' (Hh j).next=some l:=by
    rcases hform with hf|⟨len,c,hf⟩|hf
    ·rw[hf]at hv;obtain⟨l,hl,_⟩:=VR.ptr_inv hv;exact⟨l,hl⟩
    ·rw[hf]at hv;obtain⟨l,_,_,hl,_⟩:=VR.slice_inv hv;exact⟨l,hl⟩
    ·rw[hf]at hv;obtain⟨l,hl,_⟩:=VR.map_inv hv;exact⟨l,hl⟩
   obtain⟨l,hl⟩:=hlm;have hgb:((⟨.nil,(Hh j).next⟩:H).push b).get (Hh j).next=some b:=by rw[H.get_push,kB rfl]
   have hlb:w.heap.size≤l.blk:=by
    rcases st.src _ b l hgb hb hl with h|⟨id0,k0,l0,g1,_⟩
    ·exact h
    ·simp[H.get]at g1
   refine hK _ _ ⟨μ',p,inv.make DF hd hj ho hr hne hm hmono hng hl hlb (st.rh.br _ b l hgb hl) (fun id hid=>?_) st.rh.bd st.size st.os st.tape st.output
    (fun b' hb'=>st.frame b' hb' fun id k l hk=>by simp[H.get]at hk) hv⟩
   rcases Nat.lt_or_ge id (Hh j).next with hlt|hge
   ·exact st.old id hlt
   ·exact st.out id (by simp only[H.next_push];omega)
  |effect=>
   have hE:Eff P ops F j:=⟨_,ran⟩;have hjp:j=p:=by
    rcases Nat.lt_or_ge j p with h|h
    ·have:=inv.pE j h hE;rw[hj]at this;simp at this
    ·rcases inv.pNext with h'|⟨⟨oq,hq⟩,hDp⟩
     ·omega
     ·by_cases e:j=p
      ·exact e
      ·have hp:=DF.chain p j oq _ hq.1 ho (by omega) hq.2.2 hk;have:=iG inv.closed ho hr hp;rw[hDp]at this;simp at this
   subst hjp;have h1:=hop;rw[lG _ _ _ (hlook _)]at h1;obtain⟨rv',h',hk',hs⟩:=eD hzp hC h1;simp only[aQ,kE,kK]at hk';obtain⟨rfl,rfl⟩:=hk';refine hs.2 μ a w inv.rh (inv.fresh_step hmono hE) inv.ev ro _ _ fun μ' w' cv st hv=>?_;obtain⟨p',inv'⟩:=inv.effect tr DF hd hj ho hr hE hmono hwf0 st hv;exact hK _ _ ⟨μ',p',inv'⟩
theorem Inv.step (inv:Inv P NG nt ops F Hh rv μ0 a0 w0 D a w μ p)(hzp:aK P=true)(hC:aM P NG C)(tr:Trace P C NG ops F Hh rv)(DF:bK P ops)(hd:dJ nt ops=true)
 (hmono:∀i i',i≤i'→i'≤ops.size→(Hh i).next≤(Hh i').next) (hwf0:Wf (Hh 0)) (hng:NG≤(Hh 0).next)
 {j:Nat} {o:Oper} (hj:D j=false) (ho:ops[j]?=some o) (hr:∀e∈o.after.toList,Region.binds .any e=true→D e.on=true)
 (ro:Option Nat) (Q:Exit→Act→World→Prop) (Kc:Act→World→Prop) (hK:∀a' w',(∃μ' p',Inv P NG nt ops F Hh rv μ0 a0 w0 (add D j) a' w' μ' p')→Kc a' w'):wpOpIn (Fr ro) 0 P ops Q j Kc a w:=by
 obtain⟨o',ho',hrow⟩:=tr.row j (Array.getElem?_eq_some_iff.1 ho).1;obtain rfl:o'=o:=by rw[ho]at ho';simpa using ho'.symm
 exact inv.stepR hzp hC tr DF hd hmono hwf0 hng hj ho hrow hr ro Q Kc hK
theorem Inv.start (tr:Trace P C NG ops F Hh rv)(DF:bK P ops)(hmono:∀i i',i≤i'→i'≤ops.size→(Hh i).next≤(Hh i').next)
 (rh0:RH NG μ0 (Hh 0) w0) (hf0:Fresh μ0 (Hh 0).next (Hh ops.size).next) (f0:FR nt μ0 (F 0) a0) {w:World} (hw:w.heap=w0.heap) (hos:w.os=w0.os) (ht:w.tape=w0.tape) (hout:w.output=w0.output):
 ∃p,Inv P NG nt ops F Hh rv μ0 a0 w0 (fun _=>false) a0 w μ0 p:=by
 have next:∀d,d≤ops.size→∃p',p'≤d∧(∀i,i<p'→¬Eff P ops F i)∧(p'=d∨Eff P ops F p'):=by
  intro d
  induction d with
  |zero=>intro _;exact⟨0,by omega,fun i h2=>absurd h2 (by omega),.inl rfl⟩
  |succ d ih=>
   intro hdl;obtain⟨p',h2,h3,h4⟩:=ih (by omega);by_cases hE':Eff P ops F p'
   ·exact⟨p',by omega,h3,.inr hE'⟩
   ·rcases h4 with h4|h4
    ·refine⟨p'+1,by omega,fun i g2=>?_,.inl (by omega)⟩;by_cases e:i=p'
     ·subst e;exact hE'
     ·exact h3 i (by omega)
    ·exact absurd h4 hE'
 obtain⟨p,hp2,hnoE,hlast⟩:=next ops.size (kF _)
 have hb:=tr.between DF (q:=0) rh0.wf p (by omega) (fun i _ h=>hnoE i (by omega));rw[Nat.zero_add]at hb;obtain⟨bwf,ble,bmk,bget⟩:=hb;have hmk_lt:∀i b,Mk P ops F Hh i b→i<ops.size:=fun i b hm=>by obtain⟨o',ho'⟩:=hm.1;exact ho'.lt
 have hun:∀i b,Mk P ops F Hh i b→μ0 (Hh i).next=none:=fun i b hm=>by
  have h1:=hmk_lt i b hm;have h2:=hm.next;have h3:=hmono 0 i (by omega) (by omega);have h4:=hmono (i+1) ops.size (by omega) (kF _);exact hf0 _ h3 (by omega)
 have alive:∀id c m,(Hh p).get id=some c→μ0 id=some m→(Hh 0).get id=some c:=by
  intro id c m hc hm;rcases bget id c hc with h|⟨i,_,_,h3,h4⟩
  ·exact h
  ·rw[h4,hun i c h3]at hm;simp at hm
 have envF:∀t,env ops (F 0) rv (fun _=>false) ops.size t=(F 0).get t:=fun t=>mY t 0 ops.size (by omega) (fun _ _ _ _=>rfl);exact⟨p,{
  closed:=fun j o h=>by simp at h
  dlt:=fun j h=>by simp at h
  pn:=hp2
  pE:=fun i hi he=>absurd he (hnoE i hi)
  pNext:=by
   rcases hlast with h|h
   ·exact .inl h
   ·exact .inr ⟨h,rfl⟩
  wfs:=fun i hi=>by
   have:=(tr.between DF (q:=0) rh0.wf i (by omega) (fun k _ h=>hnoE k (by omega))).1
   rwa [Nat.zero_add]at this
  rh:={
   ng:=kG rh0.ng ble.1
   wf:=bwf
   br:=fun id c m hc hm=>(rh0.br id c m (alive id c m hc hm) hm).congr (by rw[hw])
   inj:=fun id c m id' c' m' hc hco hm hc' hm' hne=>rh0.inj id c m id' c' m' (alive id c m hc hm) hco hm (alive id' c' m' hc' hm') hm' hne
   bd:=fun id l hl=>by rw[hw];exact rh0.bd id l hl
   gl:=rh0.gl}
  sz:=f0.1
  regs:=fun t v ht=>by rw[envF]at ht;exact f0.2 t v ht
  dfr:=rfl
  mk1:=fun i b _ h=>by simp at h
  mk2:=fun i b hm _=>⟨hun i b hm,fun hi=>bmk i b (by omega) (by omega) hm⟩
  fresh:=fun id h1 h2 _=>hf0 id (kG ble.1 h1) h2
  le0:=fun _ _ h=>h
  old0:=fun _ _=>rfl
  out0:=fun _ _=>rfl
  size0:=by rw[hw];exact kF _
  os0:=hos
  tape0:=ht
  output0:=hout
  frame0:=fun b _ _=>by rw[hw]
  src0:=fun id k m hk hko hm=>.inr ⟨id,k,m,alive id k m hk hm,hko,hm,rfl⟩
  unm0:=fun id k hk _=>ble.2 id k hk
  dead0:=fun id hid hn=>by
   cases hg:(Hh p).get id with
   |none=>rfl
   |some c=>
    rcases bget id c hg with h|⟨i,_,g2,g3,g4⟩
    ·rw[hn]at h;simp at h
    ·have:=hmono 0 i (by omega) (by have:=hmk_lt i c g3;omega);omega
  ro0:=fun id k hk hko=>by
   rcases bget id k hk with h|⟨i,_,_,g3,_⟩
   ·exact h
   ·have:=g3.2.1;rw[hko]at this;simp at this}⟩
theorem aEk (hzp:aK P=true)(hC:aM P NG C)(tr:Trace P C NG ops F Hh rv)(DF:bK P ops)(hd:dJ nt ops=true)
 (hmono:∀i i',i≤i'→i'≤ops.size→(Hh i).next≤(Hh i').next) (hwf0:Wf (Hh 0)) (hng:NG≤(Hh 0).next)
 (ro:Option Nat) (Q:Exit→Act→World→Prop) (hQ:∀a' w' μ',Inv P NG nt ops F Hh rv μ0 a0 w0 (fun i=>decide (i<ops.size)) a' w' μ' ops.size→Q .normal a' w'):
 ∀(fuel:Nat) (listed:Array Bool) (a:Act) (w:World),listed.size=ops.size→((List.range ops.size).filter fun i=>!listed.getD i false).length≤fuel→
  (∃μ p,Inv P NG nt ops F Hh rv μ0 a0 w0 (fun i=>listed.getD i false) a w μ p)→wpAnyIn (Fr ro) 0 P .any ops Q fuel listed a w:=by
 have getDD:∀(listed:Array Bool) (i:Nat),listed.size=ops.size→i<ops.size→listed.getD i true=listed.getD i false:=by
  intro listed i hs hi;simp[pG,pI (show i<listed.size by omega)]
 have done:∀(listed:Array Bool) (a:Act) (w:World) (μ:Mu) (p:Nat),listed.size=ops.size→Inv P NG nt ops F Hh rv μ0 a0 w0 (fun i=>listed.getD i false) a w μ p→
  Region.ready .any ops listed=[]→Q .normal a w:=by
  intro listed a w μ p hs inv hr;have all:∀i,i<ops.size→listed.getD i false=true:=by
   intro i
   induction i using Nat.strongRecOn with
   |_ i ih=>
    intro hi
    cases hl:listed.getD i false with
    |true=>rfl
    |false=>
     exfalso;have hmem:i∈Region.ready .any ops listed:=by
      rw[mem_ready];refine⟨by rw[getDD listed i hs hi];exact hl,ops[i],by simp[hi],fun e he hb=>?_⟩;have hlt:=DF.edge i ops[i] (by simp[hi]) e (by simpa using he) hb;exact ih e.on hlt (by omega)
     rw[hr]at hmem;simp at hmem
  have hD:(fun i=>listed.getD i false)=fun i=>decide (i<ops.size):=by
   funext i;by_cases hi:i<ops.size
   ·simp only[all i hi,hi,decide_true]
   ·rw[pG,Array.getElem?_eq_none (by omega)];simp[hi]
  rw[hD]at inv;have hp:p=ops.size:=by
   rcases inv.pNext with h|⟨⟨o,ho⟩,h2⟩
   ·exact h
   ·have:=ho.lt;simp at h2;omega
  subst hp;exact hQ a w μ inv
 intro fuel
 induction fuel with
 |zero=>
  intro listed a w hs hlen ⟨μ,p,inv⟩;have hr:Region.ready .any ops listed=[]:=by
   apply List.eq_nil_iff_forall_not_mem.2;intro i hi;rw[mem_ready]at hi;obtain⟨h1,o,ho,_⟩:=hi;have hlt:i<ops.size:=(Array.getElem?_eq_some_iff.1 ho).1;have:i∈(List.range ops.size).filter fun i=>!listed.getD i false:=by
    rw[List.mem_filter];exact⟨List.mem_range.2 hlt,by rw[←getDD listed i hs hlt,h1];rfl⟩
   rw[List.length_eq_zero_iff.1 (Nat.le_zero.1 hlen)]at this;simp at this
  exact⟨hr,done listed a w μ p hs inv hr⟩
 |succ fuel ih=>
  intro listed a w hs hlen ⟨μ,p,inv⟩;refine⟨done listed a w μ p hs inv,fun j hj=>?_⟩;rw[mem_ready]at hj;obtain⟨h1,o,ho,hedges⟩:=hj;have hlt:j<ops.size:=(Array.getElem?_eq_some_iff.1 ho).1;have hDj:listed.getD j false=false:=by rw[←getDD listed j hs hlt];exact h1
  refine inv.step hzp hC tr DF hd hmono hwf0 hng hDj ho (fun e he hb=>hedges e (by simpa using he) hb) ro Q _ fun a' w' ⟨μ',p',inv'⟩=>?_;have hadd:add (fun i=>listed.getD i false) j=fun i=>(listed.setIfInBounds j true).getD i false:=by
   funext i;unfold add;by_cases e:i=j
   ·subst e;rw[kB rfl,pG,Array.getElem?_setIfInBounds,kB rfl,kB (by omega)];rfl
   ·rw[kA e];show listed.getD i false=_;rw[pG,pG,Array.getElem?_setIfInBounds_ne (Ne.symm e)]
  rw[hadd]at inv';refine ih _ a' w' (by simpa using hs) ?_ ⟨μ',p',inv'⟩;have hsub:((List.range ops.size).filter fun i=>!(listed.setIfInBounds j true).getD i false)=((List.range ops.size).filter fun i=>!listed.getD i false).filter fun i=>decide (i≠j):=by
   rw[List.filter_filter];apply List.filter_congr;intro i _;have:=congrFun hadd i;rw[←this];unfold add;by_cases e:i=j
   ·subst e;simp
   ·simp[e]
  rw[hsub];have hmem:j∈(List.range ops.size).filter fun i=>!listed.getD i false:=by
   rw[List.mem_filter];exact⟨List.mem_range.2 hlt,by rw[hDj];rfl⟩
  have hlt2:(((List.range ops.size).filter fun i=>!listed.getD i false).filter fun i=>decide (i≠j)).length<((List.range ops.size).filter fun i=>!listed.getD i false).length:=by
   rw[List.length_filter_lt_length_iff_exists];exact⟨j,hmem,by simp⟩
  omega
theorem mB {β:Type}(hzp:aK P=true)(hC:aM P NG C){ops:Array Oper}(hd:dJ nt ops=true)(hdr:fQ P ops (before ops)=true)
 {fr:T Value} {h:H} {K:T Value→H→Option β} {r:β} (hr:runD P C NG ops (before ops) 0 ops.toList fr h [] [] K=some r):
  ∃fr' h',K fr' h'=some r∧h.next≤h'.next∧∀(μ:Mu) (a:Act) (w:World),RH NG μ h w→Fresh μ h.next h'.next→FR nt μ fr a→
   ∀(ro:Option Nat) (Q:Exit→Act→World→Prop),(∀a' w',lP NG nt μ h w a fr' h' a' w'→Q .normal a' w')→
    wpAnyIn (Fr ro) 0 P .any ops Q ops.size (Array.replicate ops.size false) a {w with drawn:=w.drawn+1}:=by
 obtain⟨F,Hh,rv,_,hF,hH,hK,hrows,_,_,hc1,hc2,hc5⟩:=rD ops.toList 0 fr h [] [] rfl hr;rw[Nat.max_eq_right (pR _)]at hK;have DF:=rN hdr;have tr:Trace P C NG ops F Hh rv:=⟨fun i hi=>hrows i (pR _) hi,fun p i o o' v hlt=>hc1 p i o o' v (pR _) hlt,fun i p o o' v hlt=>hc2 i p o o' v (pR _) hlt,fun i o=>hc5 i o (pR _)⟩;have hmono:∀i i',i≤i'→i'≤ops.size→(Hh i).next≤(Hh i').next:=fun i i' h1 h2=>tr.next_mono hzp hC h1 h2;refine⟨F ops.size,Hh ops.size,hK,by rw[←hH];exact hmono 0 _ (pR _) (kF _),fun μ a w rh hf f ro Q hQ=>?_⟩;subst hF;subst hH;obtain⟨p,inv⟩:=Inv.start (a0:=a) (rv:=rv) tr DF hmono rh hf f (w:={w with drawn:=w.drawn+1}) rfl rfl rfl rfl;refine aEk (μ0:=μ) (a0:=a) (w0:=w) hzp hC tr DF hd hmono rh.wf rh.ng ro Q (fun a' w' μ' inv'=>hQ a' w' ⟨μ',?_,?_,inv'.dfr⟩) ops.size _ a _ (by simp) ?_ ⟨μ,p,?_⟩
 ·exact{
   wf:=rh.wf
   le:=inv'.le0
   old:=inv'.old0
   out:=inv'.out0
   next:=hmono 0 _ (pR _) (kF _)
   rh:=inv'.rh
   size:=inv'.size0
   os:=inv'.os0
   tape:=inv'.tape0
   output:=inv'.output0
   frame:=inv'.frame0
   src:=inv'.src0
   unm:=inv'.unm0
   dead:=inv'.dead0
   ro:=inv'.ro0}
 ·refine⟨inv'.sz,fun t v hv=>inv'.regs t v ?_⟩;rw[←tr.env_at t ops.size (kF _)]at hv;rw[←hv];exact gJ t ops.size fun i hi _=>by simp[hi]
 ·exact kG (List.length_filter_le _ _) (by simp)
 ·have e:(fun i=>(Array.replicate ops.size false).getD i false)=fun _=>false:=by
   funext i;rw[pG];by_cases hi:i<ops.size
   ·simp[hi]
   ·rw[Array.getElem?_eq_none (by simpa using hi)];rfl
  rw[e];exact inv
end
end Go.AM

namespace Go.AM
open Go
inductive Ex where
 |normal
 |exit (id:Nat)
 |ret
def cK:Code→Bool
 | .seq a b=>cK a&&cK b
 | .cond _ a b=>cK a&&cK b
 | .block _ b=>cK b
 | .loop b=>cK b
 | .scope b=>cK b
 | .rangeFunc _ _ _ _=>false
 |_=>true
def sJ (fr:T Value):List Tmp→List Value→T Value
 |t::ts,v::vs=>sJ (fr.set t (some v)) ts vs
 |_,_=>fr
def oS (fn:Func):Nat:=
 if fn.name= "internal/bytealg.IndexByteString" ∧fn.origin= "" then 1
 else if fn.name= "internal/bytealg.CountString" ∧fn.origin= "" then 3
 else if fn.name= "internal/bytealg.abigen_runtime_cmpstring" ∧fn.origin= "" then 4
 else 0
def lN (k:Nat)(args:List Value)(h:H):Option (Value×H):=
 match k,args with
 |1,[.string s,.int .u8 c]=>some (.int .i64 (match(List.range s.size).find? fun i=>s[i]! ==c.toNat.toUInt8 with|some i=>(i:Int)|none=> -1),h)
 |3,[.string s,.int .u8 c]=>some (.int .i64 (s.foldl (fun(n:Int) x=>if x==c.toNat.toUInt8 then n+1 else n) ((0:Nat):Int)),h)
 |4,[.string a,.string b]=>some (.int .i64 (Extern.BytealgCompare.cmp a b),h)
 |_,_=>none
theorem jH {n:String}{fn:Func}(hn:fn.name=n)(ho:fn.origin= "")(e:Array Value→Sem Value)(h1:Extern.allNextRows.lookup n=none)(h4:Extern.allNextRows.lookup "" =none)(h0:Extern.allGenericRows.lookup n=none)
 (h3:Extern.allTypedRows.lookup n=none) (h2:Extern.allRows.lookup n=some e):Extern.findNext fn=none∧Extern.find fn=some e:=by
 constructor
 ·simp[Extern.findNext,hn,ho,h1,h4]
 ·simp[Extern.find,hn,h0,h2,h3]
section
variable {P:Program}{NG nt:Nat}{C:CF}
def ExR:Ex→Exit→Prop
 | .normal,.normal=>True
 | .exit i,.exit j=>i=j
 | .ret,.ret=>True
 |_,_=>False
def Marks (d d':List Deferred)(n0:Nat)(w:World):Prop:=
 ∃ms:List Nat,d'=ms.map (fun r=>(⟨.collected r,#[]⟩:Deferred))++d∧ms.Nodup∧∀r∈ms,n0≤r∧w.heap[r]?=some (.deferred (some []))
def StepTo (NG nt:Nat)(μ:Mu)(h:H)(w:World)(a:Act)(fr':T Value)(h':H)(a':Act)(w':World):Prop:=
 ∃μ',Step NG μ h w μ' h' w'∧FR nt μ' fr' a'∧Marks a.defers a'.defers w.heap.size w'
theorem Marks.refl (d:List Deferred)(n0:Nat)(w:World):Marks d d n0 w:=⟨[],rfl,.nil,by simp⟩
theorem StepTo.keep {μ:Mu}{h:H}{w:World}{a:Act}{fr':T Value}{h':H}{a':Act}{w':World}(s:StepTo NG nt μ h w a fr' h' a' w')(fr2:T Value)
 (hf:∀t v,fr2.get t=some v→fr'.get t=some v):StepTo NG nt μ h w a fr2 h' a' w':=by
 obtain⟨μ',st,f,d⟩:=s;exact⟨μ',st,⟨f.1,fun t v hv=>f.2 t v (hf t v hv)⟩,d⟩
theorem BR.not_deferred {μ:Mu}{b:Blk}{l:Loc}{w:World}(r:BR μ b l w){d:Option (List Deferred)}(h:w.heap[l.blk]?=some (.deferred d)):False:=by
 cases b with
 |cells cs own=>obtain⟨_,_,_,h1,_⟩:=r;rw[h]at h1;simp at h1
 |map es clock=>obtain⟨_,h1,_⟩:=r;rw[h]at h1;simp at h1
 |siter s pos=>obtain⟨_,h1⟩:=r;rw[h]at h1;simp at h1
 |miter m since seen last=>obtain⟨_,_,_,h1⟩:=r;rw[h]at h1;simp at h1
 |loop nt fr ps as b st=>obtain⟨_,_,h1,_⟩:=r;rw[h]at h1;simp at h1
theorem Step.deferred {μ μ':Mu}{h h':H}{w w':World}(s:Step NG μ h w μ' h' w')(r:RH NG μ h w){b:Nat}{d:Option (List Deferred)}(hb:w.heap[b]?=some (.deferred d)):w'.heap[b]?=some (.deferred d):=by
 rw[s.frame b (Array.getElem?_eq_some_iff.1 hb).1 fun id k l hk _ hl e=>by
  subst e;exact(r.br id k l hk hl).not_deferred hb]
 exact hb
theorem StepTo.trans {μ μ1:Mu}{h h1 h2:H}{w w1 w2:World}{a a1 a2:Act}{fr2:T Value}(s:Step NG μ h w μ1 h1 w1)(e:Marks a.defers a1.defers w.heap.size w1)
 (s2:StepTo NG nt μ1 h1 w1 a1 fr2 h2 a2 w2):StepTo NG nt μ h w a fr2 h2 a2 w2:=by
 obtain⟨μ2,st,f,ms2,e2,n2,g2⟩:=s2;obtain⟨ms1,e1,n1,g1⟩:=e;refine⟨μ2,s.trans st,f,ms2++ms1,by rw[e2,e1];simp,?_,?_⟩
 ·rw[List.nodup_append];refine⟨n2,n1,fun x hx y hy hxy=>?_⟩;subst hxy;have h1:=(g2 x hx).1;have h2:=(Array.getElem?_eq_some_iff.1 (g1 x hy).2).1;omega
 ·intro r hr;rcases List.mem_append.1 hr with hr|hr
  ·exact⟨kG s.size (g2 r hr).1,(g2 r hr).2⟩
  ·exact⟨(g1 r hr).1,st.deferred s.rh (g1 r hr).2⟩
def wE (P:Program)(NG nt:Nat)(c:Code)(fr:T Value)(h:H)(ex:Ex)(fr':T Value)(h':H):Prop:=
 h.next≤h'.next∧∀(μ:Mu) (a:Act) (w:World),RH NG μ h w→Fresh μ h.next h'.next→FR nt μ fr a→∀(ro:Option Nat),(ro=none∨cK c=true)→
  c.wpIn (Fr ro) 0 P (fun e a' w'=>ExR ex e∧StepTo NG nt μ h w a fr' h' a' w') a w
theorem Fresh.second {μ μ1:Mu}{h h1 h2:H}{w w1:World}(hf:Fresh μ h.next h2.next)(s:Step NG μ h w μ1 h1 w1):Fresh μ1 h1.next h2.next:=fun id h1' h2'=>by
 rw[s.out id h1'];exact hf id (kG s.next h1') h2'
theorem pK {ro:Option Nat}{a b:Bool}(h:ro=none∨(a&&b)=true):(ro=none∨a=true)∧(ro=none∨b=true):=by
 rcases h with h|h
 ·exact⟨.inl h,.inl h⟩
 ·simp only[kO]at h;exact⟨.inr h.1,.inr h.2⟩
theorem Step.alloc_other {μ:Mu}{h:H}{w:World}(r:RH NG μ h w)(o:Obj):Step NG μ h w μ h (w.alloc o) where
 wf:=r.wf
 le:=fun _ _ h=>h
 old:=fun _ _=>rfl
 out:=fun _ _=>rfl
 next:=kF _
 rh:=⟨r.ng,r.wf,fun id b l hb hl=>(r.br id b l hb hl).congr (by
  have:=r.bd id l hl;show(w.heap.push o)[l.blk]?=_;rw[Array.getElem?_push,kA (by omega)]),r.inj,fun id l hl=>by have:=r.bd id l hl;show l.blk<(w.heap.push o).size;rw[Array.size_push];omega,r.gl⟩
 size:=by show w.heap.size≤(w.heap.push o).size;rw[Array.size_push];omega
 os:=rfl
 tape:=rfl
 output:=rfl
 frame:=fun k hk _=>by show(w.heap.push o)[k]?=_;rw[Array.getElem?_push,kA (by omega)]
 src:=fun id k l hk ho hl=>.inr ⟨id,k,l,hk,ho,hl,rfl⟩
 unm:=fun _ _ h _=>h
 dead:=fun _ _ h=>h
 ro:=fun _ _ h _=>h
theorem Step.shut {μ μ':Mu}{h h':H}{w w':World}(s:Step NG μ h w μ' h' w'){b:Nat}{d:Option (List Deferred)}(hb:w'.heap[b]?=some (.deferred d))(hn:w.heap.size≤b)(o:Obj):Step NG μ h w μ' h' (setObj w' b o) where
 wf:=s.wf
 le:=s.le
 old:=s.old
 out:=s.out
 next:=s.next
 rh:=⟨s.rh.ng,s.rh.wf,fun id k l hk hl=>(s.rh.br id k l hk hl).congr (eN fun e=>by subst e;exact(s.rh.br id k l hk hl).not_deferred hb),s.rh.inj,fun id l hl=>by rw[jA];exact s.rh.bd id l hl,s.rh.gl⟩
 size:=by rw[jA];exact s.size
 os:=s.os
 tape:=s.tape
 output:=s.output
 frame:=fun k hk hf=>by rw[eN (by omega)];exact s.frame k hk hf
 src:=s.src
 unm:=s.unm
 dead:=s.dead
 ro:=s.ro
def aFd (P:Program)(gv:Value):Bool:=
 match gv with
 | .func (.func g) _ _=>(match P.funcs[g]? with|some fn=>fn.body.isSome|none=>false)
 |_=>false
def iW:LSt→Option Ex
 | .ready=>some .normal
 | .done none=>some .ret
 | .done (some id)=>some (.exit id)
 |_=>none
theorem eW (hC:aM P NG C){g:Operand}{ps:Array Tmp}{assign body:Code}{fr:T Value}{h h2:H}{gv v:Value}(hgv:aG NG fr h g=some gv)(hfn0:aFd P gv=true)
 (hcall:callV C gv [.func (.yield h.next) #[] #[]] (h.push (.loop nt fr ps.toList assign body .ready))=some (v,h2))
 {nt':Nat} {fr':T Value} {ps':List Tmp} {as' bd':Code} {st:LSt} (hst:h2.get h.next=some (.loop nt' fr' ps' as' bd' st)) {ex:Ex} (hex:iW st=some ex)
 {fr2:T Value} (hfr2:∀t v,fr2.get t=some v→fr.get t=some v):
 wE P NG nt (.rangeFunc g ps assign body) fr h ex fr2 (h2.put h.next (.loop nt' fr' ps' as' bd' .exhausted)):=by
 unfold callV at hcall;split at hcall
 case h_2=>simp[aFd]at hfn0
 case h_3=>simp at hcall
 rename_i gf first cap
 obtain⟨hg,hcall⟩:=aA hcall;have hg:=blt_iff.1 hg;obtain⟨hle,hfun,_⟩:=hC _ _ _ _ _ hcall;obtain⟨fn,hfn,hnm,hfun⟩:=hfun hg;simp only[H.next_push]at hle;refine⟨by show h.next≤h2.next;omega,fun μ a w rh hf f ro hro=>?_⟩;rcases hro with rfl|hro
 case inr=>simp[cK]at hro
 have hfresh:μ h.next=none:=hf _ (kF _) (by show h.next<h2.next;omega);have hfv:=f.ev rh g _ hgv;obtain⟨cf,cc,hef,r1,r2⟩:∃cf cc,a.eval g=.func (.func gf) ⟨cf⟩ ⟨cc⟩∧LR μ first cf∧LR μ cap cc:=by
  generalize he:a.eval g=u at hfv
  cases hfv with
  |func _ _ _ cs' ds' h1 h2 g1 g2=>exact⟨cs',ds',rfl,⟨h1,g1⟩,⟨h2,g2⟩⟩
 refine wpIn_rangeFunc fun fnid _=>?_;obtain⟨w0,hw0⟩:∃w0,w0=w.alloc (.deferred (some [])):=⟨_,rfl⟩;have s0:Step NG μ h w μ h w0:=hw0▸Step.alloc_other rh _;have hs0:w0.heap.size=w.heap.size+1:=by rw[hw0];show(w.heap.push _).size=_;rw[Array.size_push]
 obtain⟨rec,hrec⟩:∃rec:Loop,rec={state:=.ready,pending:=none,fn:=fnid,tmps:=a.tmps,params:=ps,assign,body,defers:=w.heap.size}:=⟨_,rfl⟩;have hb1:BR (μ.set h.next ⟨w0.heap.size,0,0,0⟩) (.loop nt fr ps.toList assign body .ready) ⟨w0.heap.size,0,0,0⟩ (w0.alloc (.loop rec)):=
  ⟨rfl,rec,gW _ _,by rw[hrec];exact⟨rfl,rfl⟩,by rw[hrec],by rw[hrec],by rw[hrec],by rw[hrec];exact f.1,
   fun t v hv=>⟨(f.2 t v hv).1,by rw[hrec];exact(f.2 t v hv).2.mono (Mu.le_set hfresh)⟩⟩
 have s1:=s0.trans (Step.push_at s0.rh hfresh rfl hb1);obtain⟨μ1,hμ1⟩:∃μ1,μ1=μ.set h.next ⟨w0.heap.size,0,0,0⟩:=⟨_,rfl⟩;obtain⟨w1,hw1⟩:∃w1,w1=w0.alloc (.loop rec):=⟨_,rfl⟩;rw[←hμ1,←hw1]at s1;have hm1:μ1 h.next=some ⟨w0.heap.size,0,0,0⟩:=by rw[hμ1];exact Mu.set_same _ _ _
 have hd1:w1.heap[w.heap.size]?=some (.deferred (some [])):=by
  have e0:w0.heap[w.heap.size]?=some (.deferred (some [])):=by rw[hw0];exact gW _ _
  rw[hw1];show(w0.heap.push _)[w.heap.size]?=_;rw[Array.getElem?_push,kA (by omega)];exact e0
 have hfr1:Fresh μ1 (h.push (.loop nt fr ps.toList assign body .ready)).next h2.next:=fun id h1 h3=>by
  simp only[H.next_push]at h1;rw[hμ1,Mu.set_ne _ _ (by omega)];exact hf id (by omega) h3
 have hargs:LR μ1 (first++[Value.func (.yield h.next) #[] #[]]++cap) (cf++[Value.func (.yield w0.heap.size) #[] #[]]++cc):=by
  have hy:VR μ1 (.func (.yield h.next) #[] #[]) (.func (.yield w0.heap.size) #[] #[]):=VR.yield hm1;exact((r1.mono s1.le).append (.cons hy .nil)).append (r2.mono s1.le)
 rcases hfun with⟨⟨b,hbd⟩,hcalls⟩|⟨hbd,_⟩
 case inr=>simp[aFd,hfn,hbd]at hfn0
 refine⟨w0.heap.size,[⟨.collected w.heap.size,#[]⟩],w1,{target:=.fn (.func gf) ⟨cc⟩,args:=⟨cf⟩++#[.func (.yield w0.heap.size) #[] #[]]},w1,gf,⟨cf++[Value.func (.yield w0.heap.size) #[] #[]]++cc⟩,w1,?_,?_,?_,?_,?_,?_⟩
 ·have:=run_enterLoop_outer (P:=P) (w:=w) fnid a.tmps ps assign body;rw[hs0];rw[hw1,hrec,hw0];exact this
 ·simp only[resolve,hef,Deferred.ofValue,kS];rw[show Array.map a.eval #[Operand.const (Value.func (Fn.yield w0.heap.size) #[] #[])]=#[Value.func (Fn.yield w0.heap.size) #[] #[]]from by simp[Act.eval]]
 ·intro f' _;trivial
 ·have hname:(fn.name== "runtime.NumGoroutine")=false:=by simpa using hnm
  have e:((⟨cf⟩:Array Value)++#[Value.func (.yield w0.heap.size) #[] #[]]++(⟨cc⟩:Array Value))=⟨cf++[Value.func (.yield w0.heap.size) #[] #[]]++cc⟩:=by apply Array.ext';simp
  simp only[invoke,callFunc,kR,run_program,kQ,hfn,hname,pB,if_false,hbd,Option.isNone_some,kS,e]
 ·intro h;simp[Fr,Fence.wide]at h
 ·refine callsIn_Fr.2 ((hcalls μ1 w1 _ s1.rh hfr1 hargs).mono fun e w2 ⟨cv,μ2,he,s2,_⟩=>?_);subst he;have hm2:μ2 h.next=some ⟨w0.heap.size,0,0,0⟩:=s2.le _ _ hm1;obtain⟨_,r2',g1,g2,g3,g4,g5,g6,g7⟩:=s2.rh.br _ _ _ hst hm2;have hnb:r2'.state≠.busy:=by
   cases st with
   |ready=>rw[g2.1];simp
   |busy=>simp[iW]at hex
   |done j=>rw[g2.1];simp
   |exhausted=>simp[iW]at hex
  have hend:=run_endLoop (P:=P) g1 hnb;have s3:Step NG μ2 h2 w2 μ2 (h2.put h.next (.loop nt' fr' ps' as' bd' .exhausted)) (setObj w2 w0.heap.size (.loop {r2' with state:=.exhausted})):=
   Step.write s2.rh (l:=⟨w0.heap.size,0,0,0⟩) hst rfl rfl hm2 ⟨rfl,_,bA (Array.getElem?_eq_some_iff.1 g1).1,rfl,g3,g4,g5,g6,g7⟩
  have hmk:Marks a.defers ([(⟨.collected w.heap.size,#[]⟩:Deferred)]++a.defers) w.heap.size (setObj w2 w0.heap.size (.loop {r2' with state:=.exhausted})):=by
   refine⟨[w.heap.size],rfl,by simp,fun r hr=>?_⟩;have:r=w.heap.size:=by simpa using hr
   subst this;exact⟨kF _,s3.deferred s2.rh (s2.deferred s1.rh hd1)⟩
  have hto:StepTo NG nt μ h w a fr2 (h2.put h.next (.loop nt' fr' ps' as' bd' .exhausted)) {a with defers:=[(⟨.collected w.heap.size,#[]⟩:Deferred)]++a.defers} (setObj w2 w0.heap.size (.loop {r2' with state:=.exhausted})):=
   ⟨μ2,(s1.trans s2).trans s3,⟨f.1,fun t v hv=>⟨(f.2 t v (hfr2 t v hv)).1,(f.2 t v (hfr2 t v hv)).2.mono ((s1.trans s2).le)⟩⟩,hmk⟩
  refine⟨r2'.pending,_,hend,?_⟩
  cases st with
  |ready=>
   simp only[iW,kE]at hex;subst hex;rw[g2.2]at hto⊢;exact⟨trivial,hto⟩
  |busy=>simp[iW]at hex
  |exhausted=>simp[iW]at hex
  |done j=>
   rw[g2.2]at hto⊢
   cases j with
   |none=>
    simp only[iW,kE]at hex;subst hex;exact wpIn_ret ⟨trivial,hto⟩
   |some id=>
    simp only[iW,kE]at hex;subst hex;exact wpIn_exit ⟨rfl,hto⟩
theorem oH {nt:Nat}{μ:Mu}:∀(ps:List Tmp) (vs cs:List Value) (fr:T Value) (tm:Array Value),(∀t∈ps,t<nt)→LR μ vs cs→nt≤tm.size→(∀(t:Tmp) (v:Value),fr.get t=some v→t<nt∧VR μ v (tm.getD t undef))→
 nt≤((ps.zip cs).foldl (fun(tm:Array Value) (x:Tmp×Value)=>tm.setIfInBounds x.1 x.2) tm).size∧
 ∀(t:Tmp) (v:Value),(sJ fr ps vs).get t=some v→t<nt∧VR μ v (((ps.zip cs).foldl (fun(tm:Array Value) (x:Tmp×Value)=>tm.setIfInBounds x.1 x.2) tm).getD t undef)
 |[],vs,cs,fr,tm,_,_,hn,hf=>by simp only[sJ,List.zip_nil_left,List.foldl_nil];exact⟨hn,hf⟩
 |p::ps,[],cs,fr,tm,hp,hl,hn,hf=>by
  have:cs=[]:=List.length_eq_zero_iff.1 hl.1.symm;subst this;simp only[sJ,List.zip_nil_left,List.zip_nil_right,List.foldl_nil];exact⟨hn,hf⟩
 |p::ps,v::vs,[],fr,tm,hp,hl,hn,hf=>absurd hl.1 (by simp)
 |p::ps,v::vs,c::cs,fr,tm,hp,hl,hn,hf=>by
  simp only[sJ,List.zip_cons_cons,List.foldl_cons];have hl':LR μ vs cs:=⟨by simpa using hl.1,fun i a b ha hb=>hl.2 (i+1) a b (by simpa using ha) (by simpa using hb)⟩;refine oH ps vs cs _ _ (fun t ht=>hp t (by simp[ht])) hl' (by simpa using hn) fun t u hu=>?_;rw[T.get_set]at hu;have hpn:=hp p (by simp);split at hu
  ·rename_i e;subst e;simp only[kE]at hu;subst hu;refine⟨hpn,?_⟩;have:(tm.setIfInBounds t c).getD t undef=c:=by
    rw[pG,Array.getElem?_setIfInBounds,kB rfl,kB (kH hpn hn)];rfl
   rw[this];exact hl.2 0 _ _ rfl rfl
  ·rename_i e;obtain⟨h1,h2⟩:=hf t u hu;refine⟨h1,?_⟩;rw[pG,Array.getElem?_setIfInBounds_ne (Ne.symm e),←pG];exact h2
def oX:Ex→Bool×LSt
 | .normal=>(true,.ready)
 | .ret=>(false,.done none)
 | .exit j=>(false,.done (some j))
theorem oJ {id:Nat}{args:List Value}{h:H}{fr:T Value}{ps:List Tmp}{assign body:Code}(hb:h.get id=some (.loop nt fr ps assign body .ready))(hlen:ps.length=args.length)
 (hps:∀t∈ps,t<nt) (hn1:cK assign=true) (hn2:cK body=true) {fr2:T Value} {h2:H} (c1:wE P NG nt assign (sJ fr ps args) h .normal fr2 h2)
 {nt2:Nat} {f2:T Value} {p2:List Tmp} {a2 b2:Code} (hb2:h2.get id=some (.loop nt2 f2 p2 a2 b2 .ready)) {ex:Ex} {fr4:T Value} {h4:H}
 (c2:wE P NG nt body fr2 (h2.put id (.loop nt2 f2 p2 a2 b2 .busy)) ex fr4 h4) {nt4:Nat} {f4:T Value} {p4:List Tmp} {a4 b4:Code} {st4:LSt} (hb4:h4.get id=some (.loop nt4 f4 p4 a4 b4 st4)):
 h.next≤h4.next∧∀μ w cargs l,RH NG μ h w→Fresh μ h.next h4.next→LR μ args cargs→μ id=some l→
  ∃g tm a b,(Instr.yield l.blk ⟨cargs⟩).run P w=.ok (.round l.blk g tm a b) w∧RoundIn Fence.wide 0 P l.blk g tm a b w (fX NG μ h w (.bool (oX ex).1) (h4.put id (.loop nt4 f4 p4 a4 b4 (oX ex).2))):=by
 have hle1:=c1.1;have hle2:h2.next≤h4.next:=c2.1;refine⟨kG hle1 hle2,fun μ w cargs l rh hf hl hm=>?_⟩;obtain⟨h0,r,g1,g2,g3,g4,g5,g6,g7⟩:=rh.br _ _ _ hb hm;have hcl:cargs.length=args.length:=hl.1.symm;have hy:=run_yield (P:=P) (w:=w) (args:=⟨cargs⟩) g1 (by rw[g3];simp;omega);refine⟨_,_,_,_,hy,roundIn_of_wpIn trivial ?_⟩;rw[g4,g5,g3];have etm:(Array.foldl (fun(tmps:Array Value) (x:Tmp×Value)=>tmps.setIfInBounds x.1 x.2) r.tmps ((⟨ps⟩:Array Tmp).zip ⟨cargs⟩))=(ps.zip cargs).foldl (fun(tm:Array Value) (x:Tmp×Value)=>tm.setIfInBounds x.1 x.2) r.tmps:=by
  rw[←Array.foldl_toList];simp
 obtain⟨f1,f2'⟩:=oH (nt:=nt) ps args cargs fr r.tmps hps hl g6 g7;have key:assign.wpIn (Fr (some l.blk)) 0 P (fun e a' w'=>ExR .normal e∧StepTo NG nt μ h w {tmps:=(ps.zip cargs).foldl (fun(tm:Array Value) (x:Tmp×Value)=>tm.setIfInBounds x.1 x.2) r.tmps,defers:=[]} fr2 h2 a' w') {tmps:=(ps.zip cargs).foldl (fun(tm:Array Value) (x:Tmp×Value)=>tm.setIfInBounds x.1 x.2) r.tmps,defers:=[]} w:=
  c1.2 μ _ w rh (fun i e1 e2=>hf i e1 (kH e2 hle2)) ⟨f1,f2'⟩ (some l.blk) (.inr hn1)
 show assign.wpIn (Fr (some l.blk)) 0 P _ {tmps:=Array.foldl (fun(tmps:Array Value) (x:Tmp×Value)=>tmps.setIfInBounds x.1 x.2) r.tmps ((⟨ps⟩:Array Tmp).zip ⟨cargs⟩),defers:=[]} w;rw[etm];refine wpIn_mono key fun e a1 w1 ⟨he,μ1,s1,fa1,_⟩=>?_
 cases e with
 |normal=>
  have hm1:μ1 id=some l:=s1.le _ _ hm;obtain⟨_,r2,k1,k2,k3,k4,k5,k6,k7⟩:=s1.rh.br _ _ _ hb2 hm1;refine⟨_,run_beginRound k1 k2.1,?_⟩;have s2:Step NG μ1 h2 w1 μ1 (h2.put id (.loop nt2 f2 p2 a2 b2 .busy)) (setObj w1 l.blk (.loop {r2 with state:=.busy})):=
   Step.write s1.rh hb2 rfl rfl hm1 ⟨h0,_,bA (Array.getElem?_eq_some_iff.1 k1).1,rfl,k3,k4,k5,k6,k7⟩
  have key2:=c2.2 μ1 a1 (setObj w1 l.blk (.loop {r2 with state:=.busy})) s2.rh (fun i e1 e2=>by
   have e1':h2.next≤i:=e1;rw[s1.out i e1'];exact hf i (by omega) e2) fa1 (some l.blk) (.inr hn2)
  refine wpIn_mono (show body.wpIn (Fr (some l.blk)) 0 P _ a1 (setObj w1 l.blk (.loop {r2 with state:=.busy}))from key2) fun e a3 w3 ⟨he3,μ3,s3,_,_⟩=>?_;have hm3:μ3 id=some l:=s3.le _ _ hm1;obtain⟨_,r3,j1,j2,j3,j4,j5,j6,j7⟩:=s3.rh.br _ _ _ hb4 hm3;have fin:∀(jump:Option Code) (b:Bool) (st:LSt),jump.isNone=b→(∀r:Loop,bKf st {r with state:=if jump.isNone then .ready else .done,pending:=jump})→
   ∃v w',(Instr.endRound l.blk jump).run P w3=.ok v w'∧fX NG μ h w (.bool b) (h4.put id (.loop nt4 f4 p4 a4 b4 st)) (.returned v) w':=by
   intro jump b st hj hst;refine⟨_,_,run_endRound (P:=P) jump j1,.bool jump.isNone,μ3,rfl,?_,by rw[hj];exact .bool b⟩;have s4:Step NG μ3 h4 w3 μ3 (h4.put id (.loop nt4 f4 p4 a4 b4 st)) (setObj w3 l.blk (.loop {r3 with state:=if jump.isNone then .ready else .done,pending:=jump})):=
    Step.write s3.rh hb4 rfl rfl hm3 ⟨h0,_,bA (Array.getElem?_eq_some_iff.1 j1).1,hst r3,j3,j4,j5,j6,j7⟩
   exact((s1.trans s2).trans s3).trans s4
  cases e with
  |normal=>
   cases ex with
   |normal=>exact fin none true .ready rfl fun r=>⟨rfl,rfl⟩
   |ret=>exact he3.elim
   |exit j=>exact he3.elim
  |ret=>
   cases ex with
   |normal=>exact he3.elim
   |ret=>exact fin (some .ret) false (.done none) rfl fun r=>⟨rfl,rfl⟩
   |exit j=>exact he3.elim
  |exit k=>
   cases ex with
   |normal=>exact he3.elim
   |ret=>exact he3.elim
   |exit j=>
    simp only[ExR]at he3;subst he3;exact fin (some (.exit j)) false (.done (some j)) rfl fun r=>⟨rfl,rfl⟩
  |goto t=>cases ex<;>exact he3.elim
  |panic c=>cases ex<;>exact he3.elim
  |outgrown=>cases ex<;>exact he3.elim
 |exit k=>exact he.elim
 |ret=>exact he.elim
 |goto t=>exact he.elim
 |panic c=>exact he.elim
 |outgrown=>exact he.elim
theorem jI {f:FuncId}{fn:Func}(hfn:P.funcs[f]?=some fn)(hname:fn.name≠ "runtime.NumGoroutine")(hb:fn.body=none){e:Array Value→Sem Value}(h1:Extern.findNext fn=none)(h2:Extern.find fn=some e)
 {args:Array Value} {v:Value} {w:World} (he:(e args).run P w=.ok v w):(callFunc f args).run P w=.ok (.value v) w:=by
 have hn:(fn.name== "runtime.NumGoroutine")=false:=by simpa using hname
 simp only[callFunc,kR,run_program,kQ,hfn,hn,pB,if_false,hb,Option.isNone_none,if_true];simp[h1,h2,kR,he,Result.andThen,mark,Sem.run]
theorem fH (s:ByteArray)(w:World):(Extern.Bytes.bytesOf (.string s)).run P w=.ok s w:=rfl
theorem uC (c:Int)(w:World):(Extern.Bytes.asByte (.int .u8 c)).run P w=.ok c.toNat.toUInt8 w:=rfl
theorem sT {f:FuncId}{fn:Func}(hfn:P.funcs[f]?=some fn)(hname:fn.name≠ "runtime.NumGoroutine")(hb:fn.body=none){args:List Value}{h h':H}{v:Value}(hr:lN (oS fn) args h=some (v,h')):
 h'=h∧∀μ w cargs,RH NG μ h w→LR μ args cargs→∃cv w' μ',(callFunc f ⟨cargs⟩).run P w=.ok (.value cv) w'∧Step NG μ h w μ' h' w'∧VR μ' v cv:=by
 unfold lN at hr;split at hr
 ·rename_i s c hk;simp only[kE,kK]at hr;obtain⟨rfl,rfl⟩:=hr;refine⟨rfl,fun μ w cargs rh hl=>?_⟩;have hca:cargs=[.string s,.int .u8 c]:=by
   match cargs,hl with
   |[x,y],hl=>
    have e1:=hl.2 0 _ _ rfl rfl;have e2:=hl.2 1 _ _ rfl rfl;cases e1;cases e2;rfl
   |[],hl=>have:=hl.1;simp at this
   |[_],hl=>have:=hl.1;simp at this
   |_::_::_::_,hl=>have:=hl.1;simp at this
  subst hca;have hnm:fn.name= "internal/bytealg.IndexByteString" ∧fn.origin= "" :=by
   unfold oS at hk;split at hk<;>rename_i h1
   ·exact h1
   ·split at hk
    ·simp at hk
    ·split at hk<;>simp at hk
  obtain⟨a1,a2⟩:=jH hnm.1 hnm.2 Extern.BytealgIndexByte.indexByte (by kernel_rfl) (by kernel_rfl) (by kernel_rfl) (by kernel_rfl) (by kernel_rfl);refine⟨_,w,μ,jI hfn hname hb a1 a2 (v:=.int .i64 (match(List.range s.size).find? fun i=>s[i]! ==c.toNat.toUInt8 with|some i=>(i:Int)|none=> -1)) ?_,Step.refl rh,.int _ _⟩
  have ei:Extern.BytealgIndexByte.indexByte ⟨[.string s,.int .u8 c]⟩=(do
   let b←Extern.Bytes.bytesOf (.string s);let c←Extern.Bytes.asByte (.int .u8 c)
   match(List.range b.size).find? fun i=>b[i]! ==c with
   |some i=>pure (goInt i)
   |none=>pure (goInt (-1))):=rfl
  rw[ei];simp only[kR,fH,uC,kQ];cases(List.range s.size).find? fun i=>s[i]! ==c.toNat.toUInt8<;>rfl
 ·rename_i s c hk;simp only[kE,kK]at hr;obtain⟨rfl,rfl⟩:=hr;refine⟨rfl,fun μ w cargs rh hl=>?_⟩;have hca:cargs=[.string s,.int .u8 c]:=by
   match cargs,hl with
   |[x,y],hl=>
    have e1:=hl.2 0 _ _ rfl rfl;have e2:=hl.2 1 _ _ rfl rfl;cases e1;cases e2;rfl
   |[],hl=>have:=hl.1;simp at this
   |[_],hl=>have:=hl.1;simp at this
   |_::_::_::_,hl=>have:=hl.1;simp at this
  subst hca;have hnm:fn.name= "internal/bytealg.CountString" ∧fn.origin= "" :=by
   unfold oS at hk;split at hk<;>rename_i h1
   ·simp at hk
   ·split at hk<;>rename_i h2
    ·exact h2
    ·split at hk<;>simp at hk
  obtain⟨a1,a2⟩:=jH hnm.1 hnm.2 Extern.BytealgCount.count (by kernel_rfl) (by kernel_rfl) (by kernel_rfl) (by kernel_rfl) (by kernel_rfl);refine⟨_,w,μ,jI hfn hname hb a1 a2 (v:=.int .i64 (s.foldl (fun(n:Int) x=>if x==c.toNat.toUInt8 then n+1 else n) ((0:Nat):Int))) ?_,Step.refl rh,.int _ _⟩
  have ei:Extern.BytealgCount.count ⟨[.string s,.int .u8 c]⟩=(do
   let b←Extern.Bytes.bytesOf (.string s);let c←Extern.Bytes.asByte (.int .u8 c)
   pure (goInt (b.foldl (fun(n:Int) x=>if x==c then n+1 else n) ((0:Nat):Int)))):=rfl
  rw[ei];simp only[kR,fH,uC,kQ];rfl
 ·rename_i a b hk;simp only[kE,kK]at hr;obtain⟨rfl,rfl⟩:=hr;refine⟨rfl,fun μ w cargs rh hl=>?_⟩;have hca:cargs=[.string a,.string b]:=by
   match cargs,hl with
   |[x,y],hl=>
    have e1:=hl.2 0 _ _ rfl rfl;have e2:=hl.2 1 _ _ rfl rfl;cases e1;cases e2;rfl
   |[],hl=>have:=hl.1;simp at this
   |[_],hl=>have:=hl.1;simp at this
   |_::_::_::_,hl=>have:=hl.1;simp at this
  subst hca;have hnm:fn.name= "internal/bytealg.abigen_runtime_cmpstring" ∧fn.origin= "" :=by
   unfold oS at hk;split at hk<;>rename_i h1
   ·simp at hk
   ·split at hk<;>rename_i h2
    ·simp at hk
    ·split at hk<;>rename_i h3
     ·exact h3
     ·simp at hk
  obtain⟨a1,a2⟩:=jH hnm.1 hnm.2 Extern.BytealgCompare.compare (by kernel_rfl) (by kernel_rfl) (by kernel_rfl) (by kernel_rfl) (by kernel_rfl);refine⟨_,w,μ,jI hfn hname hb a1 a2 (v:=.int .i64 (Extern.BytealgCompare.cmp a b)) ?_,Step.refl rh,.int _ _⟩;have ei:Extern.BytealgCompare.compare ⟨[.string a,.string b]⟩=(do pure (goInt (Extern.BytealgCompare.cmp (←Extern.Bytes.bytesOf (.string a)) (←Extern.Bytes.bytesOf (.string b))))):=rfl;rw[ei];simp only[kR,fH,kQ];rfl
 ·simp at hr
theorem iC {fn:Func}{tmps:Array Value}{R:Ending→World→Prop}{μ μ':Mu}{h h':H}{w:World}:∀(ms:List Nat) (w':World),Step NG μ h w μ' h' w'→ms.Nodup→(∀r∈ms,w.heap.size≤r∧w'.heap[r]?=some (.deferred (some [])))→
 (∀w'',Step NG μ h w μ' h' w''→∃v,(results fn tmps).run P w''=.ok v w''∧R (.returned v) w'')→LeavesInM (Fr none) 0 P fn tmps R (ms.map (fun r=>(⟨.collected r,#[]⟩:Deferred))) .returning w'
 |[],w',st,_,_,hR=>hR w' st
 |r::ms,w',st,hnd,hms,hR=>by
  obtain⟨h1,h2⟩:=hms r (by simp);refine⟨by simp,.inl ⟨r,_,rfl,run_takeDeferred h2,?_⟩⟩;have hne:∀r'∈ms,r'≠r:=fun r' hr' e=>by subst e;exact(List.nodup_cons.1 hnd).1 hr'
  exact iC ms (setObj w' r (.deferred none)) (st.shut h2 h1 _) (List.nodup_cons.1 hnd).2
   (fun r' hr'=>⟨(hms r' (by simp[hr'])).1,by rw[eN (hne r' hr')];exact(hms r' (by simp[hr'])).2⟩) hR
end
end Go.AM
