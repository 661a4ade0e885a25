import Derived.Test.YtohapjojkjjflaaGreatDoorRq
namespace Go.Proofs.YtohapjojkjjflaaGreatDoor.Wz
open Go Go.AM
abbrev Sb:=List UInt8×Nat
structure Pq where
 kind:Nat
 dup:Bool
 qos:Nat
 retain:Bool
 id:Nat
 topic:List UInt8
 payload:List UInt8
 level:Nat
 clean:Bool
 keep:Nat
 client:List UInt8
 will:Bool
 wt:List UInt8
 wp:List UInt8
 wq:Nat
 wr:Bool
 hu:Bool
 hp:Bool
 user:List UInt8
 pass:List UInt8
 present:Bool
 code:Nat
 codes:List UInt8
 deriving DecidableEq
def zq (kind:Nat):Pq:=⟨kind,false,0,false,0,[],[],0,false,0,[],false,[],[],0,false,false,false,[],[],false,0,[]⟩
def wrd:List UInt8→Option Nat
 |a::b::_=>some (256*a.toNat+b.toNat)
 |_=>none
def getD (l:List UInt8):Option (List UInt8×Nat):=
 match wrd l with
 |some n=>if n≤l.length-2 then some ((l.drop 2).take n,2+n)else none
 |none=>none
def bG (c:Nat):Bool:=
 if c / 16=0∨c / 16=15 then false else if c / 16=3 then decide (c%16 / 2%4<3)else if c / 16=6∨c / 16=8∨c / 16=10 then decide (c%16=2)else decide (c%16=0)
def bR:List UInt8→Nat×List UInt8×Bool
 |[]=>(0,[],true)
 |b::l=>(b.toNat,l,false)
def aX (l:List UInt8):Nat×List UInt8×Bool:=match wrd l with|some n=>(n,l.drop 2,false)|none=>(0,l,true)
def aM (l:List UInt8):List UInt8×List UInt8×Bool:=match getD l with|some (d,u)=>(d,l.drop u,false)|none=>([],l,true)
def aZ (val:List UInt8→Bool)(l:List UInt8):List UInt8×List UInt8×Bool:=match getD l with|some (d,u)=>(if val d then(d,l.drop u,false)else([],l,true))|none=>([],l,true)
theorem lM {l:List UInt8}{n:Nat}(h:wrd l=some n):2≤l.length∧n<65536:=by
 match l,h with
 |a::b::r,h=>
  simp only[wrd,kE]at h;have:=a.toNat_lt;have:=b.toNat_lt;exact⟨by simp only[kM];omega,by omega⟩
theorem gG {l d:List UInt8}{u:Nat}(h:getD l=some (d,u)):u≤l.length∧d.length+2=u∧d.length≤l.length:=by
 unfold getD at h;split at h
 ·rename_i n hw;have:=(lM hw).1;split at h
  ·simp only[kE,kK]at h;obtain⟨rfl,rfl⟩:=h;rw[kT,kU];omega
  ·cases h
 ·cases h
theorem eM (l:List UInt8):(bR l).1<256:=by
 cases l with
 |nil=>exact(by decide)
 |cons b t=>exact b.toNat_lt
theorem fJ (l:List UInt8):(bR l).2.1.length≤l.length:=by
 cases l with
 |nil=>exact kF _
 |cons b t=>exact Nat.le_succ _
theorem bZ (l:List UInt8):(aX l).2.1.length≤l.length∧(aX l).1<65536:=by
 unfold aX
 cases h:wrd l with
 |none=>exact⟨kF _,by show 0<65536;omega⟩
 |some n=>exact⟨by show(l.drop 2).length≤_;rw[kU];omega,(lM h).2⟩
theorem fV (l:List UInt8):(aM l).2.1.length≤l.length∧(aM l).1.length≤l.length:=by
 unfold aM
 cases h:getD l with
 |none=>exact⟨kF _,pQ _⟩
 |some du=>exact⟨by show(l.drop du.2).length≤_;rw[kU];omega,(gG (d:=du.1) (u:=du.2) h).2.2⟩
theorem dR (val:List UInt8→Bool)(l:List UInt8):(aZ val l).2.1.length≤l.length∧(aZ val l).1.length≤l.length:=by
 unfold aZ
 cases h:getD l with
 |none=>exact⟨kF _,pQ _⟩
 |some du=>
  have:=gG (d:=du.1) (u:=du.2) h;show(if val du.1 then _ else _:List UInt8×List UInt8×Bool).2.1.length≤_∧(if val du.1 then _ else _:List UInt8×List UInt8×Bool).1.length≤_
  split
  ·exact⟨by show(l.drop du.2).length≤_;rw[kU];omega,this.2.2⟩
  ·exact⟨kF _,pQ _⟩
def aO (m c:Nat):Bool:=decide (c / m%2=1)
def MQTT:List UInt8:=[77,81,84,84]
abbrev CS:=List UInt8×Bool×Pq
def cW (val:List UInt8→Bool)(s:CS):CS:=
 let a:=aZ val s.1;let b:=bR a.2.1;let c:=bR b.2.1
 (c.2.1,(if s.2.1||a.2.2||b.2.2||c.2.2 then true else if a.1=MQTT then aO 1 c.1 else true),{s.2.2 with level:=b.1,clean:=aO 2 c.1,will:=aO 4 c.1,wq:=c.1 / 8%4,wr:=aO 32 c.1,hp:=aO 64 c.1,hu:=aO 128 c.1})
def bT (val:List UInt8→Bool)(s:CS):CS:=
 let d:=aX s.1;let e:=aZ val d.2.1
 (e.2.1,s.2.1||d.2.2||e.2.2,{s.2.2 with keep:=d.1,client:=e.1})
def bH (val:List UInt8→Bool)(s:CS):CS:=
 if s.2.2.will then
  let a:=aZ val s.1;let b:=aM a.2.1
  (b.2.1,s.2.1||a.2.2||b.2.2,{s.2.2 with wt:=a.1,wp:=b.1})
 else s
def bY (val:List UInt8→Bool)(s:CS):CS:=
 if s.2.2.hu then
  let a:=aZ val s.1
  (a.2.1,s.2.1||a.2.2,{s.2.2 with user:=a.1})
 else s
def bU (s:CS):CS:=
 if s.2.2.hp then
  let a:=aM s.1
  (a.2.1,s.2.1||a.2.2,{s.2.2 with pass:=a.1})
 else s
def eW (val:List UInt8→Bool)(s:CS):CS:=bU (bY val (bH val (bT val (cW val s))))
def eO (val:List UInt8→Bool)(kind:Nat):Nat→List UInt8→Bool→List Sb×List UInt8×Bool
 |0,l,bad=>([],l,bad)
 |n+1,l,bad=>
  if l=[]∨bad=true then([],l,bad)else
   let a:=aZ val l;let b:=if kind=8 then bR a.2.1 else(0,a.2.1,false)
   let t:=eO val kind n b.2.1 (bad||a.2.2||b.2.2)
   ((a.1,b.1)::t.1,t.2)
theorem sF {val:List UInt8→Bool}{l:List UInt8}(h:(aZ val l).2.2=false):(aZ val l).2.1.length+2≤l.length:=by
 unfold aZ at h⊢
 cases hg:getD l with
 |none=>rw[hg]at h;cases h
 |some du=>
  obtain⟨h1,h2,_⟩:=gG (d:=du.1) (u:=du.2) hg;rw[hg]at h;show(if val du.1 then _ else _:List UInt8×List UInt8×Bool).2.1.length+2≤_
  have h:(if val du.1 then(du.1,l.drop du.2,false)else([],l,true):List UInt8×List UInt8×Bool).2.2=false:=h
  split
  ·show(l.drop du.2).length+2≤_;rw[kU];omega
  ·rename_i hv;rw[kA hv]at h;cases h
def cY (val:List UInt8→Bool)(s:CS):CS×List Sb:=
 if s.2.2.kind=9 then(([],s.2.1,{s.2.2 with codes:=s.1}),[])
 else if s.2.2.kind=8∨s.2.2.kind=10 then(((eO val s.2.2.kind (s.1.length+1) s.1 s.2.1).2.1,(eO val s.2.2.kind (s.1.length+1) s.1 s.2.1).2.2,s.2.2),(eO val s.2.2.kind (s.1.length+1) s.1 s.2.1).1)
 else(s,[])
def wA (s:CS):CS:=
 let a:=bR s.1;let b:=bR a.2.1
 (b.2.1,(if s.2.1||a.2.2 then true else decide (1<a.1))||b.2.2,{s.2.2 with present:=decide (a.1=1),code:=b.1})
def jR (val:List UInt8→Bool)(fl:Nat)(s:CS):CS:=
 let a:=aZ val s.1;let b:=if 0<fl / 2%4 then aX a.2.1 else(s.2.2.id,a.2.1,false)
 ([],s.2.1||a.2.2||b.2.2,{s.2.2 with dup:=aO 8 fl,qos:=fl / 2%4,retain:=aO 1 fl,topic:=a.1,id:=b.1,payload:=b.2.1})
def fI (val:List UInt8→Bool)(fl:Nat)(s:CS):CS×List Sb:=
 if s.2.2.kind=1 then(eW val s,[])
 else if s.2.2.kind=2 then(wA s,[])
 else if s.2.2.kind=3 then(jR val fl s,[])
 else if s.2.2.kind=12∨s.2.2.kind=13∨s.2.2.kind=14 then(s,[])
 else cY val ((aX s.1).2.1,s.2.1||(aX s.1).2.2,{s.2.2 with id:=(aX s.1).1})
def rlF (l:List UInt8):Nat→Nat→Nat→Nat→Nat×Nat×Nat
 |0,_,_,_=>(0,0,4)
 |f+1,scale,n,used=>match l[used]? with
  |none=>(0,0,2)
  |some b=>if b.toNat<128 then(n+b.toNat%128*scale,used+1,0)else rlF l f (scale*128) (n+b.toNat%128*scale) (used+1)
theorem mX (l:List UInt8):∀f scale n used,(rlF l f scale n used).2.2=0→(rlF l f scale n used).2.1≤l.length
 |0,_,_,_=>fun h=>by cases h
 |f+1,scale,n,used=>fun h=>by
  unfold rlF at h⊢
  cases hb:l[used]? with
  |none=>rw[hb]at h;cases h
  |some b=>
   rw[hb]at h;simp only at h⊢;have:=(List.getElem?_eq_some_iff.1 hb).1;split
   ·exact this
   ·rename_i hc;rw[kA hc]at h;exact mX l f _ _ _ h
def aAi:List UInt8:=[0,4,77,81,84,84]
def lv7 (K:Nat)(rest:List UInt8):Prop:=K=1∧6<rest.length∧rest.take 6=aAi∧rest[6]?≠some 4
instance (K:Nat) (rest:List UInt8):Decidable (lv7 K rest):=by unfold lv7;infer_instance
def oE:Option Nat→Value
 |none=>.int .i64 (-1)
 |some n=>.int .i64 (n:Int)
def idO (p:Pq):Option Nat:=if p.id=0 then none else some 2
def wz (p:Pq):Bool:=bif p.wt==[]then bif p.wp==[]then bif (p.wq:Int)==0 then p.wr==false else false else false else false
def aDs (nm:List UInt8→Bool)(p:Pq)(n:Nat):Option Nat:=
 if p.will then(if nm p.wt then(if 65535<p.wp.length then none else if 2<p.wq then none else some (n+(4+p.wt.length+p.wp.length)))else none)else(if wz p then some n else none)
def aAm (p:Pq)(n:Nat):Option Nat:=
 if p.hu then some (n+(2+p.user.length))else if p.user=[]then(if p.hp then none else some n)else none
def xF (p:Pq)(n:Nat):Option Nat:=
 if p.hp then some (n+(2+p.pass.length))else if p.pass=[]then some n else none
def aBk (val nm:List UInt8→Bool)(p:Pq):Option Nat:=
 if p.level=4 then
  if val p.client then
   match aDs nm p (12+p.client.length)with
   |none=>none
   |some n=>match aAm p n with
    |none=>none
    |some n=>match xF p n with
     |none=>none
     |some n=>if val p.user then(if 65535<p.pass.length then none else some n)else none
  else none
 else none
def xE (nm:List UInt8→Bool)(p:Pq):Option Nat:=
 if nm p.topic then
  if 2<p.qos then none
  else if 0<p.qos∧0<p.id then some (2+p.topic.length+p.payload.length+2)
  else if 0<p.qos∨0<p.id∨p.dup=true then none
  else some (2+p.topic.length+p.payload.length)
 else none
def rN (kind:Nat):Nat:=if kind=10 then 0 else 1
def nL (kind:Nat):Nat:=if kind=10 then 0 else 2
def suL (fi:List UInt8→Bool)(most more:Nat):List Sb→Nat→Option Nat
 |[],n=>some n
 |s::l,n=>if fi s.1 then(if most<s.2 then none else suL fi most more l (n+(2+s.1.length+more)))else none
def aAn (fi:List UInt8→Bool)(p:Pq)(es:List Sb):Option Nat:=
 match idO p with
 |none=>none
 |some n=>if es=[]then none else suL fi (nL p.kind) (rN p.kind) es n
def okc (c:UInt8):Bool:=decide (c.toNat≤2∨c.toNat=128)
def aBl (p:Pq):Option Nat:=
 match idO p with
 |none=>none
 |some n=>if p.codes=[]then none else if p.codes.all okc then some (n+p.codes.length)else none
def eN (val nm fi:List UInt8→Bool)(p:Pq)(es:List Sb):Option Nat:=
 if p.kind=1 then aBk val nm p
 else if p.kind=2 then(if p.code≤5 then(if p.code=0 then some 2 else if p.present=true then none else some 2)else none)
 else if p.kind=3 then xE nm p
 else if p.kind=4∨p.kind=5∨p.kind=6∨p.kind=7∨p.kind=11 then idO p
 else if p.kind=8∨p.kind=10 then aAn fi p es
 else if p.kind=9 then aBl p
 else if p.kind=12∨p.kind=13∨p.kind=14 then some 0
 else none
def bz (p:Pq):Pq:=
 if p.kind=1 then{zq 0 with level:=p.level,clean:=p.clean,keep:=p.keep,client:=p.client,will:=p.will,wt:=p.wt,wp:=p.wp,wq:=p.wq,wr:=p.wr,hu:=p.hu,hp:=p.hp,user:=p.user,pass:=p.pass}
 else if p.kind=2 then{zq 0 with present:=p.present,code:=p.code}
 else if p.kind=3 then{zq 0 with dup:=p.dup,qos:=p.qos,retain:=p.retain,id:=p.id,topic:=p.topic,payload:=p.payload}
 else if p.kind=9 then{zq 0 with id:=p.id,codes:=p.codes}
 else if p.kind=12∨p.kind=13∨p.kind=14 then zq 0
 else{zq 0 with id:=p.id}
def fG (p:Pq)(es:List Sb):Bool:=if es≠[]∧p.kind≠8∧p.kind≠10 then false else decide (p={bz p with kind:=p.kind})
def iS (val nm fi:List UInt8→Bool)(p:Pq)(es:List Sb):Option Nat:=
 match eN val nm fi p es with
 |none=>none
 |some n=>if 268435455<n then none else if fG p es then some n else none
def pO (val nm fi:List UInt8→Bool)(l:List UInt8):Option (Pq×List Sb×Nat):=
 match l with
 |[]=>none
 |c::t=>
  if bG c.toNat=true then
   if(rlF t 4 1 0 0).2.2=0 then
    if(c::t).length-((rlF t 4 1 0 0).2.1+1)<(rlF t 4 1 0 0).1 then none
    else
     let rest:=((c::t).drop ((rlF t 4 1 0 0).2.1+1)).take (rlF t 4 1 0 0).1;let n:=(rlF t 4 1 0 0).2.1+1+(rlF t 4 1 0 0).1
     if lv7 (c.toNat / 16) rest then some ({zq 1 with level:=(rest[6]?.getD 0).toNat},[],n)
     else
      let a:=fI val (c.toNat%16) (rest,false,zq (c.toNat / 16))
      if a.1.2.1=true∨a.1.1≠[]then none else if(iS val nm fi a.1.2.2 a.2).isSome then some (a.1.2.2,a.2,n)else none
   else none
  else none
def aH (s:List UInt8):List UInt8:=UInt8.ofNat (s.length / 256)::UInt8.ofNat (s.length%256)::s
def bD (n:Nat):List UInt8:=[UInt8.ofNat (n / 256),UInt8.ofNat (n%256)]
theorem aU (s:List UInt8):(aH s).length=2+s.length:=by simp only[aH,kM];omega
theorem u8n {n:Nat}(h:n<256):(UInt8.ofNat n).toNat=n:=by rw[UInt8.toNat_ofNat',Nat.mod_eq_of_lt h]
def nE (kind:Nat)(s:Sb):List UInt8:=aH s.1++(if kind=8 then[UInt8.ofNat s.2]else[])
def dD (kind:Nat)(l:List Sb):List UInt8:=(l.map (nE kind)).flatten
theorem fY (kind:Nat)(s:Sb)(l:List Sb):dD kind (s::l)=nE kind s++dD kind l:=by simp[dD]
def dO (p:Pq):Nat:=if p.kind=3 then(if p.dup then 8 else 0)+2*p.qos+(if p.retain then 1 else 0)else if p.kind=6∨p.kind=8∨p.kind=10 then 2 else 0
def cfN (p:Pq):Nat:=(if p.hu then 128 else 0)+(if p.hp then 64 else 0)+(if p.wr then 32 else 0)+8*p.wq+(if p.will then 4 else 0)+(if p.clean then 2 else 0)
def oO (p:Pq):List UInt8:=aH MQTT++[UInt8.ofNat p.level,UInt8.ofNat (cfN p)]++bD p.keep++aH p.client++(if p.will then aH p.wt++aH p.wp else[])++(if p.hu then aH p.user else[])++(if p.hp then aH p.pass else[])
def bX (p:Pq)(l:List Sb):List UInt8:=
 if p.kind=1 then oO p
 else if p.kind=2 then[UInt8.ofNat (if p.present then 1 else 0),UInt8.ofNat p.code]
 else(if p.kind=3 then aH p.topic else[])++(if 0<p.id then bD p.id else[])++dD p.kind l++p.codes++p.payload
theorem qG {s:List UInt8}(r:List UInt8)(h:s.length≤65535):getD (aH s++r)=some (s,2+s.length):=by
 have hw:wrd (aH s++r)=some s.length:=by
  show some (256*(UInt8.ofNat (s.length / 256)).toNat+(UInt8.ofNat (s.length%256)).toNat)=_;rw[u8n (by omega),u8n (by omega)];congr 1;omega
 unfold getD;rw[hw];have hl:(aH s++r).length=2+s.length+r.length:=by rw[kL,aU]
 simp only;rw[kB (by omega)];have hd:(aH s++r).drop 2=s++r:=rfl;rw[hd,List.take_left]
theorem qL (s r:List UInt8):(aH s++r).drop (2+s.length)=r:=by
 rw[List.drop_append,aU,pL (by rw[aU];exact kF _),Nat.sub_self];rfl
theorem dJ {val:List UInt8→Bool}{s:List UInt8}(r:List UInt8)(h:s.length≤65535)(hv:val s=true):aZ val (aH s++r)=(s,r,false):=by
 unfold aZ;rw[qG r h];simp only[hv,if_true,qL]
theorem qM {s:List UInt8}(r:List UInt8)(h:s.length≤65535):aM (aH s++r)=(s,r,false):=by
 unfold aM;rw[qG r h];simp only[qL]
theorem gW {n:Nat}(r:List UInt8)(h:n<65536):aX (bD n++r)=(n,r,false):=by
 have hw:wrd (bD n++r)=some n:=by
  show some (256*(UInt8.ofNat (n / 256)).toNat+(UInt8.ofNat (n%256)).toNat)=_;rw[u8n (by omega),u8n (by omega)];congr 1;omega
 unfold aX;rw[hw];rfl
theorem aOx (hu hp wr wl cl:Bool){q:Nat}(hq:q≤2):let c:=(if hu then 128 else 0)+(if hp then 64 else 0)+(if wr then 32 else 0)+8*q+(if wl then 4 else 0)+(if cl then 2 else 0)
 aO 1 c=false∧aO 2 c=cl∧aO 4 c=wl∧c / 8%4=q∧aO 32 c=wr∧aO 64 c=hp∧aO 128 c=hu∧c<256:=by
 have h3:q=0∨q=1∨q=2:=by omega
 rcases h3 with rfl|rfl|rfl<;>cases hu<;>cases hp<;>cases wr<;>cases wl<;>cases cl<;>decide
theorem aOj (d r:Bool){q:Nat}(hq:q≤2):let c:=(if d then 8 else 0)+2*q+(if r then 1 else 0)
 aO 8 c=d∧c / 2%4=q∧aO 1 c=r∧c<16:=by
 have h3:q=0∨q=1∨q=2:=by omega
 rcases h3 with rfl|rfl|rfl<;>cases d<;>cases r<;>decide
structure Vl (val nm fi:List UInt8→Bool):Prop where
 len:∀s,val s=true→s.length≤65535
 nm:∀s,nm s=true→val s=true
 fi:∀s,fi s=true→val s=true
 mq:val MQTT=true
structure Rg (p:Pq)(es:List Sb):Prop where
 kind:p.kind<256
 qos:p.qos<256
 id:p.id<65536
 level:p.level<256
 keep:p.keep<65536
 wq:p.wq<256
 code:p.code<256
 es:∀s∈es,s.2<256
def mkC (clean:Bool)(keep:Nat)(client:List UInt8)(will:Bool)(wt wp:List UInt8)(wq:Nat)(wr hu hp:Bool)(user pass:List UInt8):Pq:=
 ⟨1,false,0,false,0,[],[],4,clean,keep,client,will,wt,wp,wq,wr,hu,hp,user,pass,false,0,[]⟩
section
variable {val nm fi:List UInt8→Bool}(vl:Vl val nm fi)
include vl
theorem aIg {clean:Bool}{keep:Nat}{client:List UInt8}{will:Bool}{wt wp:List UInt8}{wq:Nat}{wr hu hp:Bool}{user pass:List UInt8}(hk:keep<65536)(hc:val client=true)
 (h1:will=true→val wt=true∧wp.length≤65535∧wq≤2) (h2:will=false→wt=[]∧wp=[]∧wq=0∧wr=false) (u1:hu=true→val user=true) (u2:hu=false→user=[]) (p1:hp=true→pass.length≤65535) (p2:hp=false→pass=[]):
 eW val (oO (mkC clean keep client will wt wp wq wr hu hp user pass),false,zq 1)=([],false,mkC clean keep client will wt wp wq wr hu hp user pass):=by
 have hq:wq≤2:=by
  cases will with
  |true=>exact(h1 rfl).2.2
  |false=>rw[(h2 rfl).2.2.1];omega
 obtain⟨c1,c2,c4,c8,c32,c64,c128,hlt⟩:=aOx hu hp wr will clean hq;obtain⟨cf,hcf⟩:∃cf,cf=cfN (mkC clean keep client will wt wp wq wr hu hp user pass):=⟨_,rfl⟩;have hcf':(if hu then 128 else 0)+(if hp then 64 else 0)+(if wr then 32 else 0)+8*wq+(if will then 4 else 0)+(if clean then 2 else 0)=cf:=by rw[hcf];rfl
 simp only[hcf']at c1 c2 c4 c8 c32 c64 c128 hlt;obtain⟨t3,ht3⟩:∃t3,t3=(if hp then aH pass else[]):=⟨_,rfl⟩
 obtain⟨t2,ht2⟩:∃t2,t2=(if hu then aH user else[]):=⟨_,rfl⟩
 obtain⟨tail,htail⟩:∃tail,tail=(if will then aH wt++aH wp else[])++(t2++t3):=⟨_,rfl⟩
 have hcB:oO (mkC clean keep client will wt wp wq wr hu hp user pass)=aH MQTT++(4::UInt8.ofNat cf::(bD keep++(aH client++tail))):=by
  rw[hcf,htail,ht2,ht3];unfold oO;simp only[mkC,pT];rfl
 rw[hcB];have t0:=dJ (val:=val) (4::UInt8.ofNat cf::(bD keep++(aH client++tail))) (vl.len _ vl.mq) vl.mq;have eA:cW val (aH MQTT++(4::UInt8.ofNat cf::(bD keep++(aH client++tail))),false,zq 1)=(bD keep++(aH client++tail),false,{zq 1 with level:=4,clean:=clean,will:=will,wq:=wq,wr:=wr,hp:=hp,hu:=hu}):=by
  unfold cW;simp only[t0,bR,u8n hlt,c1,c2,c4,c8,c32,c64,c128,Bool.or_false,pB,if_false,if_true];rfl
 have t1:=dJ (val:=val) tail (vl.len _ hc) hc;have w1:=gW (aH client++tail) hk;have eB:bT val (bD keep++(aH client++tail),false,{zq 1 with level:=4,clean:=clean,will:=will,wq:=wq,wr:=wr,hp:=hp,hu:=hu})=(tail,false,{zq 1 with level:=4,clean:=clean,will:=will,wq:=wq,wr:=wr,hp:=hp,hu:=hu,keep:=keep,client:=client}):=by
  unfold bT;simp only[w1,t1,Bool.or_false]
 have eC:bH val (tail,false,{zq 1 with level:=4,clean:=clean,will:=will,wq:=wq,wr:=wr,hp:=hp,hu:=hu,keep:=keep,client:=client})=(t2++t3,false,{zq 1 with level:=4,clean:=clean,will:=will,wq:=wq,wr:=wr,hp:=hp,hu:=hu,keep:=keep,client:=client,wt:=wt,wp:=wp}):=by
  rw[htail]
  cases will with
  |true=>
   obtain⟨hw,hp',_⟩:=h1 rfl;have e2:=dJ (val:=val) (aH wp++(t2++t3)) (vl.len _ hw) hw;have e3:=qM (s:=wp) (t2++t3) hp';rw[kB rfl,pT];unfold bH;simp only[e2,e3,if_true,Bool.or_false]
  |false=>
   obtain⟨rfl,rfl,rfl,rfl⟩:=h2 rfl;rfl
 have eU:bY val (t2++t3,false,{zq 1 with level:=4,clean:=clean,will:=will,wq:=wq,wr:=wr,hp:=hp,hu:=hu,keep:=keep,client:=client,wt:=wt,wp:=wp})=(t3,false,{zq 1 with level:=4,clean:=clean,will:=will,wq:=wq,wr:=wr,hp:=hp,hu:=hu,keep:=keep,client:=client,wt:=wt,wp:=wp,user:=user}):=by
  rw[ht2]
  cases hu with
  |true=>
   have e2:=dJ (val:=val) t3 (vl.len _ (u1 rfl)) (u1 rfl);rw[kB rfl];unfold bY;simp only[e2,if_true,Bool.or_false]
  |false=>rw[u2 rfl];rfl
 have eP:bU (t3,false,{zq 1 with level:=4,clean:=clean,will:=will,wq:=wq,wr:=wr,hp:=hp,hu:=hu,keep:=keep,client:=client,wt:=wt,wp:=wp,user:=user})=([],false,{zq 1 with level:=4,clean:=clean,will:=will,wq:=wq,wr:=wr,hp:=hp,hu:=hu,keep:=keep,client:=client,wt:=wt,wp:=wp,user:=user,pass:=pass}):=by
  rw[ht3]
  cases hp with
  |true=>
   have e2:=qM (s:=pass) [] (p1 rfl);rw[List.append_nil]at e2;rw[kB rfl];unfold bU;simp only[e2,if_true,Bool.or_false]
  |false=>rw[p2 rfl];rfl
 unfold eW;rw[eA,eB,eC,eU,eP];rfl
theorem aNr (kind:Nat)(s:Sb)(r:List UInt8):nE kind s++r≠[]:=by
 have _:=vl;intro c;have:=congrArg List.length c;unfold nE at this;rw[kL,kL,aU]at this;simp at this
theorem xA {kind:Nat}(hk:kind=8∨kind=10):∀(n:Nat) (l:List Sb),l.length<n→(∀s∈l,fi s.1=true∧s.2≤nL kind)→eO val kind n (dD kind l) false=(l,[],false)
 |0,l,h,_=>absurd h (Nat.not_lt_zero _)
 |n+1,[],_,_=>rfl
 |n+1,s::l,h,hs=>by
  obtain⟨s1,s2⟩:=hs s (List.mem_cons_self ..);have v1:=vl.fi _ s1;have ih:=xA hk n l (by rw[kM]at h;omega) (fun s h=>hs s (List.mem_cons_of_mem _ h));rw[fY];obtain⟨r,hr⟩:∃r,r=dD kind l:=⟨_,rfl⟩;rw[←hr]at ih⊢;have ne:¬(nE kind s++r=[]∨false=true):=by
   intro c;rcases c with c|c
   ·exact aNr vl _ _ _ c
   ·cases c
  have e:eO val kind (n+1) (nE kind s++r) false=(let a:=aZ val (nE kind s++r)
   let b:=if kind=8 then bR a.2.1 else(0,a.2.1,false)
   let t:=eO val kind n b.2.1 (false||a.2.2||b.2.2)
   ((a.1,b.1)::t.1,t.2)):=kA ne
  rw[e];rcases hk with rfl|rfl
  ·have e1:nE 8 s++r=aH s.1++(UInt8.ofNat s.2::r):=by unfold nE;simp
   have hq:s.2<256:=by have:nL 8=2:=rfl;omega
   rw[e1];simp only[dJ (val:=val) (UInt8.ofNat s.2::r) (vl.len _ v1) v1,if_true,bR,Bool.or_false,ih,u8n hq]
  ·have e1:nE 10 s++r=aH s.1++r:=by unfold nE;simp
   have hq:s.2=0:=by have:nL 10=0:=rfl;omega
   rw[e1];simp only[dJ (val:=val) r (vl.len _ v1) v1,show¬(10:Nat)=8 by omega,if_false,Bool.or_false,ih];rw[←hq]
omit vl in
theorem wH {most more:Nat}:∀(l:List Sb) (n m:Nat),suL fi most more l n=some m→(∀s∈l,fi s.1=true∧s.2≤most)∧m=n+(l.map fun s=>2+s.1.length+more).sum
 |[],n,m,e=>by cases e;exact⟨fun s hs=>(by cases hs),rfl⟩
 |s::l,n,m,e=>by
  have e:(if fi s.1 then(if most<s.2 then none else suL fi most more l (n+(2+s.1.length+more)))else none)=some m:=e
  split at e
  ·rename_i h1;split at e
   ·cases e
   ·rename_i h2;obtain⟨a,b⟩:=wH l _ m e;refine⟨fun x hx=>?_,?_⟩
    ·rcases List.mem_cons.1 hx with rfl|hx
     ·exact⟨h1,by omega⟩
     ·exact a x hx
    ·rw[b];simp only[List.map_cons,List.sum_cons];omega
  ·cases e
omit vl in
theorem sG {kind:Nat}(hk:kind=8∨kind=10):∀l:List Sb,(dD kind l).length=(l.map fun s=>2+s.1.length+rN kind).sum
 |[]=>rfl
 |s::l=>by
  rw[fY,kL,sG hk l];simp only[List.map_cons,List.sum_cons];congr 1;unfold nE;rw[kL,aU];rcases hk with rfl|rfl<;>rfl
omit vl in
theorem qA (kind:Nat):∀l:List Sb,l.length≤(dD kind l).length
 |[]=>pQ _
 |s::l=>by
  have ih:=qA kind l;rw[fY,kL,kM];unfold nE;rw[kL,aU];omega
end
def Rd1 (val:List UInt8→Bool)(p:Pq)(es:List Sb)(n:Nat):Prop:=
 dO p<16∧p.kind<16∧bG (16*p.kind+dO p)=true∧(bX p es).length=n∧fI val (dO p) (bX p es,false,zq p.kind)=(([],false,p),es)∧¬lv7 p.kind (bX p es)
section
variable {val nm fi:List UInt8→Bool}(vl:Vl val nm fi)
include vl
theorem aNy {p:Pq}{es:List Sb}{n:Nat}(rg:Rg p es)(k:p.kind=1)(hp:p={bz p with kind:=p.kind})(he:es=[])(e:aBk val nm p=some n):Rd1 val p es n:=by
 obtain⟨kind,dup,qos,retain,id,topic,payload,level,clean,keep,client,will,wt,wp,wq,wr,hu,hpw,user,pass,present,code,codes⟩:=p;simp only at k;subst k;subst he;simp only[bz,if_true,zq,Pq.mk.injEq,true_and,and_true]at hp;obtain⟨rfl,rfl,rfl,rfl,rfl,rfl,rfl,rfl,rfl⟩:=hp;have hk:keep<65536:=rg.keep;unfold aBk at e;simp only at e;split at e
 case isFalse=>cases e
 rename_i hl;subst hl;split at e
 case isFalse=>cases e
 rename_i hc;split at e
 case h_1=>cases e
 rename_i n1 e1;split at e
 case h_1=>cases e
 rename_i n2 e2;split at e
 case h_1=>cases e
 rename_i n3 e3;split at e
 case isFalse=>cases e
 rename_i hv;split at e
 ·cases e
 rename_i hpl;simp only[kE]at e;have hw1:will=true→val wt=true∧wp.length≤65535∧wq≤2∧n1=12+client.length+(4+wt.length+wp.length):=by
  intro c;subst c;unfold aDs at e1;simp only[if_true]at e1;split at e1
  ·rename_i hnm;split at e1
   ·cases e1
   ·split at e1
    ·cases e1
    ·simp only[kE]at e1;exact⟨vl.nm _ hnm,by omega,by omega,by omega⟩
  ·cases e1
 have hw2:will=false→(wt=[]∧wp=[]∧wq=0∧wr=false)∧n1=12+client.length:=by
  intro c;subst c;unfold aDs at e1;simp only[pB,if_false]at e1;split at e1
  ·rename_i hz;simp only[kE]at e1;unfold wz at hz;simp only at hz
   cases a1:wt==[]with
   |false=>rw[a1]at hz;cases hz
   |true=>
    cases a2:wp==[]with
    |false=>rw[a1,a2]at hz;cases hz
    |true=>
     cases a3:(wq:Int)==0 with
     |false=>rw[a1,a2,a3]at hz;cases hz
     |true=>
      rw[a1,a2,a3]at hz;have hz:(wr==false)=true:=hz;have b3:(wq:Int)=0:=eq_of_beq a3;exact⟨⟨eq_of_beq a1,eq_of_beq a2,by omega,eq_of_beq hz⟩,by omega⟩
  ·cases e1
 have hu1:hu=true→n2=n1+(2+user.length):=by
  intro c;subst c;unfold aAm at e2;simp only[if_true,kE]at e2;omega
 have hu2:hu=false→user=[]∧n2=n1:=by
  intro c;subst c;unfold aAm at e2;simp only[pB,if_false]at e2;split at e2
  ·rename_i h;split at e2
   ·cases e2
   ·simp only[kE]at e2;exact⟨h,by omega⟩
  ·cases e2
 have hp1:hpw=true→n3=n2+(2+pass.length):=by
  intro c;subst c;unfold xF at e3;simp only[if_true,kE]at e3;omega
 have hp2:hpw=false→pass=[]∧n3=n2:=by
  intro c;subst c;unfold xF at e3;simp only[pB,if_false]at e3;split at e3
  ·rename_i h;simp only[kE]at e3;exact⟨h,by omega⟩
  ·cases e3
 have ew:=aIg vl (clean:=clean) (wr:=wr) (hu:=hu) (hp:=hpw) (user:=user) (pass:=pass) hk hc (fun c=>⟨(hw1 c).1,(hw1 c).2.1,(hw1 c).2.2.1⟩) (fun c=>(hw2 c).1) (fun _=>hv) (fun c=>(hu2 c).1) (fun _=>by omega) (fun c=>(hp2 c).1);refine⟨(by show 0<16;omega),(by show 1<16;omega),(by show bG (16*1+0)=true;decide),?_,?_,?_⟩
 ·show(oO (mkC clean keep client will wt wp wq wr hu hpw user pass)).length=n;show(aH MQTT++[UInt8.ofNat 4,UInt8.ofNat (cfN (mkC clean keep client will wt wp wq wr hu hpw user pass))]++bD keep++aH client++(if will=true then aH wt++aH wp else[])++(if hu=true then aH user else[])++(if hpw=true then aH pass else[])).length=n
  rw[kL,kL,kL,kL,kL,kL];simp only[aU,bD,kM,pZ,show MQTT.length=4 from rfl];have l1:(if will=true then aH wt++aH wp else[]).length=n1-(12+client.length)∧12+client.length≤n1:=by
   cases will with
   |true=>have:=(hw1 rfl).2.2.2;rw[kB rfl,kL,aU,aU];omega
   |false=>have:=(hw2 rfl).2;rw[kA (by decide)];simp only[pZ];omega
  have l2:(if hu=true then aH user else[]).length=n2-n1∧n1≤n2:=by
   cases hu with
   |true=>have:=hu1 rfl;rw[kB rfl,aU];omega
   |false=>have:=(hu2 rfl).2;rw[kA (by decide)];simp only[pZ];omega
  have l3:(if hpw=true then aH pass else[]).length=n3-n2∧n2≤n3:=by
   cases hpw with
   |true=>have:=hp1 rfl;rw[kB rfl,aU];omega
   |false=>have:=(hp2 rfl).2;rw[kA (by decide)];simp only[pZ];omega
  omega
 ·show((eW val (oO (mkC clean keep client will wt wp wq wr hu hpw user pass),false,zq 1),[]):CS×List Sb)=_;rw[ew];rfl
 ·intro c;refine c.2.2.2 ?_;show(oO (mkC clean keep client will wt wp wq wr hu hpw user pass))[6]?=some 4;rfl
theorem rJ {p:Pq}{n:Nat}(e:idO p=some n):0<p.id∧n=2:=by
 have _:=vl;unfold idO at e;split at e
 ·cases e
 ·simp only[kE]at e;exact⟨by omega,e.symm⟩
theorem bBf {p:Pq}{es:List Sb}{n:Nat}(rg:Rg p es)(k:p.kind=3)(hp:p={bz p with kind:=p.kind})(he:es=[])(e:xE nm p=some n):Rd1 val p es n:=by
 obtain⟨kind,dup,qos,retain,id,topic,payload,level,clean,keep,client,will,wt,wp,wq,wr,hu,hpw,user,pass,present,code,codes⟩:=p;simp only at k;subst k;subst he;simp only[bz,show¬(3:Nat)=1 by omega,show¬(3:Nat)=2 by omega,if_false,if_true,zq,Pq.mk.injEq,true_and,and_true]at hp;obtain⟨rfl,rfl,rfl,rfl,rfl,rfl,rfl,rfl,rfl,rfl,rfl,rfl,rfl,rfl,rfl,rfl⟩:=hp;have hid:id<65536:=rg.id;unfold xE at e;simp only at e;split at e
 case isFalse=>cases e
 rename_i hnm;have hv:=vl.nm _ hnm;split at e
 ·cases e
 rename_i hq;have hq:qos≤2:=by omega
 obtain⟨f8,f2,f1,f16⟩:=aOj dup retain hq;obtain⟨fl,hfl⟩:∃fl,fl=(if dup then 8 else 0)+2*qos+(if retain then 1 else 0):=⟨_,rfl⟩
 simp only[←hfl]at f8 f2 f1 f16;have hF:bG (16*3+fl)=true:=by
  unfold bG;rw[kA (by omega),kB (by omega)];exact kC (by omega)
 split at e
 ·rename_i hq2;simp only[kE]at e;have t1:=dJ (val:=val) (bD id++payload) (vl.len _ hv) hv;have w1:=gW payload hid;have hrB:bX ⟨3,dup,qos,retain,id,topic,payload,0,false,0,[],false,[],[],0,false,false,false,[],[],false,0,[]⟩ []=aH topic++(bD id++payload):=by
   unfold bX;simp only[show¬(3:Nat)=1 by omega,show¬(3:Nat)=2 by omega,if_false,if_true,kB hq2.2];simp[dD,pT]
  refine⟨?_,(by show 3<16;omega),?_,?_,?_,fun c=>by cases c.1⟩
  ·show(if dup then 8 else 0)+2*qos+(if retain then 1 else 0)<16;omega
  ·show bG (16*3+((if dup then 8 else 0)+2*qos+(if retain then 1 else 0)))=true;rw[←hfl];exact hF
  ·rw[hrB,kL,kL,aU];simp only[bD,kM,pZ];omega
  ·rw[hrB];show((jR val ((if dup then 8 else 0)+2*qos+(if retain then 1 else 0)) (aH topic++(bD id++payload),false,zq 3),[]):CS×List Sb)=_
   rw[←hfl];unfold jR;simp only[t1,w1,f8,f2,f1,kB hq2.1,Bool.or_false];rfl
 ·rename_i hq2;split at e
  ·cases e
  rename_i hq3;simp only[kE]at e;have hq0:qos=0:=by omega
  have hi0:id=0:=by omega
  subst hq0;subst hi0;have t1:=dJ (val:=val) payload (vl.len _ hv) hv;have hrB:bX ⟨3,dup,0,retain,0,topic,payload,0,false,0,[],false,[],[],0,false,false,false,[],[],false,0,[]⟩ []=aH topic++payload:=by
   unfold bX;simp only[show¬(3:Nat)=1 by omega,show¬(3:Nat)=2 by omega,if_false,if_true,Nat.lt_irrefl];simp[dD,pT]
  refine⟨?_,(by show 3<16;omega),?_,?_,?_,fun c=>by cases c.1⟩
  ·show(if dup then 8 else 0)+2*0+(if retain then 1 else 0)<16;omega
  ·show bG (16*3+((if dup then 8 else 0)+2*0+(if retain then 1 else 0)))=true;rw[←hfl];exact hF
  ·rw[hrB,kL,aU];omega
  ·rw[hrB];show((jR val ((if dup then 8 else 0)+2*0+(if retain then 1 else 0)) (aH topic++payload,false,zq 3),[]):CS×List Sb)=_
   rw[←hfl];unfold jR;simp only[t1,f8,f2,f1,Nat.lt_irrefl,if_false,Bool.or_false];rfl
end
end Go.Proofs.YtohapjojkjjflaaGreatDoor.Wz

namespace Go.Proofs.YtohapjojkjjflaaGreatDoor.Wz
open Go Go.AM
section
variable {val nm fi:List UInt8→Bool}(vl:Vl val nm fi)
include vl
theorem bBh {p:Pq}{es:List Sb}{n:Nat}(k:p.kind=2)(hp:p={bz p with kind:=p.kind})(he:es=[])(e:(if p.code≤5 then(if p.code=0 then some 2 else if p.present=true then none else some 2)else none:Option Nat)=some n):Rd1 val p es n:=by
 have _:=vl;obtain⟨kind,dup,qos,retain,id,topic,payload,level,clean,keep,client,will,wt,wp,wq,wr,hu,hpw,user,pass,present,code,codes⟩:=p;simp only at k;subst k;subst he;simp only[bz,show¬(2:Nat)=1 by omega,if_false,if_true,zq,Pq.mk.injEq,true_and,and_true]at hp;obtain⟨rfl,rfl,rfl,rfl,rfl,rfl,rfl,rfl,rfl,rfl,rfl,rfl,rfl,rfl,rfl,rfl,rfl,rfl,rfl,rfl⟩:=hp;simp only at e;have hc:code≤5∧n=2:=by
  split at e
  ·rename_i h;split at e
   ·simp only[kE]at e;exact⟨h,e.symm⟩
   ·split at e
    ·cases e
    ·simp only[kE]at e;exact⟨h,e.symm⟩
  ·cases e
 obtain⟨hc,rfl⟩:=hc;refine⟨(by show 0<16;omega),(by show 2<16;omega),(by show bG (16*2+0)=true;decide),rfl,?_,fun c=>by cases c.1⟩;show((wA ([UInt8.ofNat (if present then 1 else 0),UInt8.ofNat code],false,zq 2),[]):CS×List Sb)=_
 have hcc:code<256:=by omega
 unfold wA
 cases present with
 |true=>simp only[bR,u8n hcc,Bool.or_false,if_true];rfl
 |false=>simp only[bR,u8n hcc,Bool.or_false,pB,if_false];rfl
theorem bIv {p:Pq}{es:List Sb}{n:Nat}(rg:Rg p es)(k:p.kind=4∨p.kind=5∨p.kind=6∨p.kind=7∨p.kind=11)(hp:p={bz p with kind:=p.kind})(he:es=[])(e:idO p=some n):Rd1 val p es n:=by
 obtain⟨h0,rfl⟩:=rJ vl e;obtain⟨kind,dup,qos,retain,id,topic,payload,level,clean,keep,client,will,wt,wp,wq,wr,hu,hpw,user,pass,present,code,codes⟩:=p;have hid:id<65536:=rg.id;simp only at k h0;subst he;have hb:bz ⟨kind,dup,qos,retain,id,topic,payload,level,clean,keep,client,will,wt,wp,wq,wr,hu,hpw,user,pass,present,code,codes⟩={zq 0 with id:=id}:=by
  unfold bz;simp only;rw[kA (by omega),kA (by omega),kA (by omega),kA (by omega),kA (by omega)]
 rw[hb]at hp;simp only[zq,Pq.mk.injEq,true_and,and_true]at hp;obtain⟨rfl,rfl,rfl,rfl,rfl,rfl,rfl,rfl,rfl,rfl,rfl,rfl,rfl,rfl,rfl,rfl,rfl,rfl,rfl,rfl,rfl⟩:=hp;have hrB:bX ⟨kind,false,0,false,id,[],[],0,false,0,[],false,[],[],0,false,false,false,[],[],false,0,[]⟩ []=bD id:=by
  unfold bX;simp only;rw[kA (by omega),kA (by omega),kA (by omega),kB h0];simp[dD]
 have w1:=gW [] hid;rw[List.append_nil]at w1;refine⟨?_,(by show kind<16;omega),?_,by rw[hrB];rfl,?_,fun c=>by have:kind=1:=c.1;omega⟩
 ·rcases k with rfl|rfl|rfl|rfl|rfl<;>exact Nat.le_of_ble_eq_true rfl
 ·rcases k with rfl|rfl|rfl|rfl|rfl
  ·show bG (16*4+0)=true;decide
  ·show bG (16*5+0)=true;decide
  ·show bG (16*6+2)=true;decide
  ·show bG (16*7+0)=true;decide
  ·show bG (16*11+0)=true;decide
 ·rw[hrB];have hz:zq kind=⟨kind,false,0,false,0,[],[],0,false,0,[],false,[],[],0,false,false,false,[],[],false,0,[]⟩:=rfl;unfold fI;simp only[hz];rw[kA (by omega),kA (by omega),kA (by omega),kA (by omega),w1];unfold cY;simp only;rw[kA (by omega),kA (by omega)];rfl
theorem aNw {p:Pq}{es:List Sb}{n:Nat}(rg:Rg p es)(k:p.kind=8∨p.kind=10)(hp:p={bz p with kind:=p.kind})(e:aAn fi p es=some n):Rd1 val p es n:=by
 unfold aAn at e;split at e
 ·cases e
 rename_i n1 e1;obtain⟨h0,rfl⟩:=rJ vl e1;split at e
 ·cases e
 obtain⟨hs,hn⟩:=wH es 2 n e;obtain⟨kind,dup,qos,retain,id,topic,payload,level,clean,keep,client,will,wt,wp,wq,wr,hu,hpw,user,pass,present,code,codes⟩:=p;have hid:id<65536:=rg.id;simp only at k h0 hs hn;have hb:bz ⟨kind,dup,qos,retain,id,topic,payload,level,clean,keep,client,will,wt,wp,wq,wr,hu,hpw,user,pass,present,code,codes⟩={zq 0 with id:=id}:=by
  unfold bz;simp only;rw[kA (by omega),kA (by omega),kA (by omega),kA (by omega),kA (by omega)]
 rw[hb]at hp;simp only[zq,Pq.mk.injEq,true_and,and_true]at hp;obtain⟨rfl,rfl,rfl,rfl,rfl,rfl,rfl,rfl,rfl,rfl,rfl,rfl,rfl,rfl,rfl,rfl,rfl,rfl,rfl,rfl,rfl⟩:=hp;have hrB:bX ⟨kind,false,0,false,id,[],[],0,false,0,[],false,[],[],0,false,false,false,[],[],false,0,[]⟩ es=bD id++dD kind es:=by
  unfold bX;simp only;rw[kA (by omega),kA (by omega),kA (by omega),kB h0];simp
 have w1:=gW (dD kind es) hid;have ds:=xA vl k ((dD kind es).length+1) es (Nat.lt_succ_of_le (qA kind es)) hs;refine⟨?_,(by show kind<16;omega),?_,?_,?_,fun c=>by have:kind=1:=c.1;omega⟩
 ·rcases k with rfl|rfl<;>exact Nat.le_of_ble_eq_true rfl
 ·rcases k with rfl|rfl
  ·show bG (16*8+2)=true;decide
  ·show bG (16*10+2)=true;decide
 ·rw[hrB,kL,sG k,hn];rfl
 ·rw[hrB];have hz:zq kind=⟨kind,false,0,false,0,[],[],0,false,0,[],false,[],[],0,false,false,false,[],[],false,0,[]⟩:=rfl;unfold fI;simp only[hz];rw[kA (by omega),kA (by omega),kA (by omega),kA (by omega),w1];unfold cY;simp only[Bool.or_false];rw[kA (by omega),kB k,ds]
theorem aHv {p:Pq}{es:List Sb}{n:Nat}(rg:Rg p es)(k:p.kind=9)(hp:p={bz p with kind:=p.kind})(he:es=[])(e:aBl p=some n):Rd1 val p es n:=by
 unfold aBl at e;split at e
 ·cases e
 rename_i n1 e1;obtain⟨h0,rfl⟩:=rJ vl e1;split at e
 ·cases e
 split at e
 case isFalse=>cases e
 simp only[kE]at e;obtain⟨kind,dup,qos,retain,id,topic,payload,level,clean,keep,client,will,wt,wp,wq,wr,hu,hpw,user,pass,present,code,codes⟩:=p;have hid:id<65536:=rg.id;simp only at k h0 e;subst k;subst he;have hb:bz ⟨9,dup,qos,retain,id,topic,payload,level,clean,keep,client,will,wt,wp,wq,wr,hu,hpw,user,pass,present,code,codes⟩={zq 0 with id:=id,codes:=codes}:=rfl;rw[hb]at hp;simp only[zq,Pq.mk.injEq,true_and,and_true]at hp;obtain⟨rfl,rfl,rfl,rfl,rfl,rfl,rfl,rfl,rfl,rfl,rfl,rfl,rfl,rfl,rfl,rfl,rfl,rfl,rfl,rfl⟩:=hp;have hrB:bX ⟨9,false,0,false,id,[],[],0,false,0,[],false,[],[],0,false,false,false,[],[],false,0,codes⟩ []=bD id++codes:=by
  unfold bX;simp only;rw[kA (by omega),kA (by omega),kA (by omega),kB h0];simp[dD]
 have w1:=gW codes hid;refine⟨(by show 0<16;omega),(by show 9<16;omega),(by show bG (16*9+0)=true;decide),?_,?_,fun c=>by cases c.1⟩
 ·rw[hrB,kL];simp only[bD,kM,pZ];omega
 ·rw[hrB];show cY val ((aX (bD id++codes)).2.1,false||(aX (bD id++codes)).2.2,{zq 9 with id:=(aX (bD id++codes)).1})=_;rw[w1];rfl
theorem aNx {p:Pq}{es:List Sb}{n:Nat}(k:p.kind=12∨p.kind=13∨p.kind=14)(hp:p={bz p with kind:=p.kind})(he:es=[])(e:some 0=some n):Rd1 val p es n:=by
 have _:=vl;simp only[kE]at e;subst e;subst he;have hb:bz p=zq 0:=by
  unfold bz;rw[kA (by omega),kA (by omega),kA (by omega),kA (by omega),kB k]
 rw[hb]at hp;rw[hp];rcases k with k|k|k<;>rw[k]<;>exact⟨by decide,by decide,by decide,rfl,rfl,fun c=>by cases c.1⟩
theorem bBg {p:Pq}{es:List Sb}{n:Nat}(rg:Rg p es)(e:iS val nm fi p es=some n):Rd1 val p es n∧n≤268435455:=by
 unfold iS at e;split at e
 ·cases e
 rename_i m em;split at e
 ·cases e
 rename_i hm;split at e
 case isFalse=>cases e
 rename_i hb;simp only[kE]at e;subst e;refine⟨?_,by omega⟩;unfold fG at hb;split at hb
 ·cases hb
 rename_i hes;have hp:=of_decide_eq_true hb;have he:p.kind≠8→p.kind≠10→es=[]:=fun a b=>Classical.byContradiction fun c=>hes ⟨c,a,b⟩;unfold eN at em;split at em
 ·rename_i k;exact aNy vl rg k hp (he (by omega) (by omega)) em
 split at em
 ·rename_i k;exact bBh vl k hp (he (by omega) (by omega)) em
 split at em
 ·rename_i k;exact bBf vl rg k hp (he (by omega) (by omega)) em
 split at em
 ·rename_i k;exact bIv vl rg k hp (he (by omega) (by omega)) em
 split at em
 ·rename_i k;exact aNw vl rg k hp em
 split at em
 ·rename_i k;exact aHv vl rg k hp (he (by omega) (by omega)) em
 split at em
 ·rename_i k;exact aNx vl k hp (he (by omega) (by omega)) em
 ·cases em
end
def dM (dec:List UInt8→Option (Pq×List Sb×Nat)):Nat→List UInt8→List (Pq×List Sb)×Nat
 |0,_=>([],0)
 |f+1,l=>match dec l with
  |none=>([],0)
  |some (p,es,n)=>let t:=dM dec f (l.drop n);((p,es)::t.1,n+t.2)
theorem aIi {val nm fi:List UInt8→Bool}{l:List UInt8}{p:Pq}{es:List Sb}{n:Nat}(e:pO val nm fi l=some (p,es,n)):0<n∧n≤l.length:=by
 unfold pO at e;split at e
 ·cases e
 rename_i c t;split at e
 case isFalse=>cases e
 split at e
 case isFalse=>cases e
 rename_i h0;split at e
 ·cases e
 rename_i hlt;have hu:=mX t 4 1 0 0 h0;have:n=(rlF t 4 1 0 0).2.1+1+(rlF t 4 1 0 0).1:=by
  simp only at e;split at e
  ·simp only[kE,kK]at e;exact e.2.2.symm
  ·split at e
   ·cases e
   ·split at e
    ·simp only[kE,kK]at e;exact e.2.2.symm
    ·cases e
 simp only[kM]at hlt⊢;omega
section
variable {dec:List UInt8→Option (Pq×List Sb×Nat)}(pos:∀l p es n,dec l=some (p,es,n)→0<n∧n≤l.length)
include pos
end
end Go.Proofs.YtohapjojkjjflaaGreatDoor.Wz
