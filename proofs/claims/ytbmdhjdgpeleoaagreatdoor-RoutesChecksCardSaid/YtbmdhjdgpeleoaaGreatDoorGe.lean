import Derived.Test.YtbmdhjdgpeleoaaGreatDoorGw
import Derived.Test.YtbmdhjdgpeleoaaGreatDoorGp
import Derived.Test.YtbmdhjdgpeleoaaGreatDoorGf
import Derived.Test.YtbmdhjdgpeleoaaGreatDoorTaV
import Derived.Test.YtbmdhjdgpeleoaaGreatDoorGx
set_option linter.defProp false
set_option maxRecDepth 100000
namespace Go.Proofs.YtbmdhjdgpeleoaaGreatDoor.Ra
open _root_.Ra (eV)
open Go Go.AM _root_.Ra
variable {B f:Bs}{y:Bs×Nat}{h j:H}{m:Msg}{z:NZ}{L i k l n n0 q:Nat}{P S:Nat→Prop}{R r:Row}{u v w:kA}{E:kC (kC kA)}{p:kC (kC kG)}{K kept:kC Msg}{e zs:kC kA}{s t:kC kG}{a b c:kG}
def cT (c:Nat):Nat:=if c<128 then 1 else if 192≤c∧c<224 then 2 else if 224≤c∧c<240 then 3 else if 240≤c∧c<248 then 4 else 0
def fM (n:Nat):Nat:=if n=0 then 0 else if n=1 then 1 else if n=2 then 128 else if n=3 then 2048 else 65536
def wG (n:Nat):Nat:=if n=2 then 192 else if n=3 then 224 else if n=4 then 240 else 0
def iX:Nat→kC kG→Nat→kB Nat
 |0,_,c=>some c
 |_+1,[],_=>none
 |n+1,b::t,c=>if b.toNat<128∨191<b.toNat then none else iX n t (64*c+b.toNat-128)
def chR:kC kG→Nat×Nat
 |[]=>(0,0)
 |a::t=>if cT a.toNat=0∨t.length+1<cT a.toNat then(0,0)else
  match iX (cT a.toNat-1) t (a.toNat-wG (cT a.toNat))with
  |none=>(0,0)
  |some c=>if c<fM (cT a.toNat)∨1114111<c∨55296≤c∧c≤57343 then(0,0)else(c,cT a.toNat)
def aNd:Nat→kC kG→Bool
 |0,_=>true
 |f+1,l=>if l=[]then true else if(chR l).2=0 then false else aNd f (l.drop (chR l).2)
def cA (s:kC kG):Bool:=if 65535<s.length then false else aNd (s.length+1) s
def gK (a:Nat)(t:kC kG):Nat×Nat:=
 let g (k:Nat):Nat:=((t[k]?).getD 0).toNat;let b (k:Nat):Bool:=decide (k<t.length)&&g k / 64==2
 if a<0x80 then(a,1)
 else if a / 32==6&&b 0 then
  let c:=(a%32)*64+g 0%64
  if c≥0x80 then(c,2)else(65533,1)
 else if a / 16==14&&b 0&&b 1 then
  let c:=(a%16)*4096+(g 0%64)*64+g 1%64
  if c≥0x800&&Utf8.valid c then(c,3)else(65533,1)
 else if a / 8==30&&b 0&&b 1&&b 2 then
  let c:=(a%8)*262144+(g 0%64)*4096+(g 1%64)*64+g 2%64
  if c≥0x10000&&Utf8.valid c then(c,4)else(65533,1)
 else(65533,1)
def aVh (s:kC kG)(i:Nat):(⟨⟨s⟩⟩:ByteArray).get! i=(s[i]?).getD 0:=by
 show(⟨s⟩:kH kG)[i]! =_;rw[getElem!_def,pU];cases s[i]?<;>rfl
def aBb (e:s.drop n=a::t):A.zO ⟨⟨s⟩⟩ n=some (gK a.toNat t):=by
 have g:s[n]?=some a:=by
  have:=sX (fun l:kC kG=>l[0]?) e;simpa using this
 have f:∀k,s[n+(k+1)]?=t[k]?:=fun k=>by
  have:=sX (fun l:kC kG=>l[k+1]?) e;simpa using this
 have m:s.length=n+(t.length+1):=by
  have j:=sX List.length e;rw[pI,kY]at j;have:=(pX.1 g).1;omega
 unfold A.zO;rw[show(⟨⟨s⟩⟩:ByteArray).data.toList[n]?=some a from g];have i:((⟨⟨s⟩⟩:ByteArray).get! (n+0)).toNat=a.toNat:=by rw[aVh,sS,g];rfl
 have d:∀k,((⟨⟨s⟩⟩:ByteArray).get! (n+(k+1))).toNat=((t[k]?).getD 0).toNat:=fun k=>by rw[aVh,f]
 have o:(⟨⟨s⟩⟩:ByteArray).size=n+(t.length+1):=m;have c:∀k,(decide (n+(k+1)<(⟨⟨s⟩⟩:ByteArray).size))=decide (k<t.length):=fun k=>by rw[o];exact mK.2 (by omega)
 simp only
 cases b:Nat.blt a.toNat 128 with
 |true=>
  have:=blt_iff.1 b;unfold gK;rw[kM this];rfl
 |false=>
  have:¬a.toNat<128:=fun h=>by rw[blt_iff.2 h]at b;cases b
  simp only[sW,Utf8.decode,i,d 0,d 1,d 2,c 0,c 1,c 2,gK,Utf8.runeError]
def fnR (c:Nat):Nat:=if c<128 then 240 else if c<194 then 241 else if c<224 then 2 else if c=224 then 19 else if c=237 then 35 else if c<240 then 3 else if c=240 then 52 else if c<244 then 4 else if c=244 then 68 else 241
def aPl (h:n<256):jI n=fnR n:=by
 have a:((List.range 256).all fun n=>Nat.beq (jI n) (fnR n))=true:=by kernel_rfl
 exact Nat.eq_of_beq_eq_true (mB.1 a n (rO.2 h))
def RA:kC Nat:=[128,191,160,191,128,159,144,191,128,143]++List.replicate 22 0
def okC (c:Nat)(l:kC kG):Bool:=if c=0 then false else if c=65533 then whB RA l else true
def aCw (c:Nat):Utf8.valid (c:Int)=decide (c<55296∨57344≤c∧c≤1114111):=by
 unfold Utf8.valid;rw[mR];simp only[tI,pA,pW];omega
def aYb (h:n<256):(n / 64==2)=decide (128≤n∧n≤191):=by
 rw[mR,beq_iff_eq,pW];omega
def eL (a:kG)(t:kC kG):chR (a::t)=if cT a.toNat=0∨t.length+1<cT a.toNat then(0,0)else
 match iX (cT a.toNat-1) t (a.toNat-wG (cT a.toNat))with
 |none=>(0,0)
 |some c=>if c<fM (cT a.toNat)∨1114111<c∨55296≤c∧c≤57343 then(0,0)else(c,cT a.toNat):=rfl
def vM (a:kG)(t:kC kG):whB RA (a::t)=if 240≤fnR a.toNat then false else whG (fnR a.toNat%8) ((RA[2*(fnR a.toNat / 16)]?).getD 0) ((RA[2*(fnR a.toNat / 16)+1]?).getD 0) t:=by
 rw[←aPl a.toNat_lt];rfl
def OkC (a:kG)(t:kC kG):Prop:=(chR (a::t)).2=if okC (gK a.toNat t).1 (a::t)then(gK a.toNat t).2 else 0
def OkC.bad (d:gK a.toNat s=(65533,1))(w:whB RA (a::s)=false)(h:(chR (a::s)).2=0):OkC a s:=by
 unfold OkC okC;rw[d,w,h];simp
def OkC.good (d:gK a.toNat s=(n,i))(b:n≠0)(w:n=65533→whB RA (a::s)=true)(c:(chR (a::s)).2=i):OkC a s:=by
 unfold OkC okC;rw[d,c];simp only;by_cases h:n=65533
 ·rw[kL b,kM h,w h];rfl
 ·rw[kL b,kL h];rfl
def bKz (h:a.toNat<128):OkC a s:=by
 have f:cT a.toNat=1:=by unfold cT;rw[kM h]
 have d:gK a.toNat s=(a.toNat,1):=by unfold gK;rw[kM h]
 have c:chR (a::s)=if a.toNat<1∨1114111<a.toNat∨55296≤a.toNat∧a.toNat≤57343 then(0,0)else(a.toNat,1):=by
  rw[eL,f,kL (by omega)];rfl
 by_cases b:a.toNat=0
 ·unfold OkC okC;rw[d,c,kM (by omega),b];rfl
 ·exact OkC.good d b (fun e=>by omega) (by rw[c,kL (by omega)])
def aVe (h:128≤a.toNat∧a.toNat<192∨248≤a.toNat):OkC a s:=by
 have e:=a.toNat_lt;have b:cT a.toNat=0:=by unfold cT;rw[kL (by omega),kL (by omega),kL (by omega),kL (by omega)]
 have n:(a.toNat / 32==6)=false:=by rw[mY];omega
 have c:(a.toNat / 16==14)=false:=by rw[mY];omega
 have d:(a.toNat / 8==30)=false:=by rw[mY];omega
 refine OkC.bad ?_ ?_ ?_
 ·unfold gK;rw[kL (by omega)];simp only[n,c,d,mG,pP,mD]
 ·rw[vM,kM];unfold fnR
  repeat' split
  all_goals omega
 ·rw[eL,b,kM (Or.inl rfl)]
def bKy (h:192≤a.toNat∧a.toNat<224):OkC a s:=by
 have j:cT a.toNat=2:=by unfold cT;rw[kL (by omega),kM h]
 have n:(a.toNat / 32==6)=true:=by rw[beq_iff_eq];omega
 have k:(a.toNat / 16==14)=false:=by rw[mY];omega
 have l:(a.toNat / 8==30)=false:=by rw[mY];omega
 have p:fnR a.toNat=if a.toNat<194 then 241 else 2:=by
  unfold fnR;rw[kL (by omega)];split
  ·rfl
  ·rw[kM (by omega)]
 have w:whB RA (a::s)=if a.toNat<194 then false else whG 2 128 191 s:=by
  rw[vM,p];split
  ·rfl
  ·rfl
 cases s with
 |nil=>
  refine OkC.bad ?_ (by rw[w];split<;>rfl) (by rw[eL,j,kM (Or.inr (by simp))])
  unfold gK;rw[kL (by omega)];simp[n,k,l]
 |cons b s=>
  have o:=b.toNat_lt;have m:=aYb o;have i:gK a.toNat (b::s)=if 128≤b.toNat∧b.toNat≤191∧128≤a.toNat%32*64+b.toNat%64 then(a.toNat%32*64+b.toNat%64,2)else(65533,1):=by
   unfold gK;rw[kL (by omega)];simp only[n,k,l,pM,pQ,m,kY];by_cases d:128≤b.toNat∧b.toNat≤191
   ·simp[d]
   ·simp[d];intro f h3;omega
  have g:(chR (a::b::s)).2=if 128≤b.toNat∧b.toNat≤191∧128≤a.toNat%32*64+b.toNat%64 then 2 else 0:=by
   rw[eL,j,kL (by simp)];show(match iX 1 (b::s) (a.toNat-192)with|none=>(0,0)|some c=>_:Nat×Nat).2=_
   unfold iX;by_cases d:b.toNat<128∨191<b.toNat
   ·rw[kM d,kL (by omega)]
   ·rw[kL d];have q:fM 2=128:=rfl;show(if 64*(a.toNat-192)+b.toNat-128<fM 2∨_ then _ else _:Nat×Nat).2=_
    by_cases f:128≤a.toNat%32*64+b.toNat%64
    ·rw[kL (by omega),kM (by omega)]
    ·rw[kM (by omega),kL (by omega)]
  by_cases d:128≤b.toNat∧b.toNat≤191∧128≤a.toNat%32*64+b.toNat%64
  ·rw[kM d]at i g;exact OkC.good i (by omega) (fun e=>by omega) g
  ·rw[kL d]at i g;refine OkC.bad i ?_ g;rw[w];split
   ·rfl
   ·unfold whG;rw[kL (by simp)];simp only;by_cases f:b.toNat<128
    ·rw[kM f]
    ·rw[kL f,kM (by omega)]
def cKw {d:kG}(z:Nat)(f:z=3):whG z n i (b::d::s)=decide (n≤b.toNat∧b.toNat≤i∧128≤d.toNat∧d.toNat≤191):=by
 subst f;unfold whG;rw[kL (by simp),mR];simp only[pW];by_cases a:b.toNat<n
 ·rw[kM a];constructor
  ·intro h;cases h
  ·omega
 rw[kL a];by_cases c:i<b.toNat
 ·rw[kM c];constructor
  ·intro h;cases h
  ·omega
 rw[kL c,kL (by omega)];by_cases h3:d.toNat<128
 ·rw[kM h3];constructor
  ·intro h;cases h
  ·omega
 rw[kL h3];by_cases e:191<d.toNat
 ·rw[kM e];constructor
  ·intro h;cases h
  ·omega
 rw[kL e,kM (by omega)];constructor
 ·intro _;omega
 ·intro _;rfl
def cKv {d e:kG}(z:Nat)(k:z=4):whG z n i (b::d::e::s)=decide (n≤b.toNat∧b.toNat≤i∧128≤d.toNat∧d.toNat≤191∧128≤e.toNat∧e.toNat≤191):=by
 subst k;unfold whG;rw[kL (by simp),mR];simp only[pW];by_cases a:b.toNat<n
 ·rw[kM a];constructor
  ·intro h;cases h
  ·omega
 rw[kL a];by_cases c:i<b.toNat
 ·rw[kM c];constructor
  ·intro h;cases h
  ·omega
 rw[kL c,kL (by omega)];by_cases h3:d.toNat<128
 ·rw[kM h3];constructor
  ·intro h;cases h
  ·omega
 rw[kL h3];by_cases f:191<d.toNat
 ·rw[kM f];constructor
  ·intro h;cases h
  ·omega
 rw[kL f,kL (by omega)];by_cases g:e.toNat<128
 ·rw[kM g];constructor
  ·intro h;cases h
  ·omega
 rw[kL g];by_cases j:191<e.toNat
 ·rw[kM j];constructor
  ·intro h;cases h
  ·omega
 rw[kL j];constructor
 ·intro _;omega
 ·intro _;rfl
def lo3 (x:Nat):Nat:=if x=224 then 160 else 128
def hi3 (x:Nat):Nat:=if x=237 then 159 else 191
def lo4 (x:Nat):Nat:=if x=240 then 144 else 128
def hi4 (x:Nat):Nat:=if x=244 then 143 else 191
def bKx (h:224≤a.toNat∧a.toNat<240):OkC a s:=by
 have o:cT a.toNat=3:=by unfold cT;rw[kL (by omega),kL (by omega),kM h]
 have p:(a.toNat / 32==6)=false:=by rw[mY];omega
 have q:(a.toNat / 16==14)=true:=by rw[beq_iff_eq];omega
 have t:(a.toNat / 8==30)=false:=by rw[mY];omega
 have w:whB RA (a::s)=whG 3 (lo3 a.toNat) (hi3 a.toNat) s:=by
  rw[vM];unfold fnR lo3 hi3;rw[kL (show¬a.toNat<128 by omega),kL (show¬a.toNat<194 by omega),kL (show¬a.toNat<224 by omega)];by_cases i:a.toNat=224
  ·rw[kM i,kM i,kL (show¬a.toNat=237 by omega)];rfl
  ·rw[kL i,kL i];by_cases j:a.toNat=237
   ·rw[kM j,kM j];rfl
   ·rw[kL j,kL j,kM h.2];rfl
 match s,w with
 |[],w=>
  refine OkC.bad ?_ (by rw[w];rfl) (by rw[eL,o,kM (Or.inr (by simp))]);unfold gK;rw[kL (by omega)];simp[p,q,t]
 |[b],w=>
  refine OkC.bad ?_ (by rw[w];rfl) (by rw[eL,o,kM (Or.inr (by simp))]);unfold gK;rw[kL (by omega)];simp[p,q,t]
 |b::d::r,w=>
  have v:=b.toNat_lt;have n:=d.toNat_lt;have u:=aYb v;have cd:=aYb n;obtain⟨c,m⟩:=eX (a.toNat%16*4096+b.toNat%64*64+d.toNat%64);have l:gK a.toNat (b::d::r)=if(128≤b.toNat∧b.toNat≤191)∧(128≤d.toNat∧d.toNat≤191)∧2048≤c∧(c<55296∨57344≤c)then(c,3)else(65533,1):=by
   unfold gK;rw[kL (by omega)];simp only[p,q,t,pM,pN,pQ,u,cd,kY,aCw,mG,mF,pP,mD,Nat.zero_lt_succ,decide_true,show(1<r.length+1+1)=True from eq_true (by omega),←m];by_cases f:128≤b.toNat∧b.toNat≤191
   ·by_cases g:128≤d.toNat∧d.toNat≤191
    ·simp only[f,g,decide_true,mF,and_self,mE,true_and];by_cases h3:2048≤c∧(c<55296∨57344≤c)
     ·rw[kM h3,kM];rw[pA,pW,pW];omega
     ·rw[kL h3,kL];rw[pA,pW,pW];omega
    ·simp only[f,g,decide_true,decide_false,tJ,pP,mD,false_and,and_false,and_self]
   ·simp only[f,decide_false,mG,pP,mD,false_and]
  have k:(chR (a::b::d::r)).2=if(128≤b.toNat∧b.toNat≤191)∧(128≤d.toNat∧d.toNat≤191)∧2048≤c∧(c<55296∨57344≤c)then 3 else 0:=by
   rw[eL,o,kL (by simp)];show(match iX 2 (b::d::r) (a.toNat-224)with|none=>(0,0)|some c=>_:Nat×Nat).2=_
   unfold iX;by_cases f:b.toNat<128∨191<b.toNat
   ·rw[kM f,kL (by omega)]
   ·rw[kL f];unfold iX;by_cases g:d.toNat<128∨191<d.toNat
    ·rw[kM g,kL (by omega)]
    ·rw[kL g];have x:fM 3=2048:=rfl;show(if 64*(64*(a.toNat-224)+b.toNat-128)+d.toNat-128<fM 3∨_ then _ else _:Nat×Nat).2=_
     by_cases h3:2048≤c∧(c<55296∨57344≤c)
     ·rw[kL (by omega),kM (by omega)]
     ·rw[kM (by omega),kL (by omega)]
  rw[cKw 3 rfl]at w;by_cases f:(128≤b.toNat∧b.toNat≤191)∧(128≤d.toNat∧d.toNat≤191)∧2048≤c∧(c<55296∨57344≤c)
  ·rw[kM f]at l k;refine OkC.good l (by omega) (fun e=>?_) k;rw[w,pW];unfold lo3 hi3;rw[kL (by omega),kL (by omega)];omega
  ·rw[kL f]at l k;refine OkC.bad l ?_ k;rw[w,kU];unfold lo3 hi3;split<;>split<;>omega
def bKw (h:240≤a.toNat∧a.toNat<248):OkC a s:=by
 have m:cT a.toNat=4:=by unfold cT;rw[kL (by omega),kL (by omega),kL (by omega),kM h]
 have n:(a.toNat / 32==6)=false:=by rw[mY];omega
 have o:(a.toNat / 16==14)=false:=by rw[mY];omega
 have p:(a.toNat / 8==30)=true:=by rw[beq_iff_eq];omega
 have w:whB RA (a::s)=if 244<a.toNat then false else whG 4 (lo4 a.toNat) (hi4 a.toNat) s:=by
  rw[vM];unfold fnR lo4 hi4;rw[kL (show¬a.toNat<128 by omega),kL (show¬a.toNat<194 by omega),kL (show¬a.toNat<224 by omega),kL (show¬a.toNat=224 by omega),kL (show¬a.toNat=237 by omega),kL (show¬a.toNat<240 by omega)];by_cases j:a.toNat=240
  ·rw[kM j,kM j,kL (show¬244<a.toNat by omega),kL (show¬a.toNat=244 by omega)];rfl
  ·rw[kL j,kL j];by_cases x:a.toNat<244
   ·rw[kM x,kL (show¬244<a.toNat by omega),kL (show¬a.toNat=244 by omega)];rfl
   ·rw[kL x];by_cases q:a.toNat=244
    ·rw[kM q,kL (show¬244<a.toNat by omega),kM q];rfl
    ·rw[kL q,kM (show 244<a.toNat by omega)];rfl
 match s,w with
 |[],w=>
  refine OkC.bad ?_ (by rw[w];split<;>rfl) (by rw[eL,m,kM (Or.inr (by simp))])
  unfold gK;rw[kL (by omega)];simp[n,o,p]
 |[b],w=>
  refine OkC.bad ?_ (by rw[w];split<;>rfl) (by rw[eL,m,kM (Or.inr (by simp))])
  unfold gK;rw[kL (by omega)];simp[n,o,p]
 |[b,d],w=>
  refine OkC.bad ?_ (by rw[w];split<;>rfl) (by rw[eL,m,kM (Or.inr (by simp))])
  unfold gK;rw[kL (by omega)];simp[n,o,p]
 |b::d::e::r,w=>
  have B:=b.toNat_lt;have u:=d.toNat_lt;have v:=e.toNat_lt;have y:=aYb B;have cd:=aYb u;have z:=aYb v;obtain⟨c,t⟩:=eX (a.toNat%8*262144+b.toNat%64*4096+d.toNat%64*64+e.toNat%64);have l:gK a.toNat (b::d::e::r)=if(128≤b.toNat∧b.toNat≤191)∧(128≤d.toNat∧d.toNat≤191)∧(128≤e.toNat∧e.toNat≤191)∧65536≤c∧c≤1114111 then(c,4)else(65533,1):=by
   unfold gK;rw[kL (by omega)];simp only[n,o,p,pM,pN,pQ,y,cd,z,kY,aCw,mG,mF,pP,mD,Nat.zero_lt_succ,decide_true,show(1<r.length+1+1+1)=True from eq_true (by omega),show(2<r.length+1+1+1)=True from eq_true (by omega),←t];by_cases f:128≤b.toNat∧b.toNat≤191
   ·by_cases g:128≤d.toNat∧d.toNat≤191
    ·by_cases i:128≤e.toNat∧e.toNat≤191
     ·simp only[f,g,i,decide_true,mF,and_self,mE,true_and];by_cases h3:65536≤c∧c≤1114111
      ·rw[kM h3,kM];rw[pA,pW,pW];omega
      ·rw[kL h3,kL];rw[pA,pW,pW];omega
     ·simp only[f,g,i,decide_true,decide_false,tJ,pP,mD,false_and,and_false,and_self]
    ·simp only[f,g,decide_true,decide_false,tJ,mG,pP,mD,false_and,and_false,and_self]
   ·simp only[f,decide_false,mG,pP,mD,false_and]
  have k:(chR (a::b::d::e::r)).2=if(128≤b.toNat∧b.toNat≤191)∧(128≤d.toNat∧d.toNat≤191)∧(128≤e.toNat∧e.toNat≤191)∧65536≤c∧c≤1114111 then 4 else 0:=by
   rw[eL,m,kL (by simp)];show(match iX 3 (b::d::e::r) (a.toNat-240)with|none=>(0,0)|some c=>_:Nat×Nat).2=_
   unfold iX;by_cases f:b.toNat<128∨191<b.toNat
   ·rw[kM f,kL (by omega)]
   ·rw[kL f];unfold iX;by_cases g:d.toNat<128∨191<d.toNat
    ·rw[kM g,kL (by omega)]
    ·rw[kL g];unfold iX;by_cases i:e.toNat<128∨191<e.toNat
     ·rw[kM i,kL (by omega)]
     ·rw[kL i];have C:fM 4=65536:=rfl;show(if 64*(64*(64*(a.toNat-240)+b.toNat-128)+d.toNat-128)+e.toNat-128<fM 4∨_ then _ else _:Nat×Nat).2=_
      by_cases h3:65536≤c∧c≤1114111
      ·rw[kL (by omega),kM (by omega)]
      ·rw[kM (by omega),kL (by omega)]
  rw[cKv 4 rfl]at w;by_cases f:(128≤b.toNat∧b.toNat≤191)∧(128≤d.toNat∧d.toNat≤191)∧(128≤e.toNat∧e.toNat≤191)∧65536≤c∧c≤1114111
  ·rw[kM f]at l k;exact OkC.good l (by omega) (fun e=>by omega) k
  ·rw[kL f]at l k;refine OkC.bad l ?_ k;rw[w];split
   ·rfl
   ·rw[kU];unfold lo4 hi4;split<;>split<;>omega
def bUr (a:kG)(t:kC kG):OkC a t:=by
 have e:=a.toNat_lt;by_cases h:a.toNat<128
 ·exact bKz h
 by_cases b:a.toNat<192
 ·exact aVe (by omega)
 by_cases h3:a.toNat<224
 ·exact bKy (by omega)
 by_cases c:a.toNat<240
 ·exact bKx (by omega)
 by_cases d:a.toNat<248
 ·exact bKw (by omega)
 ·exact aVe (by omega)
def aJn (a:Nat)(t:kC kG):1≤(gK a t).2:=by
 unfold gK;simp only
 repeat' split
 all_goals exact Nat.le_of_ble_eq_true rfl
def aBa (h:s.drop n=[]):A.zO ⟨⟨s⟩⟩ n=none:=by
 unfold A.zO;have:s.length≤n:=List.drop_eq_nil_iff.1 h;rw[show(⟨⟨s⟩⟩:ByteArray).data.toList[n]?=none from mS.2 this]
def aIo (s:kC kG):∀(f p:Nat),uX RA s f p=aNd f (s.drop p)
 |0,_=>rfl
 |f+1,p=>by
  cases e:s.drop p with
  |nil=>
   have g:uX RA s (f+1) p=(match A.zO ⟨⟨s⟩⟩ p with
    |none=>true
    |some (c,w)=>if c=0 then false else if c=65533 then(if whB RA (s.drop p)then uX RA s f (p+w)else false)else uX RA s f (p+w)):=rfl
   rw[g,aBa e];rfl
  |cons a t=>
   have g:uX RA s (f+1) p=(match A.zO ⟨⟨s⟩⟩ p with
    |none=>true
    |some (c,w)=>if c=0 then false else if c=65533 then(if whB RA (s.drop p)then uX RA s f (p+w)else false)else uX RA s f (p+w)):=rfl
   have j:aNd (f+1) (a::t)=if(chR (a::t)).2=0 then false else aNd f ((a::t).drop (chR (a::t)).2):=by
    show(if a::t=[]then true else _)=_
    rw[kL (by simp)]
   have o:=bUr a t;have l:=aJn a.toNat t;rw[g,aBb e,j,e];unfold OkC at o;simp only;have k:s.drop (p+(gK a.toNat t).2)=(a::t).drop (gK a.toNat t).2:=by rw[←e,sG]
   have i:=aIo s f (p+(gK a.toNat t).2);rw[k]at i
   cases h:okC (gK a.toNat t).1 (a::t)with
   |true=>
    rw[h,kM rfl]at o;rw[o,kL (show¬(gK a.toNat t).2=0 by omega),←i];unfold okC at h;by_cases b:(gK a.toNat t).1=0
    ·rw[kM b]at h;cases h
    ·rw[kL b]at h⊢;by_cases d:(gK a.toNat t).1=65533
     ·rw[kM d]at h⊢;rw[kM h]
     ·rw[kL d]
   |false=>
    rw[h]at o;have o:(chR (a::t)).2=0:=o;rw[kM o];unfold okC at h;by_cases b:(gK a.toNat t).1=0
    ·rw[kM b]
    ·rw[kL b]at h⊢;by_cases d:(gK a.toNat t).1=65533
     ·rw[kM d]at h⊢;rw[h];rfl
     ·rw[kL d]at h;cases h
def bKr (s:kC kG):aJx RA s=cA s:=by
 unfold aJx cA;rw[aIo,mI]
def dM (s:kC kG):Bool:=s.any fun b=>pmC b.toNat
def aYd (h:128≤n):pmC n=false:=by unfold pmC;rw[kU];omega
def aLm (h:128≤a.toNat):128≤(gK a.toNat t).1∧dM ((a::t).take (gK a.toNat t).2)=false:=by
 have p:=aYd h;have g:∀b:kG,(b.toNat / 64==2)=true→pmC b.toNat=false:=fun b l=>aYd (by rw[beq_iff_eq]at l;omega);have one:dM ((a::t).take 1)=false:=by simp[dM,p]
 unfold gK;rw[kL (by omega)]
 match t with
 |[]=>simp[dM,p]
 |[b]=>
  simp only[pM,pN,pQ,kY,sN];by_cases c:(b.toNat / 64==2)=true
  ·have f:=g b c;split
   ·split
    ·rename_i h3;exact⟨h3,by simp[dM,p,f]⟩
    ·exact⟨by decide,by simp[dM,p]⟩
   ·simp[dM,p]
  ·simp[c,dM,p]
 |[b,d]=>
  simp only[pM,pN,pQ,kY,sN];by_cases c:(b.toNat / 64==2)=true
  ·have f:=g b c;split
   ·split
    ·rename_i h3;exact⟨h3,by simp[dM,p,f]⟩
    ·exact⟨by decide,by simp[dM,p]⟩
   ·by_cases i:(d.toNat / 64==2)=true
    ·have j:=g d i;split
     ·split
      ·rename_i h3;rw[pA,pW]at h3;exact⟨by omega,by simp[dM,p,f,j]⟩
      ·exact⟨by decide,by simp[dM,p]⟩
     ·simp[dM,p]
    ·simp[i,dM,p]
  ·simp[c,dM,p]
 |b::d::e::r=>
  simp only[pM,pN,pQ,kY];by_cases c:(b.toNat / 64==2)=true
  ·have f:=g b c;split
   ·split
    ·rename_i h3;exact⟨h3,by simp[dM,p,f]⟩
    ·exact⟨by decide,by simp[dM,p]⟩
   ·by_cases i:(d.toNat / 64==2)=true
    ·have j:=g d i;split
     ·split
      ·rename_i h3;rw[pA,pW]at h3;exact⟨by omega,by simp[dM,p,f,j]⟩
      ·exact⟨by decide,by simp[dM,p]⟩
     ·by_cases k:(e.toNat / 64==2)=true
      ·have m:=g e k;split
       ·split
        ·rename_i h3;rw[pA,pW]at h3;exact⟨by omega,by simp[dM,p,f,j,m]⟩
        ·exact⟨by decide,by simp[dM,p]⟩
       ·simp[dM,p]
      ·simp[k,dM,p]
    ·simp[i,dM,p]
  ·simp[c,dM,p]
def aDc (s:kC kG):∀(f p:Nat),s.length-p<f→wD s f p=dM (s.drop p)
 |0,_,h=>by omega
 |f+1,p,h=>by
  have b:wD s (f+1) p=(match A.zO ⟨⟨s⟩⟩ p with
   |none=>false
   |some (c,w)=>pmC c||wD s f (p+w)):=rfl
  cases e:s.drop p with
  |nil=>rw[b,aBa e];rfl
  |cons a t=>
   have l:p<s.length:=by
    by_cases k:p<s.length
    ·exact k
    ·rw[List.drop_eq_nil_iff.2 (by omega)]at e;cases e
   have m:=aJn a.toNat t;rw[b,aBb e];simp only;rw[aDc s f (p+(gK a.toNat t).2) (by omega),←sG,e];by_cases d:a.toNat<128
   ·have j:gK a.toNat t=(a.toNat,1):=by unfold gK;rw[kM d]
    rw[j];rfl
   ·obtain⟨g,h3⟩:=aLm (a:=a) (t:=t) (by omega);rw[aYd g,mZ];have i:dM (a::t)=(dM ((a::t).take (gK a.toNat t).2)||dM ((a::t).drop (gK a.toNat t).2)):=by
     unfold dM;rw[←List.any_append,sM]
    rw[i,h3,mZ]
def bAc (s:kC kG):xT s=dM s:=by
 unfold xT;split
 ·rfl
 ·rw[aDc s _ 0 (by omega),mI]
def aJd:∀(s:kC kG),(Lib.indexByte s 47<0∧47∉s)∨∃m:Nat,Lib.indexByte s 47=(m:Int)∧∃r,s=s.take m++47::r∧47∉s.take m∧s.drop (m+1)=r
 |[]=>Or.inl ⟨by decide,by simp⟩
 |b::l=>by
  by_cases a:b=47
  ·refine Or.inr ⟨0,?_,l,?_,by simp,by simp⟩
   ·unfold Lib.indexByte;rw[a];rfl
   ·rw[a];simp
  ·have c:(b==47)=false:=by rw[mY];exact a
   have g:=Lib.indexByte_ge l 47;rcases aJd l with⟨h1,h2⟩|⟨m,h1,r,h2,h3,h4⟩
   ·refine Or.inl ⟨?_,?_⟩
    ·unfold Lib.indexByte;have:Lib.indexByte l 47= -1:=by omega
     rw[c,this];decide
    ·intro h;rcases sI.1 h with e|e
     ·exact a e.symm
     ·exact h2 e
   ·refine Or.inr ⟨m+1,?_,r,?_,?_,?_⟩
    ·unfold Lib.indexByte;have:(Lib.indexByte l 47== -1)=false:=by rw[mY];omega
     rw[c,this,h1];simp
    ·rw[List.take_succ_cons,dG,←h2]
    ·rw[List.take_succ_cons];intro h;rcases sI.1 h with e|e
     ·exact a e.symm
     ·exact h3 e
    ·rw[List.drop_succ_cons];exact h4
def aAs:∀(x r:kC kG),47∉x→eV (x++47::r)=x::eV r
 |[],r,_=>by simp[eV]
 |c::x,r,h=>by
  have b:c≠47:=fun e=>h (by rw[e];exact mO);have i:=aAs x r (fun a=>h (mL _ a));simp only[dG,eV,kL b,i]
def uQ:∀(x:kC kG),47∉x→eV x=[x]
 |[],_=>rfl
 |c::x,h=>by
  have b:c≠47:=fun e=>h (by rw[e];exact mO);have i:=uQ x (fun a=>h (mL _ a));simp only[eV,kL b,i]
def aNy:∀(n:Nat) (s:kC kG),s.count 47≤n→oR n s=eV s
 |0,s,hc=>by
  have h:47∉s:=List.count_eq_zero.1 (by omega);rw[uQ s h];rfl
 |n+1,s,hc=>by
  rcases aJd s with⟨h1,h⟩|⟨m,h1,r,h2,h3,h4⟩
  ·rw[uQ s h];unfold oR;rw[kM h1]
  ·have e:oR (n+1) s=s.take m::oR n r:=by
    show(if Lib.indexByte s 47<0 then[s]else s.take (Lib.indexByte s 47).toNat::oR n (s.drop ((Lib.indexByte s 47).toNat+1)))=_
    rw[kL (by omega),h1,Int.toNat_natCast,h4]
   have c:r.count 47≤n:=by
    rw[h2,List.count_append,List.count_cons_self]at hc;omega
   rw[e,aNy n r c]
   conv=>rhs;rw[h2]
   rw[aAs _ _ h3]
def aEp (s:kC kG):bH s=eV s:=by
 unfold bH;have h:¬s.length<Lib.countByte s 47:=by
  have:s.count 47≤s.length:=List.count_le_length;unfold Lib.countByte;omega
 rw[kL h];exact aNy _ s (kQ _)
def aIb (x:kC kG)(t:kC kG):kC (kC kG):=match eV t with|y::l=>(x++y)::l|[]=>[x]
def qG (t:kC kG):∃y l,eV t=y::l:=by
 cases t with
 |nil=>exact⟨_,_,rfl⟩
 |cons c t=>
  simp only[eV];split
  ·exact⟨_,_,rfl⟩
  ·cases eV t<;>exact⟨_,_,rfl⟩
def aKz (x t:kC kG):aIb x (47::t)=x::aIb [] t:=by
 obtain⟨y,l,e⟩:=qG t;simp only[aIb,eV,mE,e,dD,dF]
def aPf (x t:kC kG)(h:c≠47):aIb x (c::t)=aIb (x++[c]) t:=by
 obtain⟨y,l,e⟩:=qG t;simp only[aIb,eV,kL h,e,sH,dG,dF]
def aUe (x:kC kG):aIb x []=[x]:=by simp[aIb,eV]
def aKy (t:kC kG):aIb [] t=eV t:=by
 obtain⟨y,l,e⟩:=qG t;simp only[aIb,e,dF]
open Tryz (prog)
def GN (n:Nat)(h:H)(v:kA)(e:kC (kC kA)):Prop:=(v=eJ∧e=[])∨GrowV n h v e
def GN.nil (n:Nat)(h:H):GN n h eJ []:=.inl ⟨rfl,rfl⟩
def GN.slice {n:Nat}{h:H}{v:kA}{es:kC (kC kA)}(x:GN n h v es):SliceE n h v es:=by
 rcases x with⟨rfl,rfl⟩|x
 ·exact⟨by simp,.inl ⟨rfl,rfl⟩⟩
 ·exact x.slice
def GN.same (x:GN n h v E)(e:h.next≤j.next)(s:∀i,sid v=some i→j.get i=h.get i):GN n j v E:=by
 rcases x with x|x
 ·exact .inl x
 ·exact .inr (x.but (S:=fun _=>False) e s)
def GN.but (x:GN n h v E)(e:ExtBut S h j)(s:∀i,sid v=some i→¬S i):GN n j v E:=
 x.same e.next fun i a=>e.get i (x.slice.sid_lt i a) (s i a)
def GN.ext (x:GN n h v E)(e:Ext h j):GN n j v E:=x.but e.but (S:=fun _=>False) fun _ _=>id
def GN.len {n:Nat}{h:H}{v:kA}{es:kC (kC kA)}(x:GN n h v es):A.zE v=some (iN (es.length:Int)):=x.slice.len.1
def fS {bs:Nat}{x:kA}{a:kC (kC kA)}(j:GN n h v E)(s:SliceE n h x a)(o:0<n)(l:(E.length+a.length)*bs≤2^47)(m:E.length+a.length≤2^47):
 ∃d f,A.zF n bs v x h=some (d,f)∧GN n f d (E++a)∧(∀i,sid d=some i→sid v=some i∨h.next≤i)∧ExtBut (fun i=>sid v=some i) h f∧(a≠[]→∀i,sid d=some i→h.next≤i):=by
 by_cases g:a=[]
 ·subst g;refine⟨v,h,rD ?_ s,by rw[dD];exact j,fun i b=>.inl b,⟨kQ _,fun _ _ _=>rfl⟩,fun h=>dC rfl h⟩;rcases j with⟨rfl,_⟩|⟨_,q,c,rfl,_⟩
  ·exact .inl rfl
  ·exact .inr ⟨_,_,_,_,rfl⟩
 ·rcases j with⟨rfl,rfl⟩|j
  ·obtain⟨f,e,d,p,k⟩:=iH (bs:=bs) (Vec.nil n h) s g o l m;refine⟨_,f,e,.inr ⟨d.1,?_⟩,fun i b=>.inr ?_,k,fun _ i b=>?_⟩
   ·rcases d.2 with⟨e,_⟩|⟨q,e,hq,hg⟩
    ·cases e
    ·exact⟨q,_,e,.inl rfl,hq,hg⟩
   ·simp[sid]at b;omega
   ·simp[sid]at b;omega
  ·obtain⟨f,e,d,p,k⟩:=eN (bs:=bs) j s g o l m;refine⟨_,f,e,.inr d,fun i b=>.inr ?_,k,fun _ i b=>?_⟩
   ·simp[sid]at b;omega
   ·simp[sid]at b;omega
def aJf {n:Nat}(w:kA):∀{es:kC (kC kA)} {i j:Nat} {e:kC kA},(∀e∈es,e.length=n)→es[i]?=some e→j<n→(es.set i (e.set j w)).flatten=es.flatten.set (i*n+j) w
 |[],i,j,e,_,he,_=>by simp at he
 |x::es,0,j,e,hl,he,hj=>by
  obtain rfl:=pB he;have h:=hl x mO;rw[List.set_cons_zero,List.flatten_cons,List.flatten_cons,Nat.zero_mul,sR,List.set_append_left _ _ (by omega)]
 |x::es,i+1,j,e,hl,he,hj=>by
  have h:=hl x mO;have b:=aJf w (es:=es) (i:=i) (j:=j) (e:=e) (fun y a=>hl y (mL _ a)) (by simpa using he) hj;rw[List.set_cons_succ,List.flatten_cons,List.flatten_cons,b,Nat.succ_mul,dH _ _ (by omega)];congr 2;omega
def GrowV.put {n:Nat}{h:H}{v w:kA}{E:kC (kC kA)}(r:GrowV n h v E){i l:Nat}{e:kC kA}(d:E[i]?=some e)(y:l<n)(p:aN w=some [w]):
 ∃q o a,A.zB n v (iN (i:Int))=some (.pointer (some ⟨q,o,none⟩))∧A.store 1 (.pointer (some ⟨q,o+l,none⟩)) w h=some a∧GrowV n a v (E.set i (e.set l w))∧ExtBut (fun k=>k=q) h a∧sid v=some q∧a.next=h.next∧h.get q=some (.cells E.flatten (some n))∧a.get q=some (.cells (E.flatten.set (i*n+l) w) (some n)):=by
 obtain⟨b,q,c,rfl,t,z,j⟩:=r;have m:=(pX.1 d).1;have f:=b e (sY d);have u:=cF b;have hle:(i+1)*n≤E.length*n:=Nat.mul_le_mul_right n m;rw[Nat.succ_mul]at hle;have s:h.put q (.cells (E.flatten.set (i*n+l) w) (some n))=h.put q (.cells (E.set i (e.set l w)).flatten (some n)):=by rw[aJf w b d y]
 refine⟨q,0+i*n,h.put q (.cells (E.flatten.set (i*n+l) w) (some n)),lW n q 0 _ c i .i64 m,?_,⟨fun x g=>?_,q,c,by rw[rB],by rw[rB];exact t,z,by rw[s,H.get_put,kM rfl]⟩,ExtBut.put ⟨kQ _,fun _ _ _=>rfl⟩ q _ rfl,rfl,rfl,j,by rw[H.get_put,kM rfl]⟩
 ·rw[qU,j];simp only[p,kY,sN,sR];rw[show Nat.beq 1 1=true from rfl,ble_iff.2 (show i*n+l+1≤E.flatten.length by omega),nZ (by omega)];rfl
 ·rcases List.mem_or_eq_of_mem_set g with g|rfl
  ·exact b x g
  ·rw[rB];exact f
open TaA TaI TaW TaX TaY TaV
def cJr:kC Nat:=[7,17,18,19,20,21,22,32,33,34,35,36,37,38,39,40,41,42,53,54,55,56,57,58,59,74,75,76,77,78,93,94,95,96,117,131,143,144]
structure KD (D:CF):Prop where
 no:∀f args h,f∈cJr→D f args h=none
def aRi (e:s.drop n=b::t):s[n]?=some b∧s.drop (n+1)=t∧n<s.length:=by
 have h:s[n]?=some b:=by
  have:=sX (fun s:kC kG=>s[0]?) e;simpa using this
 have a:=aU h;rw[e]at a;exact⟨h,(List.cons.inj a).2.symm,(pX.1 h).1⟩
def aNl (e:s.drop n=[]):s.length≤n:=List.drop_eq_nil_iff.1 e
def cMp (h:H):∃a,A.zC 1 5 TaV.Z3L [(0,1,iN 0),(1,1,iN 0),(2,1,iN 192),(3,1,iN 224),(4,1,iN 240)] h=some (.slice (some ⟨h.next,0,none⟩) 5 11,a)∧a.get h.next=some (.cells [iN 0,iN 0,iN 192,iN 224,iN 240] (some 1))∧Ext h a:=by
 obtain⟨a,b⟩:∃a,a=h.push (.cells [iN 0,iN 0,iN 192,iN 224,iN 240] (some 1)):=⟨_,rfl⟩;refine⟨a,by rw[b];rfl,by rw[b,H.get_push,kM rfl],by rw[b];exact Ext.push h _⟩
def bMn (a:kG)(t:kC kG):(chR (a::t)).2≤t.length+1:=by
 rw[eL];split
 ·exact sE _
 ·rename_i h;split
  ·exact sE _
  ·split
   ·exact sE _
   ·show cT a.toNat≤_;omega
def u8l (k:kG):decide ((c.toNat:Int)=(k.toNat:Int))=decide (c=k):=mK.2 ⟨fun e=>UInt8.toNat.inj (by omega),fun e=>by rw[e]⟩
section
variable {D:CF}(Z:KD D)
include Z
def cNd (a:kG):CI D 143 [u8 a] h=some (iN (cT a.toNat:Int),h):=by
 have q:=fun r=>bMw 0 (u8 a) h (r:=(r,h)) (Z.no 143 _ _ (by decide));refine q _ ?_;by_cases c1:a.toNat<128
 ·have d:decide ((a.toNat:Int)<128)=true:=kN (by omega);have e:cT a.toNat=1:=by unfold cT;rw[kM c1]
  rw[e];simp only[aTn,xX,aSf,aTd,aSe,cId,zZ,d,qS];rfl
 have d:decide ((a.toNat:Int)<128)=false:=kO (by omega);by_cases c2:192≤a.toNat
 ·have b:decide ((192:Int)≤(a.toNat:Int))=true:=kN (by omega);by_cases c3:a.toNat<224
  ·have c:decide ((a.toNat:Int)<224)=true:=kN (by omega);have e:cT a.toNat=2:=by unfold cT;rw[kL c1,kM ⟨c2,c3⟩]
   rw[e];simp only[aTn,xX,aSf,aTd,aSe,aWx,cIe,zZ,bF,d,b,c,qS];rfl
  have c:decide ((a.toNat:Int)<224)=false:=kO (by omega);have f:decide ((224:Int)≤(a.toNat:Int))=true:=kN (by omega);by_cases c4:a.toNat<240
  ·have g:decide ((a.toNat:Int)<240)=true:=kN (by omega);have e:cT a.toNat=3:=by unfold cT;rw[kL c1,kL (by omega),kM ⟨by omega,c4⟩]
   rw[e];simp only[aTn,xX,aSf,aTd,aSe,aWx,bCq,cIf,zZ,bF,d,b,c,f,g,qS];rfl
  have g:decide ((a.toNat:Int)<240)=false:=kO (by omega);have i:decide ((240:Int)≤(a.toNat:Int))=true:=kN (by omega);by_cases c5:a.toNat<248
  ·have j:decide ((a.toNat:Int)<248)=true:=kN (by omega);have e:cT a.toNat=4:=by unfold cT;rw[kL c1,kL (by omega),kL (by omega),kM ⟨by omega,c5⟩]
   rw[e];simp only[aTn,xX,aSf,aTd,aSe,aWx,bCq,bHj,zZ,bF,d,b,c,f,g,i,j,qS];rfl
  have j:decide ((a.toNat:Int)<248)=false:=kO (by omega);have e:cT a.toNat=0:=by unfold cT;rw[kL c1,kL (by omega),kL (by omega),kL (by omega)]
  rw[e];simp only[aTn,xX,aSf,aTd,aSe,aWx,bCq,bHj,bQw,zZ,bF,d,b,c,f,g,i,j,qS];rfl
 have b:decide ((192:Int)≤(a.toNat:Int))=false:=kO (by omega);have f:decide ((224:Int)≤(a.toNat:Int))=false:=kO (by omega);have i:decide ((240:Int)≤(a.toNat:Int))=false:=kO (by omega);have e:cT a.toNat=0:=by unfold cT;rw[kL c1,kL (by omega),kL (by omega),kL (by omega)]
 rw[e];simp only[aTn,xX,aSf,aTd,aSe,aWx,bCq,bHj,bQw,zZ,bF,d,b,f,i,qS];rfl
def cNc (s:n≤4):∃a,CI D 144 [iN (n:Int)] h=some (iN (fM n:Int),a)∧Ext h a:=by
 obtain⟨a,b⟩:∃a,a=h.push (.cells [iN 0,iN 1,iN 128,iN 2048,iN 65536] (some 1)):=⟨_,rfl⟩;have l:A.zC 1 5 TaV.Z3L [(0,1,iN 0),(1,1,iN 1),(2,1,iN 128),(3,1,iN 2048),(4,1,iN 65536)] h=some (.slice (some ⟨h.next,0,none⟩) 5 11,a):=by rw[b];rfl
 have g:a.get h.next=some (.cells [iN 0,iN 1,iN 128,iN 2048,iN 65536] (some 1)):=by rw[b,H.get_push,kM rfl]
 have i:=lW 1 h.next 0 5 11 n .i64 (by omega);have ld:A.load false 1 (.pointer (some ⟨h.next,0+n*1,none⟩)) a=some (iN (fM n:Int)):=by
  rw[qK,g];have:n=0∨n=1∨n=2∨n=3∨n=4:=by omega
  rcases this with rfl|rfl|rfl|rfl|rfl<;>rfl
 refine⟨a,bMv 0 _ h (Z.no 144 _ _ (by decide)) ?_,by rw[b];exact Ext.push h _⟩;simp only[cKg,aYg,l,qS,i,ld]
def bVa {S:kC kG}(M:S.length≤2^47){s:Nat}(C:CF)(L:Nat):∀(d:Nat) (t:kC kG) (i c m:Nat) (j:Type) (k x:Pk.K2 j),S.drop i=t→i+d=s→d≤t.length→d<m→(c+2)*64^d<2^60→
 aMt C L k x m (iN (i:Int)) (str S) (iN (c:Int)) (iN (s:Int)) h=match iX d t c with|none=>k (iN 0) (iN 0) h|some c=>x (iN (c:Int)) (iN (s:Int)) h:=by
 have _:=Z;intro d
 induction d with
 |zero=>
  intro t i c m j k x e z a B p;obtain⟨m,rfl⟩:=pS m (by omega);have d:decide ((i:Int)<(s:Int))=false:=by rw[kU];omega
  simp only[aMt,aXb,zZ,d,qS,iX]
 |succ d G=>
  intro t i c m j k x e z a B p
  match t,a with
  |b::t,a=>
   obtain⟨r,u,h3⟩:=aRi e;obtain⟨m,rfl⟩:=pS m (by omega);have a:d≤t.length:=by simp only[kY]at a;omega
   have o:decide ((i:Int)<(s:Int))=true:=by rw[kV];omega
   have q:=ixS r;have v:=b.toNat_lt;have w:=aQ (n:=i) (by omega);have E:0<64^d:=Nat.pow_pos (by omega);have f:(c+2)*64*64^d<2^60:=by rw[Nat.pow_succ]at p;rw[Nat.mul_assoc,Nat.mul_comm 64];exact p
   have y:(c+2)*64<2^60:=dL (Nat.le_mul_of_pos_right _ E) f;simp only[iX];by_cases c1:b.toNat<128
   ·have g:decide ((b.toNat:Int)<128)=true:=by rw[kV];omega
    rw[kM (Or.inl c1)];simp only[aMt,aXb,bCr,zZ,o,g,q,qS]
   ·have g:decide ((b.toNat:Int)<128)=false:=by rw[kU];omega
    by_cases c2:191<b.toNat
    ·have l:decide ((191:Int)<(b.toNat:Int))=true:=by rw[kV];omega
     rw[kM (Or.inr c2)];simp only[aMt,aXb,bCr,zZ,zY,o,g,l,q,qS]
    ·have l:decide ((191:Int)<(b.toNat:Int))=false:=by rw[kU];omega
     rw[kL (fun h=>h.elim c1 c2)];have I:IntKind.i64.wrap (64*(c:Int))=64*(c:Int):=gX (by omega) (by omega);have J:IntKind.i64.wrap (64*(c:Int)+(b.toNat:Int))=64*(c:Int)+(b.toNat:Int):=gX (by omega) (by omega);have K:IntKind.i64.wrap (64*(c:Int)+(b.toNat:Int)-128)=((64*c+b.toNat-128:Nat):Int):=by rw[gX (by omega) (by omega)];omega
     have:=G t (i+1) (64*c+b.toNat-128) m j k x u (by omega) a (by omega) (dL (Nat.mul_le_mul_right _ (by omega)) f);simp only[aMt,aXb,bCr,bRc,zZ,zY,o,g,l,q,qS,bAh,I,aFw _ v,bC,J,lC,K,w];exact this
def cNe (U:(a::t).length≤2^47):∃C,CI D 131 [str (a::t)] h=some (.tuple ⟨[iN ((chR (a::t)).1:Int),iN ((chR (a::t)).2:Int)]⟩,C)∧Ext h C:=by
 have q:=fun r C=>bNd 7 (str (a::t)) h (r:=(r,C)) (Z.no 131 _ _ (by decide));have Q:=a.toNat_lt;have E:A.zD (str (a::t)) (iN 0)=some (u8 a):=ixS (i:=0) rfl;have j:=cNd Z (h:=h) a;rw[eL];obtain⟨s,R⟩:=eX (cT a.toNat);rw[←R]at j⊢;have M:s≤4∧(s=2→192≤a.toNat)∧(s=3→224≤a.toNat)∧(s=4→240≤a.toNat):=by
  rw[R];unfold cT;(repeat' split)<;>omega
 by_cases O:s=0
 ·rw[kM (Or.inl O)];rw[O]at j;exact⟨h,q _ _ (by simp only[bEj,aEj,bCs,E,qS,j,zQ];rfl),Ext.refl h⟩
 have G:decide ((s:Int)=0)=false:=by rw[kU];omega
 by_cases c1:t.length+1<s
 ·rw[kM (Or.inr c1)];have l:decide ((((a::t).length:Nat):Int)<(s:Int))=true:=by rw[kV,kY];omega
  exact⟨h,q _ _ (by simp only[bEj,aEj,bCs,E,qS,j,zQ,G,qJ,zY,l];rfl),Ext.refl h⟩
 rw[kL (by omega)];have l:decide ((((a::t).length:Nat):Int)<(s:Int))=false:=by rw[kU,kY];omega
 have K:∀(c:Nat) (f:H) (w:Type) (k:Pk.K2 w),c<2^62→∃g,Ext f g∧aMw (CI D) f (iN (s:Int)) (iN (c:Int)) k (fun p o h=>aWy h o p k)=(if c<fM s∨1114111<c∨55296≤c∧c≤57343 then k (iN 0) (iN 0) g else k (iN (c:Int)) (iN (s:Int)) g):=by
  intro c f w k hc;obtain⟨g,e,n⟩:=cNc Z (h:=f) M.1;refine⟨g,n,?_⟩;by_cases c1:c<fM s
  ·have l:decide ((c:Int)<(fM s:Int))=true:=by rw[kV];omega
   rw[kM (Or.inl c1)];simp only[aMw,aXa,aWz,e,qS,zZ,l]
  ·have l:decide ((c:Int)<(fM s:Int))=false:=by rw[kU];omega
   by_cases c2:1114111<c
   ·have m:decide ((1114111:Int)<(c:Int))=true:=by rw[kV];omega
    rw[kM (Or.inr (Or.inl c2))];simp only[aMw,aXa,aWz,e,qS,zZ,l,zY,m]
   ·have m:decide ((1114111:Int)<(c:Int))=false:=by rw[kU];omega
    by_cases c3:55296≤c
    ·have B:decide ((55296:Int)≤(c:Int))=true:=by rw[kV];omega
     by_cases c4:c≤57343
     ·have I:decide ((c:Int)≤57343)=true:=by rw[kV];omega
      rw[kM (Or.inr (Or.inr ⟨c3,c4⟩))];simp only[aMw,aXa,aWz,e,qS,zZ,l,zY,m,bF,B,cG,I]
     ·have I:decide ((c:Int)≤57343)=false:=by rw[kU];omega
      rw[kL (by omega)];simp only[aMw,aXa,aWz,aWy,e,qS,zZ,l,zY,m,bF,B,cG,I]
    ·have B:decide ((55296:Int)≤(c:Int))=false:=by rw[kU];omega
     rw[kL (by omega)];simp only[aMw,aXa,aWz,aWy,e,qS,zZ,l,zY,m,bF,B]
 have v:∀(d:Nat) (t:kC kG) (b c:Nat),iX d t b=some c→(b+2)*64^d<2^60→c<2^62:=by
  intro d
  induction d with
  |zero=>intro t b c f g;simp only[iX,kP]at f;omega
  |succ d X=>
   intro t b c f g
   match t with
   |[]=>cases f
   |x::t=>
    have hx:=x.toNat_lt;simp only[iX]at f;split at f
    ·cases f
    ·refine X t _ c f ?_;rw[Nat.pow_succ,Nat.mul_comm (64^d),←Nat.mul_assoc]at g;exact dL (Nat.mul_le_mul_right _ (by omega)) g
 have P:∀(f:H) (b:Nat) (w:Type) (k:Pk.K2 w),b≤300→∃g,Ext f g∧bIr (CI D) 7 f (str (a::t)) (iN (s:Int)) (iN (b:Int)) k (fun p o h=>aMw (CI D) h o p k (fun p o h=>aWy h o p k))=
  (match iX (s-1) t b with|none=>k (iN 0) (iN 0) g|some c=>if c<fM s∨1114111<c∨55296≤c∧c≤57343 then k (iN 0) (iN 0) g else k (iN (c:Int)) (iN (s:Int)) g):=by
  intro f b w k hb;have V:64^(s-1)≤64^3:=Nat.pow_le_pow_right (by omega) (by omega);have y:(b+2)*64^(s-1)<2^60:=dL (Nat.mul_le_mul (show b+2≤302 by omega) V) (by decide);have:=bVa Z (h:=f) U (s:=s) (CI D) 7 (s-1) t 1 b 7 w k (fun p o h=>aMw (CI D) h o p k (fun p o h=>aWy h o p k)) rfl (by omega) (by omega) (by omega) y;have this:aMt (CI D) 7 k _ 7 (iN 1) _ _ _ f=_:=this;simp only[bIr,cIr];rw[this]
  cases W:iX (s-1) t b with
  |none=>exact⟨f,Ext.refl f,rfl⟩
  |some c=>exact K c f w k (v _ _ _ _ W y)
 have u:∀(f:H) (x:kB Nat),(match x with|none=>some (Value.tuple ⟨[iN 0,iN 0]⟩,f)|some c=>if c<fM s∨1114111<c∨55296≤c∧c≤57343 then some (Value.tuple ⟨[iN 0,iN 0]⟩,f)else some (Value.tuple ⟨[iN (c:Int),iN (s:Int)]⟩,f))=
  some (Value.tuple ⟨[iN (((match x with|none=>(0,0)|some c=>if c<fM s∨1114111<c∨55296≤c∧c≤57343 then(0,0)else(c,s)):Nat×Nat).1:Int),iN (((match x with|none=>(0,0)|some c=>if c<fM s∨1114111<c∨55296≤c∧c≤57343 then(0,0)else(c,s)):Nat×Nat).2:Int)]⟩,f):=by
  intro f x
  cases x with
  |none=>rfl
  |some c=>
   simp only;split<;>rfl
 by_cases c2:1<s
 ·have m:decide ((1:Int)<(s:Int))=true:=by rw[kV];omega
  obtain⟨f,L,S,x1⟩:=cMp h;have Y:=lW 1 h.next 0 5 11 s .i64 (by omega);have ld:A.load false 1 (.pointer (some ⟨h.next,0+s*1,none⟩)) f=some (iN (wG s:Int)):=by
   rw[qK,S];have:s=2∨s=3∨s=4:=by omega
   rcases this with rfl|rfl|rfl<;>rfl
  have z:wG s≤a.toNat:=by unfold wG;(repeat' split)<;>omega
  have sb:IntKind.i64.wrap ((a.toNat:Int)-(wG s:Int))=((a.toNat-wG s:Nat):Int):=by rw[gX (by omega) (by omega)];omega
  obtain⟨g,n,J⟩:=P f (a.toNat-wG s) _ (fun n N h=>some (Value.tuple ⟨[n,N]⟩,h)) (by omega);refine⟨g,q _ _ ?_,x1.trans n⟩;simp only[bEj,aEj,bCs,bRd,E,qS,j,zQ,G,qJ,zY,l,aFw _ Q,m,L,Y,ld,lC,sb,J];exact u g _
 ·have m:decide ((1:Int)<(s:Int))=false:=by rw[kU];omega
  have z:wG s=0:=by unfold wG;(repeat' split)<;>omega
  obtain⟨g,n,J⟩:=P h a.toNat _ (fun n N h=>some (Value.tuple ⟨[n,N]⟩,h)) (by omega);refine⟨g,q _ _ ?_,n⟩;simp only[bEj,aEj,bCs,bRd,E,qS,j,zQ,G,qJ,zY,l,aFw _ Q,m,J];rw[z,dJ];exact u g _
def cNf (l:kC kG):∃(c:Int) (e:H),CI D 117 [str l] h=some (iN c,e)∧decide (0≤c)=cA l∧Ext h e:=by
 have q:=fun L r e=>bNh L (str l) h (r:=(r,e)) (Z.no 117 _ _ (by decide));by_cases J:65535<l.length
 ·have d:decide ((65535:Int)<(l.length:Int))=true:=by rw[kV];omega
  refine⟨-1,h,q 0 _ _ ?_,?_,Ext.refl h⟩
  ·simp only[bKq,aGf,bHo,qJ,qS,zY,d]
  ·unfold cA;rw[kM J];rfl
 have d:decide ((65535:Int)<(l.length:Int))=false:=by rw[kU];omega
 have lp:∀(L f i:Nat) (c:Nat) (m:Nat) (j:H) (z:Type) (s x:Pk.K1 z),l.length<i+f→i≤l.length→c≤i→f≤m→Ext h j→∃(k:Nat) (e:H),
  aSt (CI D) L s x m (iN (i:Int)) (str l) (iN (c:Int)) j=(if aNd f (l.drop i)then x (iN (k:Int)) e else s (iN (-1)) e)∧Ext h e:=by
  intro L f
  induction f with
  |zero=>intro i c m j z s x R M;omega
  |succ f V=>
   intro i c m j z s x R M hc hm I;obtain⟨m,rfl⟩:=pS m (by omega)
   match o:l.drop i with
   |[]=>
    have:=aNl o;have d:decide ((i:Int)<(l.length:Int))=false:=by rw[kU];omega
    refine⟨c,j,?_,I⟩;simp only[aSt,bCy,qJ,qS,zZ,d];rfl
   |a::t=>
    obtain⟨X,Y,g3⟩:=aRi o;have d:decide ((i:Int)<(l.length:Int))=true:=by rw[kV];omega
    have G:=slS M;rw[o]at G;have E:(a::t).length=l.length-i:=by rw[←o,pI]
    obtain⟨K,C,y⟩:=cNe Z (h:=j) (a:=a) (t:=t) (by omega);have O:∀a b:kA,A.u 0 (.tuple ⟨[a,b]⟩)=some a:=fun _ _=>rfl;have P:∀a b:kA,A.u 1 (.tuple ⟨[a,b]⟩)=some b:=fun _ _=>rfl;have U:=bMn a t;simp only[kY]at E;obtain⟨w,p⟩:=eX ((chR (a::t)).2);rw[←p]at C U;have Q:aNd (f+1) (a::t)=if w=0 then false else aNd f ((a::t).drop w):=by
     rw[p];show(if a::t=[]then true else _)=_
     rw[kL (fun h=>by cases h)]
    rw[Q];by_cases w0:w=0
    ·have B:decide ((w:Int)=0)=true:=by rw[kV];omega
     refine⟨c,K,?_,I.trans y⟩;simp only[aSt,bCy,qJ,qS,zZ,d,G,C,O,P,zQ,B,kM w0];rfl
    ·have B:decide ((w:Int)=0)=false:=by rw[kU];omega
     have w1:IntKind.i64.wrap ((i:Int)+(w:Int))=((i+w:Nat):Int):=by rw[gX (by omega) (by omega)];omega
     have w2:=aQ (n:=c) (by omega);obtain⟨k,e,g,v⟩:=V (i+w) (c+1) m K z s x (by omega) (by omega) (by omega) (by omega) (I.trans y);refine⟨k,e,?_,v⟩;rw[kL w0,show(a::t).drop w=l.drop (i+w) by rw[←o,sG],←g];simp only[aSt,bCy,qJ,qS,zZ,d,G,C,O,P,zQ,B,bC,w1,w2]
 obtain⟨k,e,g,v⟩:=lp (l.length+1) (l.length+1) 0 0 (l.length+1) h _ (fun y h=>some (y,h)) (fun W h=>some (W,h)) (by omega) (by omega) (by omega) (by omega) (Ext.refl h);have S:cA l=aNd (l.length+1) l:=by unfold cA;rw[kL J]
 rw[mI,←S]at g
 cases N:cA l with
 |true=>
  rw[N]at g;refine⟨k,e,q (l.length+1) _ _ ?_,?_,v⟩
  ·simp only[bKq,aGf,bHo,bIh,bRh,bRg,qJ,qS,zY,d];exact g
  ·rw[kV];omega
 |false=>
  rw[N]at g;refine⟨-1,e,q (l.length+1) _ _ ?_,rfl,v⟩;simp only[bKq,aGf,bHo,bIh,bRh,bRg,qJ,qS,zY,d];exact g
def U95 (l:kC kG):∃a:H,CI D 95 [str l] h=some (.bool (cA l),a)∧Ext h a:=by
 obtain⟨c,a,e,v,x⟩:=cNf Z (h:=h) l;refine⟨a,cBk 0 _ h (Z.no 95 _ _ (by decide)) ?_,x⟩;simp only[F95,bTg,e,qS,bF,v]
def aIe {l:kC kG}(h:cA l=true):l.length≤65535:=by
 have _:=Z;unfold cA at h;split at h
 ·cases h
 ·omega
end
def cJt {a:kC kG}(h:a.length+s.length≤2^60):A.z prog .add 9 (str a) (str s)=some (str (a++s)):=by
 have e:A.z prog .add 9 (str a) (str s)=(bif Nat.ble (a.length+s.length) 9223372036854775807 then some (str (a++s))else none):=by rfl
 rw[e,show Nat.ble (a.length+s.length) 9223372036854775807=true from ble_iff.2 (by omega)];rfl
def cLb (h:s[n]?=some b):A.zN (str s) (some (iN (n:Int))) (some (iN ((n+1:Nat):Int)))=some (str [b]):=by
 have i:=(pX.1 h).1;have c:=gF (y:=s.length) (a:=n+1) i;have d:=gF (y:=n+1) (a:=n) (by omega);have e:(⟨⟨s⟩⟩:ByteArray).size=s.length:=rfl;unfold A.zN;simp only[e,c,pQ,d];show some (str ((s.drop n).take (n+1-n)))=_;rw[aU h,show n+1-n=1 by omega];rfl
abbrev xR (l:kC (kC kG)):kC (kC kA):=l.map fun x=>[str x]
section
variable {D:CF}(k:KD D)
include k
def U94 {l:kC kG}(z:l.length≤2^60):CI D 94 [str l] h=some (.bool (!xT l),h):=by
 have q:=fun r=>cBl (l.length+1) (str l) h (r:=(r,h)) (k.no 94 _ _ (by decide));have lp:∀(L:Nat) (t:kC kG) (i m:Nat) (a:Pk.K1 (kA×H)) (x:Pk.K0 (kA×H)),l.drop i=t→l.length-i<m→
  aMl (CI D) L a x m (iN (i:Int)) (str l) h=if dM t then a (.bool false) h else x h:=by
  intro L t
  induction t with
  |nil=>
   intro i m a x e u;have:=aNl e;obtain⟨m,rfl⟩:=pS m (by omega);have d:decide ((i:Int)<(l.length:Int))=false:=by rw[kU];omega
   simp only[aMl,aVo,qJ,qS,zZ,d];rfl
  |cons b t v=>
   intro i m a x e u;obtain⟨o,p,h3⟩:=aRi e;obtain⟨m,rfl⟩:=pS m (by omega);have d:decide ((i:Int)<(l.length:Int))=true:=by rw[kV];omega
   have g:=ixS o;have w:=aQ (n:=i) (by omega);have y:=v (i+1) m a x p (by omega);have s:dM (b::t)=(decide ((b.toNat:Int)=43)||decide ((b.toNat:Int)=35)||dM t):=by
    have:pmC b.toNat=(decide ((b.toNat:Int)=43)||decide ((b.toNat:Int)=35)):=by
     unfold pmC;rw[mR];simp only[pW,tI];omega
    show(pmC b.toNat||dM t)=_;rw[this]
   rw[s]
   cases f:decide ((b.toNat:Int)=43)with
   |true=>simp only[aMl,aVo,bAo,qJ,qS,zZ,d,g,zQ,f,tL,mE]
   |false=>
    cases j:decide ((b.toNat:Int)=35)with
    |true=>simp only[aMl,aVo,bAo,qJ,qS,zZ,d,g,zQ,f,j,tL,dA,mE]
    |false=>
     simp only[aMl,aVo,bAo,bNw,qJ,qS,zZ,d,g,zQ,f,j,bC,w,mZ];exact y
 have e:=lp (l.length+1) l 0 (l.length+1) (fun c h=>some (c,h)) (fun h=>bNv h fun c h=>some (c,h)) rfl (by omega);have e:aMl (CI D) _ _ (fun h=>bNv h fun c h=>some (c,h)) _ (iN 0) (str l) h=_:=e;refine q _ ?_;simp only[F94,bJi,cEl,bSm,cEk,e,bAc];cases dM l<;>rfl
def cLu (hs:s.length≤2^40)(kx:Pk.K1 (kA×H)):∀(t:kC kG) (i m:Nat) (h:H) (v:kA) (p:kC (kC kG)) (x:kC kG),s.drop i=t→t.length<m→Ext j h→GrowV 1 h v (xR (p++[x]))→(∀f,sid v=some f→j.next≤f)→p.length≤i→x.length≤i→
 ∃y G,aQj (CI D) L kx m (iN (i:Int)) (str s) v h=kx G y∧Ext j y∧GrowV 1 y G (xR (p++aIb x t))∧(∀f,sid G=some f→j.next≤f):=by
 have _:=k;intro t
 induction t with
 |nil=>
  intro i m h v p x e O K r Q hp hx;have:=aNl e;obtain⟨m,rfl⟩:=pS m (by omega);have d:decide ((i:Int)<(s.length:Int))=false:=by rw[kU];omega
  refine⟨h,v,?_,K,by rw[aUe];exact r,Q⟩;simp only[aQj,bAp,qJ,qS,zZ,d]
 |cons c t ih=>
  intro i m h v p x e O K r Q hp hx;obtain⟨h1,h2,h3⟩:=aRi e;obtain⟨m,rfl⟩:=pS m (by omega);have O:t.length<m:=by simp only[kY]at O;omega
  have d:decide ((i:Int)<(s.length:Int))=true:=by rw[kV];omega
  have ix:=ixS h1;have w:=aQ (n:=i) (by omega);have a:decide ((c.toNat:Int)=47)=decide (c=47):=u8l 47;have l:(xR (p++[x])).length=p.length+1:=by simp
  have b3:=K.next;by_cases R:c=47
  ·rw[kN R]at a;obtain⟨J,N⟩:=eX (h.push (.cells [str []] (some 1)));have M:=aX (n:=1) (zs:=TaV.Z9L) (v:=str []) (vs:=[str []]) h rfl rfl rfl;have so:=fQ (h:=h) (n:=1) (vs:=[str []]) rfl;rw[←N]at M so;have U:Ext h J:=N▸Ext.push h _;have g:GrowV 1 J v (xR (p++[x])):=r.but (S:=fun _=>False) U.next fun f C=>U.get f (r.slice.sid_lt f C);obtain⟨h5,ea,I,n5,y5⟩:=eN (bs:=16) g so (by simp) (by omega) (by rw[l];simp only[List.length_singleton];omega) (by rw[l];simp only[List.length_singleton];omega);have ev:xR (p++[x])++[[str []]]=xR ((p++[x])++[[]]):=by simp
   rw[ev]at I;have d3:=U.next;have X:Ext j h5:=⟨by omega,fun f C=>by
    rw[y5.get f (by omega) (fun e=>by have:=Q f e;omega),U.get f (by omega)];exact K.get f C⟩
   obtain⟨y,G,V,B,u,E⟩:=ih (i+1) m h5 _ (p++[x]) [] h2 O X I (fun f C=>by simp[sid]at C;omega) (by simp;omega) (by simp);refine⟨y,G,?_,B,?_,E⟩
   ·simp only[aQj,bAp,bHx,bNx,bFf,qJ,qS,zZ,d,ix,zQ,a,M,ea,bC,w];exact V
   ·rw[R,aKz,←List.singleton_append,←sH];exact u
  ·rw[kO R]at a;have b:(xR (p++[x]))[p.length]?=some [str x]:=by rw[pL,pK (kQ _),dI];rfl
   have ln:A.zE v=some (iN ((p.length+1:Nat):Int)):=by have:=r.slice.len.1;rwa [l]at this
   have w1:A.z prog .sub 3 (iN ((p.length+1:Nat):Int)) (iN 1)=some (iN (p.length:Int)):=by rw[lC,gX (by omega) (by omega)];congr 2;omega
   obtain⟨q,Z,J,ei,es,g,y4,sq,n4,gq,_⟩:=r.put (w:=str (x++[c])) b (show 0<1 by omega) rfl;obtain⟨id,a3,cells,own,o,_,g',_,_,Y⟩:=r.slice.at b .i64;rw[ei]at o;simp only[kP,Value.pointer.injEq,Addr.mk.injEq,and_true]at o;obtain⟨rfl,rfl⟩:=o;have l0:A.load false 1 (.pointer (some ⟨q,Z,none⟩)) h=some (str x):=by rw[qK,g'];have:=Y 0 (by omega);simpa using this
   have cc:A.z prog .add 9 (str x) (str [c])=_:=cJt (by simp;omega);have ss:=cLb h1;have P:(xR (p++[x])).set p.length ([str x].set 0 (str (x++[c])))=xR (p++[x++[c]]):=by
    rw[show([str x].set 0 (str (x++[c])))=[str (x++[c])]from rfl];simp only[xR,rJ,mH,List.map_nil];rw[dH _ _ (by simp)];simp
   rw[P]at g;have W:Ext j J:=⟨by omega,fun f C=>by rw[y4.get f (by omega) (fun e=>by have:=Q q sq;omega)];exact K.get f C⟩;obtain⟨y,G,V,B,u,E⟩:=ih (i+1) m J v p (x++[c]) h2 O W g Q (by omega) (by simp;omega);refine⟨y,G,?_,B,?_,E⟩
   ·simp only[sS]at es;simp only[aQj,bAp,bHx,bNx,cEm,bFf,qJ,qS,zZ,d,ix,zQ,a,ln,w1,ei,l0,bC,w];simp only[ss,cc,qS,es];exact V
   ·rw[aPf x t R];exact u
def U93 (m:s.length≤2^40):∃b v,CI D 93 [str s] h=some (v,b)∧SliceE 1 b v (xR (bH s))∧Ext h b:=by
 obtain⟨d,a⟩:=eX (h.push (.cells [str []] (some 1)));have c:=aX (n:=1) (zs:=TaV.Z9L) (v:=str []) (vs:=[str []]) h rfl rfl rfl;rw[←a]at c;have i:GrowV 1 d (.slice (some ⟨h.next,0,none⟩) 1 3) (xR ([]++[[]])):=⟨by simp,h.next,3,rfl,.inr rfl,by rw[a];simp,by rw[a,H.get_push,kM rfl];rfl⟩;obtain⟨b,o,e,p,g,_⟩:=cLu k m (fun f h=>bFe h f fun x h=>some (x,h)) (L:=s.length+1) s 0 (s.length+1) d _ [] [] rfl (by omega) (a▸Ext.push h _) i (fun j l=>by simp[sid]at l;omega) (by simp) (by simp);have e:aQj (CI D) _ (fun f h=>bFe h f fun x h=>some (x,h)) _ (iN 0) (str s) (.slice (some ⟨h.next,0,none⟩) 1 3) d=_:=e;rw[dF,aKy,←aEp]at g;refine⟨b,o,cBm (s.length+1) _ h (k.no 93 _ _ (by decide)) ?_,g.slice,p⟩;simp only[F93,bJj,cEo,bSq,cEn,c,qS,e];simp only[bFe]
omit k in
def bKj (s:SliceE 1 h v (xR p))(d:i<p.length):∃a x,A.zB 1 v (iN (i:Int))=some a∧A.load false 1 a h=some (str x)∧p.drop i=x::p.drop (i+1)∧p[i]?=some x∧∀b,Ext h b→A.load false 1 a b=some (str x):=by
 have e:p[i]?=some p[i]:=kZ d;have c:(xR p)[i]?=some [str p[i]]:=by rw[pL,e];rfl
 obtain⟨id,o,cells,own,j,l,g,_,_,m⟩:=s.at c .i64;have f:cells[o]?=some (str p[i]):=by have:=m 0 (by omega);simpa using this
 exact⟨_,p[i],j,by rw[qK,g];exact f,List.drop_eq_getElem_cons d,e,fun b x=>by rw[qK,x.get id l,g];exact f⟩
def U96 (n:s.length≤2^40):∃f,CI D 96 [str s] h=some (.bool (oX s),f)∧Ext h f:=by
 obtain⟨m,v,d,o,x⟩:=U93 k (h:=h) n;obtain⟨a,y,c,l,g,_,_⟩:=bKj o (i:=0) (List.length_pos_iff.2 (aNz _ s));have c:A.zB 1 v (iN 0)=_:=c;have e:A.z prog .eql 9 (str y) (.string ⟨⟨[43]⟩⟩)=_:=bX y [43];have j:A.z prog .eql 9 (str y) (.string ⟨⟨[35]⟩⟩)=_:=bX y [35];rw[mI]at g;have w:oX s=decide (y=[43]∨y=[35]):=by unfold oX;rw[g]
 refine⟨m,cBj 0 (str s) h (k.no 96 _ _ (by decide)) ?_,x⟩;by_cases b:y=[43]
 ·rw[kN b]at e;rw[w,kN (.inl b)];simp only[F96,bJh,d,qS,c,l,e]
 ·rw[kO b]at e;simp only[F96,bJh,d,qS,c,l,e,j,w];simp[b]
def U77 (s:kC kG):∃b,CI D 77 [str s] h=some (.bool (fB cA s),b)∧Ext h b:=by
 have q:=fun r b=>cBy 0 (str s) h (r:=(.bool r,b)) (k.no 77 _ _ (by decide));unfold fB
 match s with
 |[]=>exact⟨h,q _ _ rfl,Ext.refl h⟩
 |a::t=>
  have d:decide ((0:Int)<(((a::t).length:Nat):Int))=true:=by rw[kV,kY];omega
  obtain⟨c,e,x⟩:=U95 k (h:=h) (a::t);refine⟨c,q _ _ ?_,x⟩;rw[kN (show a::t≠[] by simp),mF]
  cases v:cA (a::t)with
  |false=>
   rw[v]at e;simp only[F77,bJl,qJ,qS,zY,d,e];rfl
  |true=>
   rw[v]at e;have hle:=aIe k v;have f:=U94 k (h:=c) (l:=a::t) (by omega);simp only[F77,bJl,qJ,qS,zY,d,e,f];rfl
def cLy (J:p.length≤2^50)(B:∀x∈p,x.length≤2^60)(E:SliceE 1 h v (xR p))(r:Pk.K1 (kA×H))(t:Pk.K1 (kA×H)):
 ∀(d i m:Nat),i+d=p.length→d<m→aCr (CI D) L r t m (iN (i:Int)) v (str s) h=if aHz p.length i (p.drop i)then t (str s) h else r (.bool false) h:=by
 have l:A.zE v=some (iN (p.length:Int)):=by have:=E.len.1;rwa [pO]at this
 intro d
 induction d with
 |zero=>
  intro i m G I;obtain⟨m,rfl⟩:=pS m (by omega);have g:decide ((i:Int)<(p.length:Int))=false:=by rw[kU];omega
  rw[pZ (by omega)];simp only[aCr,aQa,l,zZ,g,qS,aHz,mE]
 |succ d M=>
  intro i m G I;obtain⟨m,rfl⟩:=pS m (by omega);have g:decide ((i:Int)<(p.length:Int))=true:=by rw[kV];omega
  obtain⟨a,x,o,q,u,K,_⟩:=bKj E (i:=i) (by omega);have w1:A.z prog .sub 3 (iN (p.length:Int)) (iN 1)=some (iN ((p.length-1:Nat):Int)):=by rw[lC,gX (by omega) (by omega)];congr 2;omega
  have w2:A.z prog .add 3 (iN (i:Int)) (iN 1)=some (iN ((i+1:Nat):Int)):=by rw[bC,aQ (by omega)]
  have b:=U94 k (h:=h) (B x (sY K));have j:A.z prog .neq 9 (str x) (.string ⟨⟨[43]⟩⟩)=_:=gZ x [43];have n:A.z prog .neq 9 (str x) (.string ⟨⟨[35]⟩⟩)=_:=gZ x [35];have e:=M (i+1) m (by omega) (by omega);have y:lvB x (decide (i+1=p.length))=!(xT x&&(!decide (x=[43])&&(!decide (x=[35])||decide ((i:Int)<((p.length-1:Nat):Int))))):=by
   have:decide (i+1=p.length)=!decide ((i:Int)<((p.length-1:Nat):Int)):=by
    rw[←decide_not];exact mK.2 (by omega)
   rw[this];unfold lvB;by_cases c:x=[43]
   ·simp[c]
   ·by_cases f:x=[35]
    ·rw[kL c,kO c,kN f];cases xT x<;>cases decide ((i:Int)<((p.length-1:Nat):Int))<;>simp[f]
    ·rw[kL c,kL (fun h=>f h.1),kO c,kO f];cases xT x<;>rfl
  have w:aHz p.length i (x::p.drop (i+1))=(!(xT x&&(!decide (x=[43])&&(!decide (x=[35])||decide ((i:Int)<((p.length-1:Nat):Int)))))&&aHz p.length (i+1) (p.drop (i+1))):=by rw[←y];rfl
  rw[u,w];have N:aCr (CI D) L r t (m+1) (iN (i:Int)) v (str s) h=if xT x&&(!decide (x=[43])&&(!decide (x=[35])||decide ((i:Int)<((p.length-1:Nat):Int))))then r (.bool false) h else aCr (CI D) L r t m (iN ((i+1:Nat):Int)) v (str s) h:=by
   cases C:xT x with
   |false=>
    rw[C]at b;simp only[aCr,aQa,aSz,aVy,aVx,aRm,l,zZ,g,qS,o,q,b,w2,mG];rfl
   |true=>
    rw[C]at b
    cases c:decide (x=[43])with
    |true=>
     rw[c]at j;simp only[aCr,aQa,aSz,aVy,aVx,aRm,l,zZ,g,qS,o,q,b,j,w2];rfl
    |false=>
     rw[c]at j
     cases f:decide (x=[35])with
     |false=>
      rw[f]at n;simp only[aCr,aQa,aSz,aVy,aVx,aRm,l,zZ,g,qS,o,q,b,j,n,w2];rfl
     |true=>
      rw[f]at n
      cases h3:decide ((i:Int)<((p.length-1:Nat):Int))with
      |true=>
       simp only[aCr,aQa,aSz,aVy,aVx,aRm,l,zZ,g,qS,o,q,b,j,n,w1,h3,w2];rfl
      |false=>
       simp only[aCr,aQa,aSz,aVy,aVx,aRm,l,zZ,g,qS,o,q,b,j,n,w1,h3,w2];rfl
  rw[N,e];cases(xT x&&(!decide (x=[43])&&(!decide (x=[35])||decide ((i:Int)<((p.length-1:Nat):Int)))))<;>rfl
def U75 (w:s.length≤2^40):∃f,CI D 75 [str s] h=some (.bool (fZ cA s),f)∧Ext h f:=by
 obtain⟨c,v,g,B,l⟩:=U93 k (h:=h) w;have o:=iF s;have i:∀y∈bH s,y.length≤2^60:=fun y b=>by
  have:∀n (s:kC kG),∀y∈oR n s,y.length≤s.length:=by
   intro n
   induction n with
   |zero=>intro s y b;simp only[oR,mC]at b;rw[b];exact kQ _
   |succ n z=>
    intro s y b;simp only[oR]at b;split at b
    ·simp only[mC]at b;rw[b];exact kQ _
    ·rcases sI.1 b with rfl|b
     ·rw[pH];omega
     ·have:=z _ y b;rw[pI]at this;omega
  have:=this _ s y b;omega
 have e:=cLy k (h:=c) (s:=s) (by omega) i B (fun x h=>some (x,h)) (fun j h=>bFg (CI D) h j fun x h=>some (x,h)) (L:=(bH s).length+1) (bH s).length 0 ((bH s).length+1) (by omega) (by omega);have e:aCr (CI D) _ (fun x h=>some (x,h)) (fun j h=>bFg (CI D) h j fun x h=>some (x,h)) _ (iN 0) v (str s) c=_:=e;rw[mI]at e;have q:=fun r f=>cCa ((bH s).length+1) (str s) h (r:=(.bool r,f)) (k.no 75 _ _ (by decide));unfold fZ
 cases m:aHz (bH s).length 0 (bH s)with
 |false=>
  rw[m]at e;refine⟨c,q _ _ ?_,l⟩;simp only[F75,aXs,bFi,bDp,bFh,g,qS,e];simp only[pP,mD,ite_self]
 |true=>
  rw[m]at e
  match s with
  |[]=>
   refine⟨c,q _ _ ?_,l⟩;simp only[F75,aXs,bFi,bDp,bFh,g,qS,e];rfl
  |a::t=>
   have d:decide ((0:Int)<(((a::t).length:Nat):Int))=true:=by rw[kV,kY];omega
   obtain⟨u,p,x⟩:=U95 k (h:=c) (a::t);refine⟨u,q _ _ ?_,l.trans x⟩;rw[kL (by simp)];simp only[F75,aXs,bFi,bDp,bFh,g,qS,e,mE];simp only[bFg,qS,qJ,zY,d,p];cases cA (a::t)<;>rfl
def cLx {x:kA}{c:kC (kC kG)}(Q:p.length≤2^50)(R:c.length≤2^50)(J:SliceE 1 h v (xR p))(sb:SliceE 1 h x (xR c)):
 ∀(d i m:Nat),i+d=p.length→d<m→i≤c.length→aFh (CI D) L (fun G h=>some (G,h)) (fun W X h=>bOe h W X fun G h=>some (G,h)) m (iN (i:Int)) v x h=some (.bool (oK (p.drop i) (c.drop i)),h):=by
 have _:=k;have o:A.zE v=some (iN (p.length:Int)):=by have:=J.len.1;rwa [pO]at this
 have u:A.zE x=some (iN (c.length:Int)):=by have:=sb.len.1;rwa [pO]at this
 intro d
 induction d with
 |zero=>
  intro i m O P N;obtain⟨m,rfl⟩:=pS m (by omega);have l:decide ((i:Int)<(p.length:Int))=false:=kO (by omega);rw[pZ (show p.length≤i by omega),show oK [] (c.drop i)=decide ((p.length:Int)=(c.length:Int)) by
   simp only[oK];rw[mR,List.isEmpty_iff,pW,List.drop_eq_nil_iff];omega]
  simp only[aFh,aMj,bOe,o,u,zZ,l,qS,zQ]
 |succ d S=>
  intro i m O P N;obtain⟨m,rfl⟩:=pS m (by omega);have l:decide ((i:Int)<(p.length:Int))=true:=kN (by omega);obtain⟨U,a,s,t,K,_,_⟩:=bKj J (i:=i) (by omega);rw[K];have n:A.z prog .eql 9 (str a) (.string ⟨⟨[35]⟩⟩)=_:=bX a [35];by_cases e:a=[35]
  ·rw[kN e]at n;rw[show oK (a::p.drop (i+1)) (c.drop i)=true by simp only[oK,kM e]];simp only[aFh,aMj,aQx,aRl,o,zZ,l,qS,s,t,n]
  rw[kO e]at n;by_cases E:c.length≤i
  ·have q:decide ((c.length:Int)≤(i:Int))=true:=kN (by omega);rw[pZ E,show oK (a::p.drop (i+1)) []=false by simp only[oK,kL e]];simp only[aFh,aMj,aQx,aRl,aVv,aVu,o,zZ,l,qS,s,t,n,u,bF,q]
  have q:decide ((c.length:Int)≤(i:Int))=false:=kO (by omega);obtain⟨V,j,B,C,M,_,_⟩:=bKj sb (i:=i) (by omega);rw[M];have w:A.z prog .neq 9 (str a) (.string ⟨⟨[43]⟩⟩)=_:=gZ a [43];have r:A.z prog .eql 9 (str j) (.string ⟨⟨[35]⟩⟩)=_:=bX j [35];have y:A.z prog .neq 9 (str a) (str j)=_:=gZ a j;have I:=S (i+1) m (by omega) (by omega) (by omega);have w2:A.z prog .add 3 (iN (i:Int)) (iN 1)=some (iN ((i+1:Nat):Int)):=by rw[bC,aQ (by omega)]
  rw[show oK (a::p.drop (i+1)) (j::c.drop (i+1))=if j=[35]then false else decide (a=[43]∨a=j)&&oK (p.drop (i+1)) (c.drop (i+1)) by simp only[oK,kL e]]
  by_cases b:j=[35]
  ·rw[kN b]at r;rw[kM b];simp only[aFh,aMj,aQx,aRl,aVv,aVu,o,zZ,l,qS,s,t,n,u,bF,q,B,C,r]
  rw[kO b]at r;rw[kL b];by_cases f:a=[43]
  ·rw[kN f]at w;rw[kN (.inl f),mF,←I];simp only[aFh,aMj,aQx,aRl,aVv,aVu,bAv,o,zZ,l,qS,s,t,n,u,bF,q,B,C,r,w,w2]
  rw[kO f]at w;by_cases g:a=j
  ·rw[kN g]at y;rw[kN (.inr g),mF,←I];simp only[aFh,aMj,aQx,aRl,aVv,aVu,bAv,o,zZ,l,qS,s,t,n,u,bF,q,B,C,r,w,y,w2]
  ·rw[kO g]at y;rw[kO (fun h=>h.elim f g),mG];simp only[aFh,aMj,aQx,aRl,aVv,aVu,bAv,o,zZ,l,qS,s,t,n,u,bF,q,B,C,r,w,y]
def U78 {n:kC kG}(p:s.length≤2^40)(w:n.length≤2^40):∃m,CI D 78 [str s,str n] h=some (.bool (aMe cA s n),m)∧Ext h m:=by
 obtain⟨G,a,z⟩:=U75 k (h:=h) p;obtain⟨I,d,R⟩:=U75 k (h:=G) w;have x:=z.trans R;have W:=iF s;have X:=iF n;have q:=fun r m=>cBx ((bH s).length+1) (str s) (str n) h (r:=(.bool r,m)) (k.no 78 _ _ (by decide));unfold aMe
 cases f:fZ cA s with
 |false=>
  rw[f]at a;refine⟨_,q _ _ ?_,z⟩;simp only[F78,aTg,bAx,bDg,aVw,a,qS,bAw];rfl
 |true=>
  rw[f]at a
  cases b:fZ cA n with
  |false=>
   rw[b]at d;refine⟨_,q _ _ ?_,x⟩;simp only[F78,aTg,bAx,bDg,aVw,a,d,qS,bAw];rfl
  |true=>
   rw[b]at d;have V:=aBu b;obtain⟨h3,j,S⟩:=U96 k (h:=I) p;have g:=x.trans S;obtain⟨c,v⟩:∃c,n[0]?=some c:=⟨_,kZ (List.length_pos_iff.2 V.1)⟩;have N:A.zD (str n) (iN 0)=some (u8 c):=ixS (i:=0) v;have M:decide (n.head?=some 36)=decide ((c.toNat:Int)=36):=by
    rw[List.head?_eq_getElem?,v];refine mK.2 ⟨fun e=>by rw[pB e];rfl,fun e=>?_⟩;rw[show c=36 from UInt8.toNat_inj.1 (by show c.toNat=36;omega)]
   have o:aVw (CI D) h (str s) (str n)=fun t:kA→kA→kA→H→kB (kA×H)=>t (.bool (oX s&&decide (n.head?=some 36))) (str s) (str n) h3:=by
    rw[M]
    cases y:oX s with
    |false=>rw[y]at j;exact funext fun t=>by simp only[aVw,a,d,j,qS,mG]
    |true=>rw[y]at j;exact funext fun t=>by simp only[aVw,a,d,j,qS,N,zQ,mF]
   cases u:oX s&&decide (n.head?=some 36)with
   |true=>
    rw[u]at o;refine⟨_,q _ _ ?_,g⟩;simp only[F78,aTg,bAx,bDg,o,qS,bAw];rfl
   |false=>
    rw[u]at o;obtain⟨J,P,C,O,U⟩:=U93 k (h:=h3) p;obtain⟨K,Q,E,sb,B⟩:=U93 k (h:=J) w;have l:=cLx k (by omega) (by omega) (O.ext B) sb (L:=(bH s).length+1) (bH s).length 0 ((bH s).length+1) (by omega) (by omega) (sE _);have l:aFh (CI D) _ _ _ _ (iN 0) P Q K=_:=l;rw[mI,mI]at l;refine⟨_,q _ _ ?_,(g.trans U).trans B⟩;simp only[F78,aTg,bAx,bDg,o,qS,bAw,cEs,C,E,bTa,cEr,l];rfl
def U59 (g:s.length≤2^40)(n:kC kG):∃a,CI D 59 [str s,str n] h=some (.bool (xP cA s n),a)∧Ext h a:=by
 obtain⟨f,e,c⟩:=U77 k (h:=h) n;have q:=fun r a=>cCk 0 (str s) (str n) h (r:=(.bool r,a)) (k.no 59 _ _ (by decide));unfold xP
 cases b:fB cA n with
 |false=>
  rw[b]at e;simp only[F59,bJr,e,qS]at q;exact⟨_,q _ _ rfl,c⟩
 |true=>
  rw[b]at e;have v:cA n=true:=by
   unfold fB at b;simp only[pA]at b;exact b.2.1
  have:=aIe k v;obtain⟨i,d,x⟩:=U78 k (h:=f) g (n:=n) (by omega);simp only[F59,bJr,e,d,qS]at q;exact⟨_,q _ _ rfl,c.trans x⟩
end
structure LstD (h:H)(l:Nat)(v:kA)(r:Row):Prop where
 get:h.get l=some (.cells [v] (some 0))
 lt:l<h.next
 row:GN 2 h v (aW r)
def GN.own (x:GN n h v E){a:kC kA}{k:kB Nat}(g:h.get l=some (.cells a k))(b:k≠some n):sid v≠some l:=fun e=>by
 rcases x with⟨rfl,_⟩|⟨_,q,c,rfl,_,_,hg⟩
 ·cases e
 ·obtain rfl:=pB e;rw[hg]at g;cases g;exact b rfl
def LstD.load {h:H}{n:Nat}{v:kA}{r:Row}(x:LstD h n v r):A.load false 1 (aA n) h=some v:=by rw[qK,x.get];rfl
def LstD.but {S:Nat→Prop}{h j:H}{l:Nat}{v:kA}{r:Row}(x:LstD h l v r)(e:ExtBut S h j)(a:¬S l)(s:∀i,sid v=some i→¬S i):LstD j l v r:=
 ⟨by rw[e.get l x.lt a];exact x.get,kT x.lt e.next,x.row.but e s⟩
def LstD.ext (x:LstD h l v r)(e:Ext h j):LstD j l v r:=x.but e.but (S:=fun _=>False) id fun _ _=>id
def LstD.len {h:H}{l:Nat}{v:kA}{r:Row}(x:LstD h l v r):A.zE v=some (iN (r.length:Int)):=by have:=x.row.len;rwa [aW,pO]at this
def oQ (x:SliceE 2 h v (aW R))(f:R[i]?=some y):∃o q,A.zB 2 v (iN (i:Int))=some (.pointer (some ⟨q,o,none⟩))∧A.load true 2 (.pointer (some ⟨q,o,none⟩)) h=some (.agg ⟨[str y.1,iU (y.2:Int)]⟩)∧
 A.load false 1 (.pointer (some ⟨q,o,none⟩)) h=some (str y.1)∧A.load false 1 (.pointer (some ⟨q,o+1,none⟩)) h=some (iU (y.2:Int)):=by
 have d:(aW R)[i]?=some [str y.1,iU (y.2:Int)]:=by rw[aW,pL,f];rfl
 obtain⟨id,o,cells,own,e,_,g,a,b,c⟩:=x.at d .i64;refine⟨o,id,e,?_,?_,?_⟩
 ·rw[aI,g];simp only[ble_iff.2 a,sV,b]
 ·rw[qK,g];have:=c 0 (by omega);simpa using this
 ·rw[qK,g];have:=c 1 (by omega);simpa using this
def gQ (h:i<2^62):A.z prog .add 3 (iN (i:Int)) (iN 1)=some (iN ((i+1:Nat):Int)):=by rw[bC,aQ (by omega)]
section
variable {D:CF}(Z:KD D)
include Z
def V76 (x:LstD h n v R)(z:R.length≤2^40)(f:Bs):CI D 76 [aA n,str f] h=some (.bool (vH R f),h):=by
 have lp:∀(d i m:Nat) (k:Pk.K1 (kA×H)) (b:Pk.K0 (kA×H)) (L:Nat),i+d=R.length→d<m→aQl (CI D) L k b m (iN (i:Int)) (str f) (aA n) h=if vH (R.drop i) f then k (.bool true) h else b h:=by
  intro d
  induction d with
  |zero=>
   intro i m k b L s t;obtain⟨m,rfl⟩:=pS m (by omega);have g:decide ((i:Int)<(R.length:Int))=false:=kO (by omega);rw[pZ (by omega)];simp only[aQl,bAy,qS,sR,x.load,x.len,zZ,g];rfl
  |succ d u=>
   intro i m k b L s t;obtain⟨m,rfl⟩:=pS m (by omega);have g:decide ((i:Int)<(R.length:Int))=true:=kN (by omega);obtain⟨y,o⟩:∃y,R[i]?=some y:=⟨_,kZ (by omega)⟩;obtain⟨w,q,j,_,p,_⟩:=oQ x.row.slice o;have c:=bX y.1 f;have w2:=gQ (i:=i) (by omega);have r:vH (R.drop i) f=(decide (y.1=f)||vH (R.drop (i+1)) f):=by rw[aU o];rfl
   have e:=u (i+1) m k b L (by omega) (by omega);rw[r]
   cases l:decide (y.1=f)with
   |true=>
    rw[l]at c;simp only[aQl,bAy,qS,sS,x.load,x.len,zZ,g,j,p,c,tL,mE]
   |false=>
    rw[l]at c;simp only[aQl,bAy,qS,sS,x.load,x.len,zZ,g,j,p,c,w2,mZ];exact e
 have e:=lp R.length 0 (R.length+1) (fun a h=>some (a,h)) (fun h=>bOf h fun a h=>some (a,h)) (R.length+1) (by omega) (by omega);have e:aQl (CI D) _ (fun a h=>some (a,h)) (fun h=>bOf h fun a h=>some (a,h)) _ (iN 0) (str f) (aA n) h=_:=e;rw[mI]at e;refine cBz (R.length+1) _ _ h (Z.no 76 _ _ (by decide)) ?_;simp only[F76,bJm,cEu,bSb,cEt,e];cases vH R f<;>rfl
def aLw {bs:Nat}(I:zs.length=n)(G:0<n)(o:aN w=some e)(l:e.length=n)(q:GN n h v E)(B:Ext j h)(K:∀i,sid v=some i→j.next≤i)(t:(E.length+1)*bs≤2^47)(C:E.length+1≤2^47):
 ∃b c g a,A.zC n 1 zs [(0,n,w)] h=some (b,c)∧A.zF n bs v b c=some (g,a)∧GN n a g (E++[e])∧Ext j a∧(∀i,sid g=some i→j.next≤i)∧h.next≤a.next:=by
 have _:=Z;have d:=aX (n:=n) (zs:=zs) (v:=w) (vs:=e) h I o l;have s:=fQ (h:=h) (n:=n) (vs:=e) l;obtain⟨c,f⟩:=eX (h.push (.cells e (some n)));rw[←f]at d s;have x:Ext h c:=f▸Ext.push h _;obtain⟨g,a,p,k,L,y,J⟩:=fS (bs:=bs) (q.ext x) s G (by simpa using t) (by simpa using C);have r:=B.next;have M:=x.next;have N:=y.next;exact⟨_,c,g,a,d,p,k,⟨by omega,fun m z=>by
  rw[y.get m (by omega) (fun e=>by have:=K m e;omega),x.get m (by omega)];exact B.get m z⟩,fun i u=>by have:=J (by simp) i u;omega,by omega⟩
def cMa (x:LstD h i v R)(hr:R.length≤2^40)(f:Bs)(K:Pk.K3 (kA×H))(N:kA):∀(d g m:Nat) (u:H) (l:kA) (a:Row),g+d=R.length→d<m→Ext h u→GN 2 u l (aW a)→(∀g,sid l=some g→h.next≤g)→a.length≤g→
 ∃k c,aQn (CI D) L K m (iN (g:Int)) (str f) (aA i) l N u=K (aA i) c N k∧Ext h k∧GN 2 k c (aW (a++eI (R.drop g) f))∧(∀g,sid c=some g→h.next≤g):=by
 intro d
 induction d with
 |zero=>
  intro g m u l a V W B r t S;obtain⟨m,rfl⟩:=pS m (by omega);have j:=x.ext B;have s:decide ((g:Int)<(R.length:Int))=false:=kO (by omega);refine⟨u,l,?_,B,by rw[pZ (by omega)];simpa[eI]using r,t⟩;simp only[aQn,bBc,qS,sR,j.load,j.len,zZ,s]
 |succ d J=>
  intro g m u l a V W B r t S;obtain⟨m,rfl⟩:=pS m (by omega);have j:=x.ext B;have s:decide ((g:Int)<(R.length:Int))=true:=kN (by omega);obtain⟨y,I⟩:∃y,R[g]?=some y:=⟨_,kZ (by omega)⟩;obtain⟨Y,q,E,X,M,_⟩:=oQ j.row.slice I;have p:=gZ y.1 f;have w2:=gQ (i:=g) (by omega);have U:eI (R.drop g) f=(if decide (y.1=f)then[]else[y])++eI (R.drop (g+1)) f:=by
   rw[aU I];unfold eI;rw[dO];cases decide (y.1=f)<;>rfl
  rw[U]
  cases G:decide (y.1=f)with
  |true=>
   rw[G]at p;obtain⟨k,c,e,r1,r2,r3⟩:=J (g+1) m u l a (by omega) (by omega) B r t (by omega);refine⟨k,c,?_,r1,by simpa using r2,r3⟩;simp only[aQn,bBc,qS,sS,j.load,j.len,zZ,s,E,M,p,w2,e]
  |false=>
   rw[G]at p;obtain⟨b,h1,v',Q,P,O,o,z,C,_⟩:=aLw Z (zs:=TaV.Z57L) (n:=2) (bs:=24) rfl (by omega) (w:=.agg ⟨[str y.1,iU (y.2:Int)]⟩) (e:=[str y.1,iU (y.2:Int)]) rfl rfl r B t (by simp[aW];omega) (by simp[aW];omega);have ev:aW a++[[str y.1,iU (y.2:Int)]]=aW (a++[y]):=by simp[aW]
   rw[ev]at o;obtain⟨k,c,e,r1,r2,r3⟩:=J (g+1) m Q v' (a++[y]) (by omega) (by omega) z o C (by simp;omega);refine⟨k,c,?_,r1,by simpa using r2,r3⟩;simp only[aQn,bBc,qS,sS,j.load,j.len,zZ,s,E,M,p,X,P,O,w2,e]
def LstD.put {j h:H}{l:Nat}{v u:kA}{r R:Row}(x:LstD j l v r)(B:Ext j h)(g:GN 2 h u (aW R))(s:∀i,sid u=some i→i≠l):∃a,A.store 1 (aA l) u h=some a∧LstD a l u R∧ExtBut (fun i=>i=l) j a∧a.next=h.next:=by
 have _:=Z;have c:aN u=some [u]:=g.slice.cells;have b:=x.ext B;refine⟨h.put l (.cells [u] (some 0)),by rw[qU,b.get,c];rfl,⟨by rw[H.get_put,kM rfl],b.lt,?_⟩,ExtBut.put B.but l _ rfl,rfl⟩;exact g.but (S:=fun i=>i=l) (ExtBut.put ⟨kQ _,fun _ _ _=>rfl⟩ l _ rfl) s
def V58 (x:LstD h n v R)(r:R.length≤2^40)(f:Bs):∃c b o,CI D 58 [aA n,str f] h=some (.bool b,c)∧LstD c n o (eI R f)∧(∀i,sid o=some i→h.next≤i)∧ExtBut (fun i=>i=n) h c:=by
 have p:=V76 Z x r f;obtain⟨z,u,a,B,m,s⟩:=cMa Z x r f (fun g l k h=>bFo h g k l fun j h=>some (j,h)) (.bool (vH R f)) (L:=R.length+1) R.length 0 (R.length+1) h eJ [] (by omega) (by omega) (Ext.refl h) (GN.nil 2 h) (fun i d=>by cases d) (by simp);have a:aQn (CI D) _ (fun g l k h=>bFo h g k l fun j h=>some (j,h)) _ (iN 0) (str f) (aA n) (.slice none 0 0) (.bool (vH R f)) h=_:=a;rw[dF,mI]at m;obtain⟨t,q,w,y,_⟩:=x.put Z B m (fun i d e=>by have:=s i d;have:=x.lt;omega);refine⟨t,vH R f,u,cCl (R.length+1) _ _ h (Z.no 58 _ _ (by decide)) ?_,w,s,y⟩;simp only[F58,bJs,cFa,bSd,cEz,p,qS,a];simp only[bFo,qS,sR,q]
def V53 (x:LstD h n v R)(J:R.length≤2^40):∃f p k,CI D 53 [aA n] h=some (aA p,f)∧LstD f p k R∧Ext h f∧h.next≤p∧(∀i,sid k=some i→h.next≤i):=by
 obtain⟨d,a⟩:=eX (h.push (.cells [] (some 2)));have s:A.zC 2 0 TaV.Z57L [] h=some (.slice (some ⟨h.next,0,none⟩) 0 1,d):=by rw[a];rfl
 have l:Ext h d:=by rw[a];exact Ext.push h _
 have K:d.next=h.next+1:=by rw[a];rfl
 have B:GN 2 d (.slice (some ⟨h.next,0,none⟩) 0 1) (aW []):=.inr ⟨by simp[aW],h.next,1,rfl,.inr rfl,by omega,by rw[a,H.get_push,kM rfl];rfl⟩;have q:=x.ext l;obtain⟨w,c,t,g,I,y,_⟩:=fS (bs:=24) B q.row.slice (by omega) (by simp[aW];omega) (by simp[aW];omega);have G:∀i,sid w=some i→h.next≤i:=fun i C=>by
  rcases I i C with h|h
  ·simp[sid]at h;omega
  ·omega
 have m:Ext h c:=⟨by have:=y.next;omega,fun j E=>by rw[y.get j (by omega) (fun e=>by simp[sid]at e;omega)];exact l.get j E⟩;have r:aN w=some [w]:=g.slice.cells;obtain⟨h3,b⟩:=eX (c.push (.cells [w] (some 0)));have z:A.zI TaV.Z118L [(0,1,w)]=some (.agg ⟨[w]⟩):=by
  simp only[A.zI,A.yG,r];rfl
 have u:A.box 1 (.agg ⟨[w]⟩) c=some (aA c.next,h3):=by rw[b];rfl
 have o:Ext c h3:=by rw[b];exact Ext.push c _
 rw[show aW []++aW R=aW R from rfl]at g;refine⟨h3,c.next,w,cCq 0 _ h (Z.no 53 _ _ (by decide)) ?_,⟨by rw[b,H.get_push,kM rfl],by rw[b];simp,g.ext o⟩,m.trans o,m.next,G⟩;simp only[F53,bTq,s,qS,sR,q.load,t,z,u]
end
def aAw (h:∀e∈E,e.length=n)(a:Nat)(c:a≤E.length):E.flatten=(E.take a).flatten++(E.drop a).flatten∧(E.take a).flatten.length=a*n∧(E.drop a).flatten.length=(E.length-a)*n:=by
 refine⟨by rw[←List.flatten_append,sM],?_,?_⟩
 ·rw[cF fun e b=>h e (mU b),pH,dU c]
 ·rw[cF fun e b=>h e (mX b),pI]
def GN.tail (x:GN n h v E){a:Nat}(d:a≤E.length):∃z,(∀b,(∀i,sid v=some i→b.get i=h.get i)→A.zK n v (some (iN (a:Int))) none none b=some z)∧SliceE n h z (E.drop a)∧AM.same z z=true:=by
 rcases x with⟨rfl,rfl⟩|⟨h1,q,c,rfl,hc,hq,hg⟩
 ·simp at d;subst d;exact⟨eJ,fun _ _=>rfl,⟨by simp,.inl ⟨rfl,rfl⟩⟩,rfl⟩
 ·obtain⟨f,g,k⟩:=aAw h1 a d;have l:(E.drop a).length=E.length-a:=by simp
  refine⟨.slice (some ⟨q,0+a*n,none⟩) (E.length-a) (c-2*a),fun b o=>?_,⟨fun e m=>h1 e (mX m),.inr ⟨q,0+a*n,c-2*a,by rw[l],by rw[l];omega,hq,fun _=>⟨_,_,hg,?_,?_⟩⟩⟩,by simp[AM.same]⟩
  ·have j:=gF d;have s:A.yH n q b=true:=by unfold A.yH;rw[o q rfl,hg];simp
   simp only[A.zK,dX,mG,sW,oJ,tH,pQ,j,s,dA,sV]
  ·rw[f,kX,g,k,l];omega
  ·rw[l,f,List.drop_append,pZ (by omega),dF,g,sR,dI,mI,sA (by omega)]
def GN.cut (x:GN n h v E){a:Nat}(b:a≤E.length):∃w,(∀d,A.zK n v none (some (iN (a:Int))) none d=some w)∧SliceE n h w (E.take a)∧AM.same w w=true:=by
 rcases x with⟨rfl,rfl⟩|⟨h1,q,c,rfl,hc,hq,hg⟩
 ·simp at b;subst b;exact⟨eJ,fun _=>rfl,⟨by simp,.inl ⟨rfl,rfl⟩⟩,rfl⟩
 ·obtain⟨f,i,k⟩:=aAw h1 a b;have l:(E.take a).length=a:=by rw[pH];omega
  refine⟨.slice (some ⟨q,0,none⟩) a c,fun d=>?_,⟨fun e j=>h1 e (mU j),.inr ⟨q,0,c,by rw[l],by rw[l];omega,hq,fun _=>⟨_,_,hg,?_,?_⟩⟩⟩,by simp[AM.same]⟩
  ·have g:=gF (y:=c / 2) (a:=a) (by omega);simp only[A.zK,dX,mG,sW,g,oJ,tH,pQ];rw[show Nat.beq 0 0=true from rfl];simp only[dA,tL,sV,Nat.zero_mul,sS,dJ,Nat.mul_zero]
  ·rw[f,kX,i,l];omega
  ·rw[l,mI,f,List.take_append_of_le_length (by omega),sA (by omega)]
def aZd (a b:Bs):A.z prog .lss 9 (str a) (str b)=some (.bool (decide (a<b))):=by
 rw[←aBi];rfl
def aNt (a b:Bs):A.z prog .gtr 9 (str a) (str b)=some (.bool (decide (b<a))):=by
 show some (Value.bool (!(Op.bytesLess a b||a==b)))=_;rw[aBi,eqB];congr 2;rw[←Bool.decide_or,←decide_not];refine mK.2 ⟨fun h=>?_,fun h g=>?_⟩
 ·rcases List.le_total a b with g|g
  ·rcases List.le_iff_lt_or_eq.1 g with g|g
   ·exact dC (.inl g) h
   ·exact dC (.inr g) h
  ·rcases List.le_iff_lt_or_eq.1 g with g|g
   ·exact g
   ·exact dC (.inr g.symm) h
 ·rcases g with g|g
  ·exact List.lt_irrefl _ (List.lt_trans h g)
  ·rw[g]at h;exact List.lt_irrefl _ h
def oG:∀(r:Row) (f:Bs) (q:Nat),aNb r f q=r.take (place r f)++(f,q)::r.drop (place r f)
 |[],f,q=>rfl
 |x::r,f,q=>by
  simp only[aNb,place,List.takeWhile_cons];by_cases h:x.1<f
  ·rw[kM h,kN h];have:=oG r f q;unfold place at this;simp[this]
  ·rw[kL h,kO h];rfl
def aKt (x:Bs×Nat)(r:Row)(f:Bs):place (x::r) f=if x.1<f then place r f+1 else 0:=by
 unfold place;rw[List.takeWhile_cons];by_cases h:x.1<f<;>simp[h]
section
variable {D:CF}(Z:KD D)
include Z
def cMb (x:LstD h n v R)(w:R.length≤2^40)(f:Bs)(k:Pk.K4 (kA×H))(o:kA):∀(t:Row) (i m:Nat),R.drop i=t→t.length<m→
 aMn (CI D) L k m (str f) (aA n) (iN (i:Int)) o h=k (str f) (aA n) (iN ((i+place t f:Nat):Int)) o h:=by
 have _:=Z;intro t
 induction t with
 |nil=>
  intro i m e j;obtain⟨m,rfl⟩:=pS m (by omega);have:=List.drop_eq_nil_iff.1 e;have d:decide ((i:Int)<(R.length:Int))=false:=kO (by omega);simp only[aMn,bBd,qS,sR,x.load,x.len,zZ,d];rfl
 |cons y t r=>
  intro i m e j;obtain⟨m,rfl⟩:=pS m (by omega);have b:R[i]?=some y:=by
   have:=sX (fun n:Row=>n[0]?) e;simpa using this
  have u:=(pX.1 b).1;have d:decide ((i:Int)<(R.length:Int))=true:=kN (by omega);have p:R.drop (i+1)=t:=by have:=aU b;rw[e]at this;exact(List.cons.inj this).2.symm
  obtain⟨s,q,g,_,l,_⟩:=oQ x.row.slice b;have a:=aZd y.1 f;have w2:=gQ (i:=i) (by omega);rw[aKt];by_cases c:y.1<f
  ·rw[kN c]at a;rw[kM c];have:=r (i+1) m p (by simp only[kY]at j;omega);rw[show i+1+place t f=i+(place t f+1) by omega]at this;rw[←this];simp only[aMn,bBd,qS,sS,x.load,x.len,zZ,d,g,l,a,w2]
  ·rw[kO c]at a;rw[kL c,sS];simp only[aMn,bBd,qS,sS,x.load,x.len,zZ,d,g,l,a]
def bUq (x:LstD h i v R)(hr:R.length≤2^40)(f:Bs)(q:Nat)(o:l≤R.length)(k:Pk.K1 (kA×H)):
 ∃B O,bFp h (aA i) (str f) (iU (q:Int)) (iN (l:Int)) k=k (iU (q:Int)) B∧LstD B i O (R.take l++(f,q)::R.drop l)∧(∀l,sid O=some l→h.next≤l)∧ExtBut (fun l=>l=i) h B:=by
 obtain⟨m,c⟩:=eX (h.push (.cells [] (some 2)));have W:A.zC 2 0 TaV.Z57L [] h=some (.slice (some ⟨h.next,0,none⟩) 0 1,m):=by rw[c];rfl
 have G:Ext h m:=by rw[c];exact Ext.push h _
 have n1:m.next=h.next+1:=by rw[c];rfl
 have g0:GN 2 m (.slice (some ⟨h.next,0,none⟩) 0 1) (aW []):=.inr ⟨by simp[aW],h.next,1,rfl,.inr rfl,by omega,by rw[c,H.get_push,kM rfl];rfl⟩;have S:=x.ext G;have hl:(aW R).length=R.length:=by simp[aW]
 obtain⟨w,ew,sw,_⟩:=S.row.cut (a:=l) (by omega);obtain⟨u,t,X,K,s2,U,_⟩:=fS (bs:=24) g0 sw (by omega) (by simp[aW];omega) (by simp[aW];omega);have su:∀l,sid u=some l→h.next≤l:=fun l o=>by
  rcases s2 l o with h|h
  ·simp[sid]at h;omega
  ·omega
 have P:Ext h t:=⟨by have:=U.next;omega,fun j d=>by rw[U.get j (by omega) (fun e=>by simp[sid]at e;omega)];exact G.get j d⟩;rw[show aW []++(aW R).take l=aW (R.take l) by simp[aW]]at K;have eb:A.zI TaV.Z57L [(0,1,str f),(1,1,iU (q:Int))]=some (.agg ⟨[str f,iU (q:Int)]⟩):=rfl;obtain⟨b,h3,u3,h4,r,Y,g4,g,M,_⟩:=aLw Z (zs:=TaV.Z57L) (n:=2) (bs:=24) rfl (by omega) (w:=.agg ⟨[str f,iU (q:Int)]⟩) (e:=[str f,iU (q:Int)]) rfl rfl K P su (by simp[aW];omega) (by simp[aW];omega);have C:h3=t.push (.cells [str f,iU (q:Int)] (some 2)):=by
  have:=aX (n:=2) (zs:=TaV.Z57L) (v:=.agg ⟨[str f,iU (q:Int)]⟩) (vs:=[str f,iU (q:Int)]) t rfl rfl rfl;rw[this]at r;simp only[kP,kW]at r;exact r.2.symm
 have Q:Ext h h3:=by rw[C];exact P.trans (Ext.push t _)
 have E:AM.same v v=true:=x.row.slice.same;have J:=x.ext g;have I:=x.ext Q;obtain⟨z,y,sz,p⟩:=x.row.tail (a:=l) (by omega);have k4:=y h4 fun j d=>g.get j (x.row.slice.sid_lt j d);have k3:=y h3 fun j d=>Q.get j (x.row.slice.sid_lt j d);have k1:=y m fun j d=>G.get j (x.row.slice.sid_lt j d);have c1:AM.chk (bnd (A.load false 1 (aA i) h3) fun v=>some v) v=true:=eG (by rw[I.load];rfl) E;have c2:AM.chk (some v) v=true:=eG rfl E;have c3:AM.chk (bnd (A.zK 2 v (some (iN (l:Int))) none none h3) fun v=>some v) z=true:=eG (by rw[k3];rfl) p;have c4:AM.chk (bnd (A.zK 2 v (some (iN (l:Int))) none none m) fun v=>some v) z=true:=eG (by rw[k1];rfl) p;obtain⟨N,h5,e5,L,s5,V,_⟩:=fS (bs:=24) g4 (sz.ext g) (by omega) (by simp[aW];omega) (by simp[aW];omega);have x5:Ext h h5:=⟨by have:=V.next;have:=g.next;omega,fun j d=>by rw[V.get j (by have:=g.next;omega) (fun e=>by have:=M j e;omega)];exact g.get j d⟩;have s:∀l,sid N=some l→h.next≤l:=fun l o=>by
  rcases s5 l o with h|h
  ·exact M l h
  ·have:=g.next;omega
 rw[show aW (R.take l)++[[str f,iU (q:Int)]]++(aW R).drop l=aW (R.take l++(f,q)::R.drop l) by simp[aW]]at L;obtain⟨h6,e6,x6,y6,_⟩:=x.put Z x5 L (fun l o e=>by have:=s l o;have:=x.lt;omega);refine⟨h6,N,?_,x6,s,y6⟩;simp only[bFp,W,qS,sR,S.load,ew,X,eb,r,Y,J.load,c1,c2,dB,k4,c3,c4,e5,e6]
def V57 (x:LstD h n v r)(B:r.length≤2^40)(V:f.length≤2^40)(hq:q<256):
 ∃e P,CI D 57 [aA n,str f,iU (q:Int)] h=some (iU ((lX (fZ cA) r f q).1:Int),e)∧LstD e n P (lX (fZ cA) r f q).2∧(∀i,sid P=some i→sid v=some i∨h.next≤i)∧ExtBut (fun i=>i=n) h e:=by
 have O:=fun L c e=>cCm L (aA n) (str f) (iU (q:Int)) h (r:=(iU (c:Int),e)) (Z.no 57 _ _ (by decide));obtain⟨y,l,j⟩:=U75 Z (h:=h) V;have I:=x.ext j;have p:=V76 Z I B f;have W:=I.len;have C:∃(b:Bool) (e:H),b=decide (2<q∨fZ cA f=false∨vH r f=false∧16≤r.length)∧(∀k:Pk.K4 (kA×H),aWa (CI D) h (aA n) (str f) (iU (q:Int)) k=k (.bool b) (str f) (aA n) (iU (q:Int)) e)∧Ext h e:=by
  by_cases c1:2<q
  ·refine⟨true,h,(kN (.inl c1)).symm,fun k=>?_,Ext.refl h⟩;have d:decide ((2:Int)<(q:Int))=true:=kN (by omega);simp only[aWa,zY,d,qS]
  have d:decide ((2:Int)<(q:Int))=false:=kO (by omega)
  cases m:fZ cA f with
  |false=>
   rw[m]at l;refine⟨true,y,(kN (.inr (.inl rfl))).symm,fun k=>?_,j⟩;simp only[aWa,zY,d,qS,l]
  |true=>
   rw[m]at l
   cases N:vH r f with
   |true=>
    rw[N]at p;refine⟨false,y,(kO fun g=>?_).symm,fun k=>?_,j⟩
    ·rcases g with g|g|g
     ·exact c1 g
     ·cases g
     ·cases g.1
    ·simp only[aWa,zY,d,qS,l,p]
   |false=>
    rw[N]at p;refine⟨decide (16≤r.length),y,mK.2 ⟨fun g=>.inr (.inr ⟨rfl,g⟩),fun g=>?_⟩,fun k=>?_,j⟩
    ·rcases g with g|g|g
     ·exact dC g c1
     ·cases g
     ·exact g.2
    ·have w:decide ((16:Int)≤(r.length:Int))=decide (16≤r.length):=mK.2 (by omega);simp only[aWa,zY,d,qS,l,p,sR,I.load,W,bF,w]
 obtain⟨b,K,t,J,a⟩:=C;unfold lX;by_cases u:2<q∨fZ cA f=false∨vH r f=false∧16≤r.length
 ·rw[kM u];rw[kN u]at t;subst t;refine⟨K,v,O 0 128 K ?_,x.ext a,fun i z=>.inl z,a.but⟩;simp only[F57,bDw,bRn,bRw,J,bOn,qS]
 ·rw[kL u];rw[kO u]at t;subst t;have E:=x.ext a;obtain⟨h3,b3,v3,S,Q,s3,R⟩:=V58 Z E B f;have o:(eI r f).length≤2^40:=kR (List.length_filter_le _ _) B;have s:=cMb Z Q o f (fun j x0 x7 a h=>bFp h x0 j a x7 fun a h=>bSl h a fun G h=>some (G,h)) (iU (q:Int)) (L:=r.length+1) (eI r f) 0 (r.length+1) rfl (by have:=List.length_filter_le (fun x:Bs×Nat=>!decide (x.1=f)) r;unfold eI;omega);have s:aMn (CI D) _ _ _ (str f) (aA n) (iN 0) (iU (q:Int)) h3=_:=s;rw[sR]at s;obtain⟨M,Y,U,x4,X,y4⟩:=bUq Z Q o f q (aIu (eI r f) f) (fun a h=>bSl h a fun G h=>some (G,h));have n2:=a.next;have n3:=R.next;refine⟨M,Y,O (r.length+1) q M ?_,by rw[oG];exact x4,fun i z=>.inr (by have:=X i z;omega),a.but.trans (R.trans y4)⟩;simp only[F57,bDw,bRn,bRw,J,bOn,qS,cJj,S];refine s.trans (U.trans ?_);rfl
def V41 (x:LstD h n v R)(X:R.length≤2^40)(Q:∀y∈R,y.1.length≤2^40)(o:Bs):
 ∃a,CI D 41 [aA n,str o] h=some (.tuple ⟨[iU ((cN (xP cA) R o).1:Int),.bool (cN (xP cA) R o).2]⟩,a)∧Ext h a:=by
 have lp:∀(d i m:Nat) (b:Nat×Bool) (l:H) (k:Pk.K2 (kA×H)) (L:Nat),i+d=R.length→d<m→Ext h l→
  ∃a,aMp (CI D) L k m (iN (i:Int)) (aA n) (str o) (iU (b.1:Int)) (.bool b.2) l=k (iU ((oN (xP cA) o b (R.drop i)).1:Int)) (.bool (oN (xP cA) o b (R.drop i)).2) a∧Ext h a:=by
  intro d
  induction d with
  |zero=>
   intro i m b l k L S U B;obtain⟨m,rfl⟩:=pS m (by omega);have c:=x.ext B;have p:decide ((i:Int)<(R.length:Int))=false:=kO (by omega);refine⟨l,?_,B⟩;rw[pZ (by omega)];simp only[aMp,aWh,qS,sR,c.load,c.len,zZ,p];rfl
  |succ d I=>
   intro i m b l k L S U B;obtain⟨m,rfl⟩:=pS m (by omega);have c:=x.ext B;have p:decide ((i:Int)<(R.length:Int))=true:=kN (by omega);obtain⟨y,z⟩:∃y,R[i]?=some y:=⟨_,kZ (by omega)⟩;obtain⟨V,q,s,_,J,Y⟩:=oQ c.row.slice z;obtain⟨G,t,C⟩:=U59 Z (h:=l) (Q y (sY z)) o;have j:=c.ext C;obtain⟨P,q',f,_,_,r⟩:=oQ j.row.slice z;rw[s]at f;simp only[kP,Value.pointer.injEq,Addr.mk.injEq,and_true]at f;obtain⟨rfl,rfl⟩:=f;have w2:=gQ (i:=i) (by omega);rw[aU z]
   cases u:xP cA y.1 o with
   |false=>
    rw[u]at t;have w:oN (xP cA) o b (y::R.drop (i+1))=oN (xP cA) o b (R.drop (i+1)):=by simp only[oN,u,pP,mD]
    obtain⟨a,e,g⟩:=I (i+1) m b G k L (by omega) (by omega) (B.trans C);refine⟨a,?_,g⟩;rw[w,←e];simp only[aMp,aWh,qS,sS,c.load,c.len,zZ,p,s,J,t,w2]
   |true=>
    rw[u]at t;have w:oN (xP cA) o b (y::R.drop (i+1))=oN (xP cA) o (max b.1 y.2,true) (R.drop (i+1)):=by simp only[oN,u,mE]
    by_cases W:b.1<y.2
    ·have E:decide ((b.1:Int)<(y.2:Int))=true:=kN (by omega);obtain⟨a,e,g⟩:=I (i+1) m (y.2,true) G k L (by omega) (by omega) (B.trans C);refine⟨a,?_,g⟩;rw[w,show max b.1 y.2=y.2 by omega,←e];simp only[aMp,aWh,qS,sS,c.load,c.len,zZ,p,s,J,t,j.load,r,zY,E,w2]
    ·have E:decide ((b.1:Int)<(y.2:Int))=false:=kO (by omega);obtain⟨a,e,g⟩:=I (i+1) m (b.1,true) G k L (by omega) (by omega) (B.trans C);refine⟨a,?_,g⟩;rw[w,show max b.1 y.2=b.1 by omega,←e];simp only[aMp,aWh,qS,sS,c.load,c.len,zZ,p,s,J,t,j.load,r,zY,E,w2]
 obtain⟨a,e,g⟩:=lp R.length 0 (R.length+1) (0,false) h (fun N O h=>bOz h N O fun K M h=>some (Value.tuple ⟨[K,M]⟩,h)) (R.length+1) (by omega) (by omega) (Ext.refl h);have e:aMp (CI D) _ (fun N O h=>bOz h N O fun K M h=>some (Value.tuple ⟨[K,M]⟩,h)) _ (iN 0) (aA n) (str o) (iU 0) (.bool false) h=_:=e;rw[mI]at e;refine⟨a,cDa (R.length+1) _ _ h (Z.no 41 _ _ (by decide)) ?_,g⟩;simp only[F41,bJy,cFp,bSj,cFo,e];rfl
end
abbrev lI (l:kC Msg):kC (kC kA):=l.map aG
structure KepD (h:H)(k:Nat)(v:kA)(l:kC Msg):Prop where
 get:h.get k=some (.cells [v] (some 0))
 lt:k<h.next
 row:GN 4 h v (lI l)
def KepD.load {h:H}{n:Nat}{v:kA}{K:kC Msg}(x:KepD h n v K):A.load false 1 (aA n) h=some v:=by rw[qK,x.get];rfl
def KepD.ext {h j:H}{n:Nat}{v:kA}{l:kC Msg}(x:KepD h n v l)(e:Ext h j):KepD j n v l:=
 ⟨by rw[e.get n x.lt];exact x.get,kT x.lt e.next,x.row.ext e⟩
def KepD.len {h:H}{n:Nat}{v:kA}{l:kC Msg}(x:KepD h n v l):A.zE v=some (iN (l.length:Int)):=by have:=x.row.len;rwa [lI,pO]at this
def tU (x:SliceE 4 h v (lI K))(d:K[i]?=some m):∃o q,A.zB 4 v (iN (i:Int))=some (.pointer (some ⟨q,o,none⟩))∧A.load true 4 (.pointer (some ⟨q,o,none⟩)) h=some (.agg ⟨aG m⟩)∧
 A.load false 1 (.pointer (some ⟨q,o,none⟩)) h=some (str m.topic):=by
 have f:(lI K)[i]?=some (aG m):=by rw[lI,pL,d];rfl
 obtain⟨id,o,cells,own,e,_,g,a,b,c⟩:=x.at f .i64;refine⟨o,id,e,?_,?_⟩
 ·rw[aI,g];simp only[ble_iff.2 a,sV,b]
 ·rw[qK,g];have:=c 0 (by omega);rwa [sS]at this
section
variable {D:CF}(Z:KD D)
include Z
def aTl (z:kC kA)(e:z.length=4)(m:Msg)(h:H):∃a d,A.box 4 (.agg ⟨z⟩) h=some (aA h.next,a)∧A.store 4 (aA h.next) (.agg ⟨aG m⟩) a=some d∧d.get h.next=some (.cells (aG m) (some 0))∧Ext h a∧Ext h d∧a.get h.next=some (.cells z (some 0))∧a.next=h.next+1:=by
 have _:=Z;obtain⟨a,b⟩:=eX (h.push (.cells z (some 0)));have g:a.get h.next=some (.cells z (some 0)):=by rw[b,H.get_push,kM rfl]
 obtain⟨d,c⟩:=eX (a.put h.next (.cells (aG m) (some 0)));have x:Ext h a:=by rw[b];exact Ext.push h _
 refine⟨a,d,?_,?_,by rw[c,H.get_put,kM rfl],x,by rw[c];exact x.put _ _ (kQ _),g,by rw[b];rfl⟩
 ·rw[aNn,b];show(match some z with|some l=>_|none=>none)=_
  rw[show Nat.beq z.length 4=true from beq_iff.2 e];rfl
 ·rw[qU,g,c];simp only[uW];rw[show Nat.beq (aG m).length 4=true from rfl,ble_iff.2 (show 0+4≤z.length by omega)];have:splice z 0 (aG m)=aG m:=by
   simp only[splice,rG,dF,sR];rw[pZ (by rw[e];exact kQ _),dD]
  rw[this];rfl
def jB {b:Nat}(g:h.get b=some (.cells (aG m) (some 0))):A.load true 4 (aA b) h=some (.agg ⟨aG m⟩):=by
 have _:=Z;rw[aI,g];rfl
def cJq (x:kB Msg):kA:=match x with
 |some m=>.tuple ⟨[.agg ⟨aG m⟩,.bool true]⟩
 |none=>.tuple ⟨[.agg ⟨aG ⟨[],[],0,false⟩⟩,.bool false]⟩
def V42 (x:KepD h n v K)(hl:K.length≤2^40)(o:Bs):∃u,CI D 42 [aA n,str o] h=some (cJq (fY K o),u)∧Ext h u:=by
 obtain⟨b,_,B,_,_,X,_,Y,n1⟩:=aTl Z TaV.Z30L rfl ⟨[],[],0,false⟩ h;have l:=x.ext X;have store:∀m:Msg,∃a,A.store 4 (aA h.next) (.agg ⟨aG m⟩) b=some a∧a.get h.next=some (.cells (aG m) (some 0))∧Ext h a:=fun m=>by
  obtain⟨C,a,f,s,g,_,j,_,_⟩:=aTl Z TaV.Z30L rfl m h;have:C=b:=by rw[B]at f;simp only[kP,kW]at f;exact f.2.symm
  subst this;exact⟨a,s,g,j⟩
 have lp:∀(d i m:Nat) (k:Pk.K2 (kA×H)) (c:Pk.K1 (kA×H)) (L:Nat),i+d=K.length→d<m→
  match fY (K.drop i) o with
  |some w=>∃a,aCs (CI D) L k c m (iN (i:Int)) (aA n) (str o) (aA h.next) b=k (aA h.next) (.bool true) a∧a.get h.next=some (.cells (aG w) (some 0))∧Ext h a
  |none=>aCs (CI D) L k c m (iN (i:Int)) (aA n) (str o) (aA h.next) b=c (aA h.next) b:=by
  intro d
  induction d with
  |zero=>
   intro i m k c L Q R;obtain⟨m,rfl⟩:=pS m (by omega);have z:decide ((i:Int)<(K.length:Int))=false:=kO (by omega);rw[pZ (by omega)];show aCs (CI D) L k c (m+1) _ _ _ _ _=_;simp only[aCs,bBj,qS,sR,l.load,l.len,zZ,z]
  |succ d S=>
   intro i m k c L Q R;obtain⟨m,rfl⟩:=pS m (by omega);have z:decide ((i:Int)<(K.length:Int))=true:=kN (by omega);obtain⟨y,N⟩:∃y,K[i]?=some y:=⟨_,kZ (by omega)⟩;obtain⟨V,q,I,U,O⟩:=tU l.row.slice N;have t:=bX y.topic o;have w2:=gQ (i:=i) (by omega);rw[aU N];unfold fY;rw[dR]
   cases J:decide (y.topic=o)with
   |true=>
    rw[J]at t;obtain⟨a,s,g,j⟩:=store y;refine⟨a,?_,g,j⟩;simp only[aCs,bBj,qS,sS,l.load,l.len,zZ,z,I,O,t,U,s]
   |false=>
    rw[J]at t;have:=S (i+1) m k c L (by omega) (by omega);unfold fY at this;have W:aCs (CI D) L k c (m+1) (iN (i:Int)) (aA n) (str o) (aA h.next) b=aCs (CI D) L k c m (iN ((i+1:Nat):Int)) (aA n) (str o) (aA h.next) b:=by
     simp only[aCs,bBj,qS,sS,l.load,l.len,zZ,z,I,O,t,w2]
    rw[W];exact this
 have q:=fun r u=>cCz (K.length+1) (aA n) (str o) h (r:=(r,u)) (Z.no 42 _ _ (by decide));have e:=lp K.length 0 (K.length+1) (fun p G h=>bnd (aPx (A.load true 4 p h) (aPx (some G) (some []))) fun E=>some (tP E,h)) (fun p h=>bOw h p fun p G h=>bnd (aPx (A.load true 4 p h) (aPx (some G) (some []))) fun E=>some (tP E,h)) (K.length+1) (by omega) (by omega);rw[mI]at e
 cases M:fY K o with
 |some w=>
  rw[M]at e;obtain⟨a,e,g,j⟩:=e;have e:aCs (CI D) _ _ _ _ (iN 0) _ _ _ b=_:=e;refine⟨a,q _ _ ?_,j⟩;simp only[F42,bDy,bOy,bIk,bOx];rw[show A.box 4 TaV.Z30 h=_ from B];simp only[qS];rw[e,jB Z g];rfl
 |none=>
  rw[M]at e;have e:aCs (CI D) _ _ _ _ (iN 0) _ _ _ b=_:=e;obtain⟨a,s,g,j⟩:=store ⟨[],[],0,false⟩;have P:A.zI TaV.Z30L []=some (.agg ⟨aG ⟨[],[],0,false⟩⟩):=rfl;refine⟨a,q _ _ ?_,j⟩;simp only[F42,bDy,bOy,bIk,bOx];rw[show A.box 4 TaV.Z30 h=_ from B];simp only[qS];rw[e];simp only[bOw,P,qS,s];rw[jB Z g];rfl
def V74 (m:Msg)(h:H):∃d,CI D 74 [.agg ⟨aG m⟩] h=some (.bool (fB cA m.topic&&decide (m.qos≤2)),d)∧Ext h d:=by
 obtain⟨a,_,c,_,_,x,_,g,_⟩:=aTl Z (aG m) rfl ⟨[],[],0,false⟩ h;obtain⟨b,e,i⟩:=U77 Z (h:=a) m.topic;have j:b.get h.next=some (.cells (aG m) (some 0)):=by rw[i.get _ (by have:=x.next;have:a.get h.next=_:=g;by_cases k:h.next<a.next;exact k;omega)];exact g
 have l:A.load false 1 (.pointer (some ⟨h.next,0,none⟩)) a=some (str m.topic):=by rw[qK,g];rfl
 have n:A.load false 1 (.pointer (some ⟨h.next,2,none⟩)) b=some (iU (m.qos:Int)):=by rw[qK,j];rfl
 have q:decide ((m.qos:Int)≤2)=decide (m.qos≤2):=mK.2 (by omega);refine⟨b,cCb 0 _ h (Z.no 74 _ _ (by decide)) ?_,x.trans i⟩
 cases f:fB cA m.topic with
 |true=>
  rw[f]at e;simp only[F74,bJn,c,qS,sR,l,e,n,cG,q,mF]
 |false=>
  rw[f]at e;simp only[F74,bJn,c,qS,sR,l,e,mG]
end
section
variable {D:CF}(Z:KD D)
include Z
def KepD.put {j h:H}{n:Nat}{v u:kA}{l K:kC Msg}(x:KepD j n v l)(B:Ext j h)(g:GN 4 h u (lI K))(s:∀i,sid u=some i→i≠n):∃a,A.store 1 (aA n) u h=some a∧KepD a n u K∧ExtBut (fun i=>i=n) j a:=by
 have _:=Z;have c:aN u=some [u]:=g.slice.cells;have b:=x.ext B;refine⟨h.put n (.cells [u] (some 0)),by rw[qU,b.get,c];rfl,⟨by rw[H.get_put,kM rfl],b.lt,?_⟩,ExtBut.put B.but n _ rfl⟩;exact g.but (S:=fun i=>i=n) (ExtBut.put ⟨kQ _,fun _ _ _=>rfl⟩ n _ rfl) s
def cMd (x:KepD h n v K)(hl:K.length≤2^30)(gb:h.get i=some (.cells (aG m) (some 0)))(hb:i<h.next)(kr:Pk.K1 (kA×H)):
 ∀(d f M:Nat) (I:H) (p:kA) (a:kC Msg) (done:Bool),f+d=K.length→d<M→Ext h I→GN 4 I p (lI a)→(∀f,sid p=some f→h.next≤f)→a.length≤2*f→
  ∃t l,aMo (CI D) L (fun x6 x3 x0 x5 I=>bDm I x0 x3 x5 x6 kr) M (iN (f:Int)) (.bool done) (aA i) (aA n) p I=kr (.bool true) t∧KepD t n l (a++fW m done (K.drop f))∧(∀f,sid l=some f→h.next≤f)∧ExtBut (fun f=>f=n) h t:=by
 intro d
 induction d with
 |zero=>
  intro f M I p a done V hn B J E ha;obtain⟨M,rfl⟩:=pS M (by omega);have g:=x.ext B;have U:decide ((f:Int)<(K.length:Int))=false:=kO (by omega);rw[pZ (by omega)]
  cases done with
  |true=>
   obtain⟨k,e1,x1,y1⟩:=x.put Z B J (fun f V e=>by have:=E f V;have:=x.lt;omega);refine⟨k,p,?_,by simpa[fW]using x1,E,y1⟩;simp only[aMo,aWb,bDm,qS,sR,g.load,g.len,zZ,U,e1]
  |false=>
   have lb:=jB Z (h:=I) (b:=i) (m:=m) (by rw[B.get i hb];exact gb);obtain⟨c,k,l,h2,O,N,j,u,s,_⟩:=aLw Z (zs:=TaV.Z30L) (n:=4) (bs:=40) rfl (by omega) (w:=.agg ⟨aG m⟩) (e:=aG m) rfl rfl J B E (by simp[lI];omega) (by simp[lI];omega);have ev:lI a++[aG m]=lI (a++[m]):=by simp[lI]
   rw[ev]at j;obtain⟨h3,e3,x3,y3⟩:=x.put Z u j (fun f V e=>by have:=s f V;have:=x.lt;omega);refine⟨h3,l,?_,by simpa[fW]using x3,s,y3⟩;simp only[aMo,aWb,bDm,qS,sR,g.load,g.len,zZ,U,lb,O,N,e3]
 |succ d ih=>
  intro f M I p a done V hn B J E ha;obtain⟨M,rfl⟩:=pS M (by omega);have g:=x.ext B;have U:decide ((f:Int)<(K.length:Int))=true:=kN (by omega);obtain⟨y,hy⟩:∃y,K[f]?=some y:=⟨_,kZ (by omega)⟩;obtain⟨k3,q,ei,l4,l0⟩:=tU g.row.slice hy;have Q:I.get i=some (.cells (aG m) (some 0)):=by rw[B.get i hb];exact gb
  have lb:=jB Z Q;have lt:=(show A.load false 1 (aA i) I=some (str m.topic) by rw[qK,Q];rfl);have e9:=aNt y.topic m.topic;have e8:=gZ y.topic m.topic;have w2:=gQ (i:=f) (by omega);rw[aU hy];have s1:∃k v1,(∀W:Pk.K5 (kA×H),bDd I (aA n) (aA i) p (.bool done) (iN (f:Int)) W=W (iN (f:Int)) (.bool (done||decide (m.topic<y.topic))) (aA i) (aA n) v1 k)∧Ext h k∧GN 4 k v1 (lI (a++if(!done&&decide (m.topic<y.topic))=true then[m]else[]))∧∀f,sid v1=some f→h.next≤f:=by
   cases done with
   |true=>
    refine⟨I,p,fun W=>?_,B,by simpa using J,E⟩;simp only[bDd,bFs,bFr,qS,tL]
   |false=>
    cases C:decide (m.topic<y.topic)with
    |false=>
     rw[C]at e9;refine⟨I,p,fun W=>?_,B,by simpa using J,E⟩;simp only[bDd,bFs,bFr,qS,sS,g.load,ei,l0,lt,e9,Bool.or_false]
    |true=>
     rw[C]at e9;obtain⟨c,k,l,h2,O,N,j,u,s,_⟩:=aLw Z (zs:=TaV.Z30L) (n:=4) (bs:=40) rfl (by omega) (w:=.agg ⟨aG m⟩) (e:=aG m) rfl rfl J B E (by simp[lI];omega) (by simp[lI];omega);have ev:lI a++[aG m]=lI (a++[m]):=by simp[lI]
     rw[ev]at j;refine⟨h2,l,fun W=>?_,u,by simpa using j,s⟩;simp only[bDd,bFs,bFr,qS,sS,g.load,ei,l0,lt,e9,lb,O,N,dA]
  obtain⟨k,v1,e1,o,r,a3⟩:=s1;obtain⟨b,z⟩:=eX (a++if(!done&&decide (m.topic<y.topic))=true then[m]else[])
  rw[←z]at r;have j3:b.length≤2*f+1:=by
   rw[z,kX];split<;>simp<;>omega
  have G:=x.ext o;obtain⟨i3,q1,P,f3,X⟩:=tU G.row.slice hy;have R:k.get i=some (.cells (aG m) (some 0)):=by rw[o.get i hb];exact gb
  have Y:=(show A.load false 1 (aA i) k=some (str m.topic) by rw[qK,R];rfl);have b3:a++fW m done (y::K.drop (f+1))=b++((if y.topic=m.topic then[]else[y])++fW m (done||decide (m.topic<y.topic)) (K.drop (f+1))):=by
   rw[z];simp only[fW,sH]
  rw[b3]
  cases C:decide (y.topic=m.topic)with
  |true=>
   rw[C]at e8;rw[kM (tE C)];obtain⟨t,l,e,r1,r2,r3⟩:=ih (f+1) M k v1 b (done||decide (m.topic<y.topic)) (by omega) (by omega) o r a3 (by omega);refine⟨t,l,?_,by simpa using r1,r2,r3⟩;rw[←e];simp only[aMo,aWb,bIp,qS,sR,g.load,g.len,zZ,U,e1];simp only[bOq,bOp,bFq,qS,sS,G.load,P,X,Y,e8,w2]
  |false=>
   rw[C]at e8;rw[kL (of_decide_eq_false C)];obtain⟨c,h2,v2,h3,O,N,S,d3,g3,_⟩:=aLw Z (zs:=TaV.Z30L) (n:=4) (bs:=40) rfl (by omega) (w:=.agg ⟨aG y⟩) (e:=aG y) rfl rfl r o a3 (by simp[lI];omega) (by simp[lI];omega);have ev:lI b++[aG y]=lI (b++[y]):=by simp[lI]
   rw[ev]at S;obtain⟨t,l,e,r1,r2,r3⟩:=ih (f+1) M h3 v2 (b++[y]) (done||decide (m.topic<y.topic)) (by omega) (by omega) d3 S g3 (by simp;omega);refine⟨t,l,?_,by simpa using r1,r2,r3⟩;rw[←e];simp only[aMo,aWb,bIp,qS,sR,g.load,g.len,zZ,U,e1];simp only[bOq,bOp,bFq,qS,sS,G.load,P,X,Y,e8,f3,O,N,w2]
def V54 (x:KepD h n v K)(I:K.length≤2^30)(m:Msg):
 ∃c w,CI D 54 [aA n,.agg ⟨aG m⟩] h=some (.bool (fB cA m.topic&&decide (m.qos≤2)),c)∧KepD c n w (if(fB cA m.topic&&decide (m.qos≤2))=true then xY K m else K)∧(∀i,sid w=some i→sid v=some i∨h.next≤i)∧ExtBut (fun i=>i=n) h c:=by
 obtain⟨E,_,o,_,_,l,_,p,U⟩:=aTl Z (aG m) rfl ⟨[],[],0,false⟩ h;have u:=jB Z p;obtain⟨d,g,f⟩:=V74 Z m E;have q:=fun r c=>cCp (K.length+1) (aA n) (.agg ⟨aG m⟩) h (r:=(r,c)) (Z.no 54 _ _ (by decide))
 cases t:(fB cA m.topic&&decide (m.qos≤2))with
 |false=>
  rw[t]at g;refine⟨d,v,q _ _ ?_,x.ext (l.trans f),fun i e=>.inl e,(l.trans f).but⟩;simp only[F54,bDx,bRo,o,qS,u,g]
 |true=>
  rw[t]at g;have C:d.get h.next=some (.cells (aG m) (some 0)):=by rw[f.get _ (by omega)];exact p
  obtain⟨h3,a⟩:∃h3,h3=d.put h.next (.cells (aG {m with retain:=true}) (some 0)):=⟨_,rfl⟩;have y:A.store 1 (.pointer (some ⟨h.next,3,none⟩)) (.bool true) d=some h3:=by rw[qU,C,a];rfl
  have s:h3.get h.next=some (.cells (aG {m with retain:=true}) (some 0)):=by rw[a,H.get_put,kM rfl]
  have j:Ext h h3:=by rw[a];exact(l.trans f).put _ _ (kQ _)
  have V:h3.next=d.next:=by rw[a];rfl
  have J:A.load false 1 (.pointer (some ⟨h.next,1,none⟩)) h3=some (str m.payload):=by rw[qK,s];rfl
  have B:A.z prog .eql 9 (str m.payload) (.string ⟨⟨[]⟩⟩)=_:=bX m.payload [];have P:=f.next;obtain⟨G,N,k,b,M,S⟩:=cMd Z (x.ext j) I s (by omega) (fun b h=>some (b,h)) (L:=K.length+1) K.length 0 (K.length+1) h3 eJ [] (decide (m.payload=[])) (by omega) (by omega) (Ext.refl h3) (GN.nil 4 h3) (fun i e=>by cases e) (by simp);have k:aMo (CI D) _ (fun R j O Q h=>bDm h O j Q R fun b h=>some (b,h)) _ (iN 0) (.bool (decide (m.payload=[]))) (aA h.next) (aA n) (.slice none 0 0) h3=_:=k;refine⟨G,N,q _ _ ?_,?_,fun i e=>.inr (by have:=M i e;omega),j.but.trans S⟩
  ·simp only[F54,bDx,bRo,o,qS,u,g,sR,y,J,B,bSz,cFd,k]
  ·rw[kM rfl];rw[dF,mI]at b;exact b
end
abbrev SP:=cO×Nat
variable {Z:kC SP}
def fA (z:SP):kC kA:=[str z.1.client,iN z.1.conn,.bool z.1.clean,aA z.2]
abbrev eB (Z:kC SP):kC (kC kA):=Z.map fA
structure ModR (P:Nat→Prop)(h:H)(p k:Nat)(Z:kC SP)(kept:kC Msg):Prop where
 box:∃v w,h.get p=some (.cells [v,aA k] (some 0))∧GN 4 h v (eB Z)∧KepD h k w kept∧(∀i,sid v=some i→P i∧sid w≠some i)∧∀i,sid w=some i→P i
 lst:∀z∈Z,∃v,LstD h z.2 v z.1.row∧P z.2∧∀i,sid v=some i→P i
 ndup:(Z.map (·.2)).Nodup
 nk:k∉Z.map (·.2)
 pp:P p∧p<h.next
 pk:P k
def ModR.same {P P':Nat→Prop}{h j:H}{n i:Nat}{Z:kC SP}{kept:kC Msg}(x:ModR P h n i Z kept)(d:h.next≤j.next)(g:∀b,P b→b<h.next→j.get b=h.get b)(c:∀b,P b→b<h.next→P' b):ModR P' j n i Z kept:=by
 obtain⟨v,w,o,e,c1,f,c2⟩:=x.box;refine⟨⟨v,w,by rw[g n x.pp.1 x.pp.2];exact o,e.same d fun b a=>g b (f b a).1 (e.slice.sid_lt b a),⟨by rw[g i x.pk c1.lt];exact c1.get,kT c1.lt d,c1.row.same d fun b a=>g b (c2 b a) (c1.row.slice.sid_lt b a)⟩,fun b a=>⟨c b (f b a).1 (e.slice.sid_lt b a),(f b a).2⟩,fun b a=>c b (c2 b a) (c1.row.slice.sid_lt b a)⟩,fun z p=>?_,x.ndup,x.nk,⟨c n x.pp.1 x.pp.2,kT x.pp.2 d⟩,c i x.pk c1.lt⟩;obtain⟨u,l,k,m⟩:=x.lst z p;exact⟨u,⟨by rw[g _ k l.lt];exact l.get,kT l.lt d,l.row.same d fun b a=>g b (m b a) (l.row.slice.sid_lt b a)⟩,c _ k l.lt,fun b a=>c b (m b a) (l.row.slice.sid_lt b a)⟩
def ModR.ext {p:Nat}(x:ModR P h p n Z kept)(e:Ext h j):ModR P j p n Z kept:=
 x.same e.next (fun i _ a=>e.get i a) fun _ h _=>h
def oM (Z:kC SP)(c:Bs):kB Nat:=Z.findIdx? fun z=>decide (z.1.client=c)
def lD (x:SliceE 4 h v (eB Z)){z:SP}(l:Z[i]?=some z):∃o q,A.zB 4 v (iN (i:Int))=some (.pointer (some ⟨q,o,none⟩))∧A.load true 4 (.pointer (some ⟨q,o,none⟩)) h=some (.agg ⟨fA z⟩)∧
 A.load false 1 (.pointer (some ⟨q,o,none⟩)) h=some (str z.1.client)∧A.load false 1 (.pointer (some ⟨q,o+1,none⟩)) h=some (iN z.1.conn)∧A.load false 1 (.pointer (some ⟨q,o+2,none⟩)) h=some (.bool z.1.clean)∧A.load false 1 (.pointer (some ⟨q,o+3,none⟩)) h=some (aA z.2)∧sid v=some q:=by
 have d:(eB Z)[i]?=some (fA z):=by rw[eB,pL,l];rfl
 obtain⟨id,o,cells,own,a,_,g,f,j,b⟩:=x.at d .i64;refine⟨o,id,a,?_,?_,?_,?_,?_,?_⟩
 ·rw[aI,g];simp only[ble_iff.2 f,sV,j]
 ·rw[qK,g];have:=b 0 (by omega);rwa [sS]at this
 ·rw[qK,g];exact b 1 (by omega)
 ·rw[qK,g];exact b 2 (by omega)
 ·rw[qK,g];exact b 3 (by omega)
 ·rcases x.2 with⟨rfl,e⟩|⟨id',off',c,rfl,_⟩
  ·rw[e]at d;simp at d
  ·have k:=(pX.1 d).1;rw[lW 4 id' off' _ c i .i64 k]at a;simp only[kP,Value.pointer.injEq,Addr.mk.injEq,and_true]at a;rw[←a.1];rfl
def aR (g:h.get n=some (.cells [v,aA i] (some 0))):A.load false 1 (aA n) h=some v∧A.load false 1 (.pointer (some ⟨n,1,none⟩)) h=some (aA i):=by
 constructor<;>(rw[qK,g];rfl)
section
variable {D:CF}(Y:KD D)
include Y
def V55 (g:h.get n=some (.cells [v,aA i] (some 0)))(r:GN 4 h v (eB Z))(G:Z.length≤2^40)(c:Bs):
 CI D 55 [aA n,str c] h=some (iN (match oM Z c with|some a=>(a:Int)|none=> -1),h):=by
 have ld:=(aR g).1;have o:A.zE v=some (iN (Z.length:Int)):=by have:=r.len;rwa [eB,pO]at this
 have lp:∀(d a m:Nat) (k:Pk.K1 (kA×H)) (b:Pk.K0 (kA×H)) (L:Nat),a+d=Z.length→d<m→aQo (CI D) L k b m (iN (a:Int)) (str c) (aA n) h=match oM (Z.drop a) c with|some j=>k (iN ((a+j:Nat):Int)) h|none=>b h:=by
  intro d
  induction d with
  |zero=>
   intro a m k b L w B;obtain⟨m,rfl⟩:=pS m (by omega);have l:decide ((a:Int)<(Z.length:Int))=false:=kO (by omega);rw[pZ (by omega)];simp only[aQo,bBe,qS,sR,ld,o,zZ,l];rfl
  |succ d C=>
   intro a m k b L w B;obtain⟨m,rfl⟩:=pS m (by omega);have l:decide ((a:Int)<(Z.length:Int))=true:=kN (by omega);obtain⟨y,t⟩:∃y,Z[a]?=some y:=⟨_,kZ (by omega)⟩;obtain⟨E,q,p,_,u,_⟩:=lD r.slice t;have f:=bX y.1.client c;have w2:=gQ (i:=a) (by omega);have e:=C (a+1) m k b L (by omega) (by omega);rw[aU t];unfold oM at e⊢;rw[List.findIdx?_cons]
   cases s:decide (y.1.client=c)with
   |true=>
    rw[s]at f;simp only[aQo,bBe,qS,sS,ld,o,zZ,l,p,u,f,mE]
   |false=>
    rw[s]at f;simp only[aQo,bBe,qS,sS,ld,o,zZ,l,p,u,f,w2,e,pP,mD]
    cases List.findIdx? (fun z:SP=>decide (z.1.client=c)) (List.drop (a+1) Z)with
    |none=>rfl
    |some j=>simp only[mA];rw[show a+1+j=a+(j+1) by omega]
 have e:=lp Z.length 0 (Z.length+1) (fun x h=>some (x,h)) (fun h=>bOo h fun x h=>some (x,h)) (Z.length+1) (by omega) (by omega);have e:aQo (CI D) _ (fun x h=>some (x,h)) (fun h=>bOo h fun x h=>some (x,h)) _ (iN 0) (str c) (aA n) h=_:=e;rw[mI]at e;refine cCo (Z.length+1) _ _ h (Y.no 55 _ _ (by decide)) ?_;simp only[F55,bJt,cFc,bSe,cFb,e]
 cases oM Z c with
 |none=>rfl
 |some j=>simp only[sR]
def V32 (h:H):∃e p k,CI D 32 [] h=some (aA p,e)∧ModR (fun i=>h.next≤i) e p k [] []∧Ext h e:=by
 obtain⟨c,b⟩:=eX (h.push (.cells [eJ] (some 0)));obtain⟨d,a⟩:=eX (c.push (.cells [eJ,aA h.next] (some 0)));have o:c.next=h.next+1:=by rw[b];rfl
 have q:d.next=c.next+1:=by rw[a];rfl
 have g:A.zI TaV.Z92L []=some (.agg ⟨[eJ]⟩):=rfl;have j:A.box 1 (.agg ⟨[eJ]⟩) h=some (aA h.next,c):=by rw[b];rfl
 have l:A.zI TaV.Z86L [(1,1,aA h.next)]=some (.agg ⟨[eJ,aA h.next]⟩):=rfl;have m:A.box 2 (.agg ⟨[eJ,aA h.next]⟩) c=some (aA c.next,d):=by rw[a];rfl
 have x:Ext h d:=by
  rw[a];refine Ext.pushed ?_ _;rw[b];exact Ext.push h _
 refine⟨d,c.next,h.next,cDj 0 h (Y.no 32 _ _ (by decide)) ?_,⟨⟨eJ,eJ,by rw[a,H.get_push,kM rfl],GN.nil 4 d,⟨by rw[a,H.get_push,kL (by omega),b,H.get_push,kM rfl],by omega,GN.nil 4 d⟩,fun i f=>by(cases f),fun i f=>by cases f⟩,fun z n=>by(cases n),List.nodup_nil,by simp,⟨by omega,by omega⟩,kQ _⟩,x⟩;simp only[F32,bTu,g,j,l,m,qS]
def V56 (hP:∀i,h.next≤i→P i)(x:ModR P h n k Z kept)(hZ:Z.length≤2^30)(hi:i<Z.length):
 ∃L,CI D 56 [aA n,iN (i:Int)] h=some (.tuple ⟨[]⟩,L)∧ModR P L n k (Z.eraseIdx i) kept∧ExtBut (fun j=>j=n) h L:=by
 obtain⟨v,c,E,I,c1,b3,c2⟩:=x.box;have hl:(eB Z).length=Z.length:=by simp[eB]
 have ld:=(aR E).1;obtain⟨w,ew,sw,_⟩:=I.cut (a:=i) (by omega);obtain⟨u,M,X,g1,s1,S,_⟩:=fS (bs:=40) (GN.nil 4 h) sw (by omega) (by simp[eB];omega) (by simp[eB];omega);have R:∀j,sid u=some j→h.next≤j:=fun j b=>by
  rcases s1 j b with h|h
  ·cases h
  ·exact h
 have q:Ext h M:=⟨S.next,fun j b=>S.get j b (fun e=>by cases e)⟩;have G:M.get n=some (.cells [v,aA k] (some 0)):=by rw[q.get n x.pp.2];exact E
 have N:=(aR G).1;have wi:=gQ (i:=i) (by omega);obtain⟨z,ez,sz,_⟩:=I.tail (a:=i+1) (by omega);have J:=ez M fun j b=>q.get j (I.slice.sid_lt j b);obtain⟨t,p,e2,K,s2,U,_⟩:=fS (bs:=40) g1 (sz.ext q) (by omega) (by simp[eB];omega) (by simp[eB];omega);have O:∀j,sid t=some j→h.next≤j:=fun j b=>by
  rcases s2 j b with h|h
  ·exact R j h
  ·have:=q.next;omega
 have B:Ext h p:=⟨by have:=q.next;have:=U.next;omega,fun j b=>by rw[U.get j (by have:=q.next;omega) (fun e=>by have:=R j e;omega)];exact q.get j b⟩;have ev:([]:kC (kC kA))++(eB Z).take i++(eB Z).drop (i+1)=eB (Z.eraseIdx i):=by
  rw[List.eraseIdx_eq_take_drop_succ];simp[eB]
 rw[ev]at K;have W:aN t=some [t]:=K.slice.cells;have m:p.get n=some (.cells [v,aA k] (some 0)):=by rw[B.get n x.pp.2];exact E
 obtain⟨h3,d⟩:=eX (p.put n (.cells [t,aA k] (some 0)));have e3:A.store 1 (aA n) t p=some h3:=by rw[qU,m,W,d];rfl
 have xm:=x.ext B;have V:=c1;have c1:=c1.ext B;have C:ExtBut (fun j=>j=n) p h3:=by rw[d];exact ExtBut.put ⟨kQ _,fun _ _ _=>rfl⟩ n _ rfl
 have Q:h3.next=p.next:=by rw[d];rfl
 have f:∀j,j≠n→h3.get j=p.get j:=fun j b=>by rw[d,H.get_put,kL b]
 have s:(Z.eraseIdx i).Sublist Z:=List.eraseIdx_sublist Z i;have y:∀{l:Nat} {u:kA},p.get l=some (.cells [u] (some 0))→l≠n:=fun{l u} g e=>by rw[e,m]at g;cases g
 refine⟨h3,cCn 0 _ _ h (Y.no 56 _ _ (by decide)) ?_,⟨⟨t,c,by rw[d,H.get_put,kM rfl],K.but C (fun j b e=>by have:=O j b;have:=x.pp.2;omega),⟨by rw[f _ (y c1.get)];exact c1.get,by rw[Q];exact c1.lt,c1.row.but C (fun j b e=>c1.row.own (l:=n) m (by simp) (by rw[b,e]))⟩,fun j b=>⟨hP j (O j b),fun e=>by have:=O j b;have:=V.row.slice.sid_lt j e;omega⟩,c2⟩,fun z hz=>?_,x.ndup.sublist (s.map _),fun hk=>x.nk ((s.map _).subset hk),⟨x.pp.1,by have:=x.pp.2;have:=B.next;omega⟩,x.pk⟩,?_⟩
 ·simp only[F56,bTp,qS,sR,ld,ew,X,N,wi,J,e2,e3]
 ·obtain⟨o,r,l2,l3⟩:=xm.lst z (s.subset hz);exact⟨o,⟨by rw[f _ (y r.get)];exact r.get,by rw[Q];exact r.lt,r.row.but C (fun j b e=>r.row.own (l:=n) m (by simp) (by rw[b,e]))⟩,l2,l3⟩
 ·exact B.but.trans C
def ModR.add (hP:∀M,h.next≤M→P M)(x:ModR P h i l Z kept)(hZ:Z.length≤2^30){s:cO}(hl:LstD h k u s.row)(V:P k)(W:∀M,sid u=some M→P M)(nl:k∉Z.map (·.2))(nk:k≠l):
 ∃v b B r m h3,A.load false 1 (aA i) h=some v∧A.zC 4 1 TaV.Z89L [(0,4,.agg ⟨fA (s,k)⟩)] h=some (b,B)∧A.zF 4 40 v b B=some (r,m)∧A.store 1 (aA i) r m=some h3∧ModR P h3 i l (Z++[(s,k)]) kept∧ExtBut P h h3:=by
 have _:=Y;obtain⟨v,w,t,I,c1,Q,c2⟩:=x.box;have a3:(eB Z).length=Z.length:=by simp[eB]
 have ld:=(aR t).1;have C:=aX (n:=4) (zs:=TaV.Z89L) (v:=.agg ⟨fA (s,k)⟩) (vs:=fA (s,k)) h rfl rfl rfl;have U:=fQ (h:=h) (n:=4) (vs:=fA (s,k)) rfl;obtain⟨B,E⟩:=eX (h.push (.cells (fA (s,k)) (some 4)));rw[←E]at C U;have O:Ext h B:=E▸Ext.push h _;have n1:=O.next;obtain⟨r,m,ea,L,s2,y2,sn⟩:=fS (bs:=40) (I.ext O) U (by omega) (by simp;omega) (by simp;omega);have N:∀j,sid r=some j→h.next≤j:=fun j d=>by have:=sn (by simp) j d;omega
 rw[show eB Z++[fA (s,k)]=eB (Z++[(s,k)]) by simp[eB]]at L;have y:ExtBut (fun M=>sid v=some M) h m:=O.but.trans y2;have n2:=y.next;have pv:sid v≠some i:=I.own t (by simp);have K:m.get i=some (.cells [v,aA l] (some 0)):=by rw[y.get i x.pp.2 pv];exact t
 have X:aN r=some [r]:=L.slice.cells;obtain⟨h3,f⟩:=eX (m.put i (.cells [r,aA l] (some 0)));have e3:A.store 1 (aA i) r m=some h3:=by rw[qU,K,X,f];rfl
 have n3:h3.next=m.next:=by rw[f];rfl
 have fW:∀j,j<h.next→j≠i→sid v≠some j→h3.get j=h.get j:=fun j d J hv=>by rw[f,H.get_put,kL J,y.get j d hv]
 have p:∀{o:Nat} {u:kA},h.get o=some (.cells [u] (some 0))→o≠i∧sid v≠some o:=fun{o u} g=>⟨fun e=>by(rw[e,t]at g;cases g),I.own g (by simp)⟩;have bY:∀{o:Nat} {u:kA} {row:Row},LstD h o u row→LstD h3 o u row:=fun{o u row} a=>by
  obtain⟨q1,q2⟩:=p a.get;refine⟨by rw[fW o a.lt q1 q2];exact a.get,by have:=a.lt;omega,a.row.same (by omega) fun j d=>fW j (a.row.slice.sid_lt j d) (fun e=>a.row.own t (by simp) (by rw[d,e])) fun e=>?_⟩;rcases a.row with⟨rfl,_⟩|⟨_,q,c,rfl,_,_,hg⟩
  ·cases d
  ·obtain rfl:=pB d;exact I.own hg (by simp) e
 refine⟨v,_,B,r,m,h3,ld,C,ea,e3,⟨⟨r,w,by rw[f,H.get_put,kM rfl],L.but (S:=fun j=>j=i) (by rw[f];exact ExtBut.put ⟨kQ _,fun _ _ _=>rfl⟩ i _ rfl) (fun j d e=>by have:=N j d;have:=x.pp.2;omega),⟨by rw[fW l c1.lt (p c1.get).1 (p c1.get).2];exact c1.get,by have:=c1.lt;omega,c1.row.same (by omega) fun j d=>fW j (c1.row.slice.sid_lt j d) (fun e=>c1.row.own t (by simp) (by rw[d,e])) fun e=>(Q j e).2 d⟩,fun j d=>⟨hP j (N j d),fun e=>by have:=N j d;have:=c1.row.slice.sid_lt j e;omega⟩,c2⟩,fun z G=>?_,?_,?_,⟨x.pp.1,by have:=x.pp.2;omega⟩,x.pk⟩,⟨by omega,fun j d J=>fW j d (fun e=>J (e▸x.pp.1)) fun e=>J (Q j e).1⟩⟩
 ·rcases mP.1 G with G|G
  ·obtain⟨o,l1,l2,l3⟩:=x.lst z G;exact⟨o,bY l1,l2,l3⟩
  ·rw[mC.1 G];exact⟨u,bY hl,V,W⟩
 ·rw[rJ];exact List.nodup_append.2 ⟨x.ndup,by simp,fun a ha b R e=>by rw[List.map_singleton,mC]at R;exact nl (by have e2:a=k:=e.trans R;rw[←e2];exact ha)⟩
 ·rw[rJ,mP];rintro(h|h)
  ·exact x.nk h
  ·rw[List.map_singleton,mC]at h;exact nk h.symm
end
abbrev iW (Z:kC SP)(kept:kC Msg):MD:=⟨Z.map (·.1),kept⟩
def wH (r:Row):Prop:=r.length≤16∧∀y∈r,y.1.length≤2^40
def lB (Z:kC SP):Prop:=∀z∈Z,wH z.1.row
def uS :oM Z B=none→bO (Z.map (·.1)) B=none:=by
 induction Z with
 |nil=>intro _;rfl
 |cons y Z i=>
  unfold oM bO at*;rw[List.findIdx?_cons,mH,dR]
  cases decide (y.1.client=B)with
  |true=>intro h;simp at h
  |false=>
   simp only[pP,mD,Option.map_eq_none_iff];exact i
def uR :oM Z B=some n→∃z,Z[n]?=some z∧z.1.client=B∧bO (Z.map (·.1)) B=some z.1∧lO (Z.map (·.1)) B=(Z.eraseIdx n).map (·.1)∧∀(f:cO→cO) l,tZ (Z.map (·.1)) B f=(Z.set n (f z.1,l)).map (·.1):=by
 induction Z generalizing n with
 |nil=>intro h;cases h
 |cons y Z i=>
  unfold oM bO at*;rw[List.findIdx?_cons,mH,dR];by_cases c:y.1.client=B
  ·rw[kN c];intro h;simp only[mE,kP]at h;subst h;exact⟨y,rfl,c,rfl,by simp only[lO,kM c];rfl,fun f l=>by simp only[tZ,kM c];rfl⟩
  ·rw[kO c];simp only[pP,mD,sZ];rintro⟨j,g,rfl⟩;obtain⟨z,a,b,h3,d,e⟩:=i g;refine⟨z,by rw[pN];exact a,b,h3,?_,fun f l=>?_⟩
   ·simp only[lO,kL c];rw[d];rfl
   ·simp only[tZ,kL c];rw[e f l];rfl
section
variable {p:Nat}
def ModR.row (M:∀i,h.next≤i→P i)(x:ModR P h p k Z kept){i:Nat}{z:SP}(d:Z[i]?=some z){j:H}{u v:kA}{r:Row}(o:LstD h z.2 v z.1.row)(l:LstD j z.2 u r)(W:∀b,sid u=some b→sid v=some b∨h.next≤b)(e:ExtBut (fun b=>b=z.2) h j):
 ModR P j p k (Z.set i ({z.1 with row:=r},z.2)) kept∧ExtBut P h j:=by
 obtain⟨X,w,s,I,c1,L,c2⟩:=x.box;have J:=sY d;have c:=(pX.1 d).1;obtain⟨Y,U,K,V⟩:=x.lst z J;have O:Y=v:=by have:=U.get;rw[o.get]at this;simp at this;exact this.symm
 subst O;have E:p≠z.2:=fun q=>by rw[q,o.get]at s;cases s
 have C:k≠z.2:=fun q=>x.nk (by rw[q];exact mN J);have keep:∀b,b<h.next→b≠z.2→j.get b=h.get b:=fun b a n=>e.get b a n;have snd:(Z.set i ({z.1 with row:=r},z.2)).map (·.2)=Z.map (·.2):=by
  rw[List.map_set];refine mT fun b=>?_;rw[rE];split
  ·rename_i e;subst e;rw[pL,d];simp[c]
  ·rfl
 have seats:eB (Z.set i ({z.1 with row:=r},z.2))=eB Z:=by
  rw[eB,eB,List.map_set];refine mT fun b=>?_;rw[rE];split
  ·rename_i e;subst e;rw[pL,d];simp[c,fA]
  ·rfl
 refine⟨⟨⟨X,w,by rw[keep p x.pp.2 E];exact s,by rw[seats];exact I.but e (fun b a q=>I.own o.get (by simp) (by rw[a,q])),⟨by rw[keep k c1.lt C];exact c1.get,kT c1.lt e.next,c1.row.but e (fun b a q=>c1.row.own o.get (by simp) (by rw[a,q]))⟩,L,c2⟩,fun y Q=>?_,by rw[snd];exact x.ndup,by rw[snd];exact x.nk,⟨x.pp.1,kT x.pp.2 e.next⟩,x.pk⟩,⟨e.next,fun b a N=>keep b a fun q=>N (q▸K)⟩⟩;obtain⟨b,a⟩:=mM.1 Q;rw[rE]at a;split at a
 ·obtain rfl:=pB a;exact⟨u,l,K,fun b a=>(W b a).elim (V b) (M b)⟩
 ·rename_i n;obtain⟨t,m,R,S⟩:=x.lst y (sY a);have G:y.2≠z.2:=fun q=>by
   have f:=(pX.1 a).1;have:=List.nodup_iff_pairwise_ne.1 x.ndup;have g:=List.pairwise_iff_getElem.1 this;rcases Nat.lt_or_gt_of_ne n with D|B
   ·exact g i b (by simpa using c) (by simpa using f) D (by simp only[List.getElem_map];rw[(pX.1 d).2,(pX.1 a).2,q])
   ·exact g b i (by simpa using f) (by simpa using c) B (by simp only[List.getElem_map];rw[(pX.1 d).2,(pX.1 a).2,q])
  exact⟨t,⟨by rw[keep _ m.lt G];exact m.get,kT m.lt e.next,m.row.but e (fun b a q=>m.row.own o.get (by simp) (by rw[a,q]))⟩,R,S⟩
def ModR.kep (z:∀i,h.next≤i→P i)(x:ModR P h p k Z kept)(o:KepD h k v kept)(n:KepD j k u K)(s:∀b,sid u=some b→sid v=some b∨h.next≤b)(e:ExtBut (fun b=>b=k) h j):ModR P j p k Z K∧ExtBut P h j:=by
 obtain⟨G,w,c,d,c1,m,c2⟩:=x.box;have C:w=v:=by have:=o.get;rw[c1.get]at this;simp at this;exact this
 subst C;have f:p≠k:=fun q=>by rw[q,o.get]at c;cases c
 refine⟨⟨⟨G,u,by rw[e.get p x.pp.2 f];exact c,d.but e (fun b a q=>d.own o.get (by simp) (by rw[a,q])),n,fun b a=>⟨(m b a).1,fun q=>(s b q).elim (m b a).2 fun q=>by have:=d.slice.sid_lt b a;omega⟩,fun b a=>(s b a).elim (c2 b) (z b)⟩,fun y r=>?_,x.ndup,x.nk,⟨x.pp.1,kT x.pp.2 e.next⟩,x.pk⟩,⟨e.next,fun b a B=>e.get b a fun q=>B (q▸x.pk)⟩⟩;obtain⟨t,l,D,E⟩:=x.lst y r;have g:y.2≠k:=fun q=>x.nk (by rw[←q];exact mN r);exact⟨t,⟨by rw[e.get _ l.lt g];exact l.get,kT l.lt e.next,l.row.but e (fun b a q=>l.row.own o.get (by simp) (by rw[a,q]))⟩,D,E⟩
def ModR.off (x:ModR P h p k Z kept){z:SP}(C:Z[i]?=some z):∃v q f b,A.load false 1 (aA p) h=some v∧A.zB 4 v (iN (i:Int))=some (.pointer (some ⟨q,f,none⟩))∧A.store 1 (.pointer (some ⟨q,f+1,none⟩)) (iN 0) h=some b∧A.load false 1 (aA p) b=some v∧
 A.load false 1 (.pointer (some ⟨q,f+2,none⟩)) b=some (.bool z.1.clean)∧ModR P b p k (Z.set i ({z.1 with conn:=0},z.2)) kept∧ExtBut P h b:=by
 obtain⟨v,w,D,S,c1,E,c2⟩:=x.box;have V:=sY C;have s:=(pX.1 C).1;have I:(eB Z)[i]?=some (fA z):=by rw[eB,pL,C];rfl
 rcases S with⟨rfl,e⟩|gv
 ·rw[e]at I;simp at I
 obtain⟨q,f,b,M,U,l,y,R,X,N,_⟩:=gv.put (w:=iN 0) I (show 1<4 by omega) rfl;have ev:(eB Z).set i ((fA z).set 1 (iN 0))=eB (Z.set i ({z.1 with conn:=0},z.2)):=by
  rw[eB,eB,List.map_set];rfl
 rw[ev]at l;have snd:(Z.set i ({z.1 with conn:=0},z.2)).map (·.2)=Z.map (·.2):=by
  rw[List.map_set];refine mT fun j=>?_;rw[rE];split
  ·rename_i e;subst e;rw[pL,C];simp[s]
  ·rfl
 have n:∀{j:Nat} {cs:kC kA},h.get j=some (.cells cs (some 0))→j≠q:=fun{j cs} g e=>by rw[e,N]at g;cases g
 have r:b.get p=some (.cells [v,aA k] (some 0)):=by rw[y.get p x.pp.2 (n D)];exact D
 have bY:∀{o:Nat} {u:kA} {row:Row},LstD h o u row→LstD b o u row:=fun{o u row} a=>⟨by rw[y.get o a.lt (n a.get)];exact a.get,by have:=a.lt;omega,a.row.but y fun j m e=>by
  rcases a.row with⟨rfl,_⟩|⟨_,Q,c,rfl,_,_,hg⟩
  ·cases m
  ·obtain rfl:=pB m;have e:Q=q:=e;rw[e,N]at hg;simp at hg⟩
 have L:(Z.set i ({z.1 with conn:=0},z.2))[i]?=some ({z.1 with conn:=0},z.2):=by rw[rE];simp[s]
 obtain⟨O,Q,d,_,_,_,B,_⟩:=lD l.slice L;rw[M]at d;simp only[kP,Value.pointer.injEq,Addr.mk.injEq,and_true]at d;obtain⟨rfl,rfl⟩:=d;refine⟨v,q,f,b,(aR D).1,M,U,(aR r).1,B,⟨⟨v,w,r,.inr l,⟨by rw[y.get k c1.lt (n c1.get)];exact c1.get,by have:=c1.lt;omega,c1.row.but y fun j m e=>(E q R).2 (by rw[←e];exact m)⟩,E,c2⟩,fun t G=>?_,by rw[snd];exact x.ndup,by rw[snd];exact x.nk,⟨x.pp.1,by have:=x.pp.2;omega⟩,x.pk⟩,⟨y.next,fun j m W=>y.get j m fun e=>W (e▸(E q R).1)⟩⟩;rcases List.mem_or_eq_of_mem_set G with G|rfl
 ·obtain⟨u,J,B,K⟩:=x.lst t G;exact⟨u,bY J,B,K⟩
 ·obtain⟨u,J,B,K⟩:=x.lst z V;exact⟨u,bY J,B,K⟩
end
section
variable {D:CF}(Y:KD D)
include Y
def V36 {p:Nat}(x:ModR P h p k Z kept)(L:Z.length≤2^30)(J:lB Z)(c n:Bs):
 ∃a,CI D 36 [aA p,str c,str n] h=some (.tuple ⟨[iU ((bD (xP cA) (iW Z kept) c n).1:Int),.bool (bD (xP cA) (iW Z kept) c n).2]⟩,a)∧Ext h a:=by
 obtain⟨v,w,s,t,_⟩:=x.box;have e:=V55 Y s t (by omega) c;have q:=fun r a=>cDf 0 (aA p) (str c) (str n) h (r:=(r,a)) (Y.no 36 _ _ (by decide));unfold bD
 cases f:oM Z c with
 |none=>
  rw[f]at e;rw[uS f];have d:decide ((-1:Int)<0)=true:=by decide
  refine⟨h,q _ _ ?_,Ext.refl h⟩;simp only[F36,bKc,e,qS,zZ,d];rfl
 |some i=>
  rw[f]at e;obtain⟨z,m,_,h3,_,_⟩:=uR f;rw[h3];have d:decide ((i:Int)<0)=false:=kO (by omega);obtain⟨I,b,C,_,_,_,_,G,_⟩:=lD t.slice m;obtain⟨u,l,_,_⟩:=x.lst z (sY m);have o:=J z (sY m);obtain⟨E,B,K⟩:=V41 Y l (by have:=o.1;omega) o.2 n;refine⟨E,q _ _ ?_,K⟩;have g:∀(x y:kA),A.u 0 (.tuple ⟨[x,y]⟩)=some x:=fun _ _=>rfl;have j:∀(x y:kA),A.u 1 (.tuple ⟨[x,y]⟩)=some y:=fun _ _=>rfl;simp only[F36,bKc,e,qS,zZ,d,sR,(aR s).1,C,G,B,g,j]
def cMh {p:Nat}(x:ModR P j p k Z kept)(hZ:Z.length≤2^30)(ok:lB Z)(i3:n0≤j.next){p' k':Nat}(R:Pk.K1 (kA×H)):
 ∀(d i m:Nat) (h:H) (Z':kC SP),i+d=Z.length→d<m→(∀c,c<n0→h.get c=j.get c)→(∀c,P c→c<j.next→h.get c=j.get c)→j.next≤h.next→ModR (fun c=>j.next≤c∨n0≤c∧¬P c) h p' k' Z' kept→Z'.map (·.1)=(Z.take i).map (·.1)→
  ∃K Z'',aMr (CI D) L R m (iN (i:Int)) (aA p) (aA p') h=R (aA p') K∧ModR (fun c=>j.next≤c∨n0≤c∧¬P c) K p' k' Z'' kept∧Z''.map (·.1)=Z.map (·.1)∧(∀c,c<n0→K.get c=j.get c)∧j.next≤K.next:=by
 intro d
 induction d with
 |zero=>
  intro i m h Z' hi hm hB N O y Q;obtain⟨m,rfl⟩:=pS m (by omega);have V:=x.same O (fun c f G=>N c f G) (P':=P) fun _ h _=>h;obtain⟨v,w,W,J,_⟩:=V.box;have ln:A.zE v=some (iN (Z.length:Int)):=by have:=J.len;rwa [eB,pO]at this
  have hd:decide ((i:Int)<(Z.length:Int))=false:=kO (by omega);refine⟨h,Z',?_,y,by rw[Q,sA (by omega)],hB,O⟩;simp only[aMr,bGi,qS,sR,(aR W).1,ln,zZ,hd]
 |succ d ih=>
  intro i m h Z' hi hm hB N O y Q;obtain⟨m,rfl⟩:=pS m (by omega);have V:=x.same O (fun c f G=>N c f G) (P':=P) fun _ h _=>h;obtain⟨v,w,W,J,_⟩:=V.box;have ln:A.zE v=some (iN (Z.length:Int)):=by have:=J.len;rwa [eB,pO]at this
  have hd:decide ((i:Int)<(Z.length:Int))=true:=kN (by omega);obtain⟨z,r⟩:∃z,Z[i]?=some z:=⟨_,kZ (by omega)⟩;obtain⟨j3,b,ei,l4,_⟩:=lD J.slice r;have w2:=gQ (i:=i) (by omega);obtain⟨M,n⟩:=eX (h.push (.cells TaV.Z89L (some 0)));have e1:A.box 4 TaV.Z89 h=some (aA h.next,M):=by rw[n];rfl
  have g1:M.get h.next=some (.cells TaV.Z89L (some 0)):=by rw[n,H.get_push,kM rfl]
  obtain⟨E,o⟩:=eX (M.put h.next (.cells (fA z) (some 0)));have e2:A.store 4 (aA h.next) (.agg ⟨fA z⟩) M=some E:=by rw[qU,g1,o];rfl
  have g2:E.get h.next=some (.cells (fA z) (some 0)):=by rw[o,H.get_put,kM rfl]
  have x2:Ext h E:=by rw[o,n];exact(Ext.push h _).put _ _ (kQ _)
  have n2:E.next=h.next+1:=by rw[o,n];rfl
  have l3:A.load false 1 (.pointer (some ⟨h.next,3,none⟩)) E=some (aA z.2):=by rw[qK,g2];rfl
  obtain⟨u,lz,_,_⟩:=(V.ext x2).lst z (sY r);have f3:=ok z (sY r);obtain⟨h3,C,u',e3,b3,x3,f1,f2⟩:=V53 Y lz (by have:=f3.1;omega);have g3:h3.get h.next=some (.cells (fA z) (some 0)):=by rw[x3.get _ (by omega)];exact g2
  obtain⟨B,l⟩:=eX (h3.put h.next (.cells (fA (z.1,C)) (some 0)));have e4:A.store 1 (.pointer (some ⟨h.next,3,none⟩)) (aA C) h3=some B:=by rw[qU,g3,l];rfl
  have U:Ext h B:=by rw[l];exact(x2.trans x3).put _ _ (kQ _)
  have n4:B.next=h3.next:=by rw[l];rfl
  have g4:B.get h.next=some (.cells (fA (z.1,C)) (some 0)):=by rw[l,H.get_put,kM rfl]
  have l5:A.load true 4 (aA h.next) B=some (.agg ⟨fA (z.1,C)⟩):=by rw[aI,g4];rfl
  have y4:=y.ext U;have d3:LstD B C u' z.1.row:=b3.but (S:=fun c=>c=h.next) (by rw[l];exact ExtBut.put ⟨kQ _,fun _ _ _=>rfl⟩ _ _ rfl) (fun e=>by omega) (fun c f e=>by have:=f2 c f;omega);have s:∀t∈Z',t.2<h.next:=fun t ht=>by obtain⟨_,a,_⟩:=y.lst t ht;exact a.lt
  obtain⟨_,wk,_,_,ck,_⟩:=y.box;have a3:Z'.length≤2^30:=by have:=sX List.length Q;simp at this;omega
  obtain⟨v5,b5,h5,r5,h6,X,q1,q2,q3,q4,y7,z7⟩:=y4.add Y (fun c f=>.inl (by have:=U.next;omega)) a3 d3 (.inl (by omega)) (fun c f=>.inl (by have:=f2 c f;omega)) (fun hm=>by
   obtain⟨t,ht,e⟩:=mW.1 hm;have:=s t ht;omega) (fun e=>by have:=ck.lt;omega)
  have k3:=U.next;have m3:=z7.next;have q:aMr (CI D) L R (m+1) (iN (i:Int)) (aA p) (aA p') h=aMr (CI D) L R m (iN ((i+1:Nat):Int)) (aA p) (aA p') X:=by
   simp only[aMr,bGi,bRr,cGc,cGb,bPh,qS,sR,(aR W).1,ln,zZ,hd,ei,l4,e1,e2,l3,e3,e4,q1,l5,q2,q3,q4,w2]
  rw[q];have I:∀c,c<h.next→¬(j.next≤c∨n0≤c∧¬P c)→X.get c=h.get c:=fun c f hp=>by rw[z7.get c (by omega) hp,U.get c f]
  refine ih (i+1) m X (Z'++[(z.1,C)]) (by omega) (by omega) (fun c f=>by rw[I c (by omega) (by omega)];exact hB c f) (fun c f G=>by rw[I c (by omega) (fun g=>g.elim (by omega) fun g=>g.2 f)];exact N c f G) (by omega) y7 ?_;rw[rJ,Q,List.take_add_one,r,rJ];rfl
def V33 {p:Nat}(x:ModR P h p k Z kept)(hZ:Z.length≤2^30)(ok:lB Z)(hk:kept.length≤2^30):
 ∃C G J Z',CI D 33 [aA p] h=some (aA G,C)∧ModR (fun j=>h.next≤j) C G J Z' kept∧Z'.map (·.1)=Z.map (·.1)∧Ext h C:=by
 obtain⟨r,c⟩:=eX (h.push (.cells [] (some 4)));have S:A.zC 4 0 TaV.Z30L [] h=some (.slice (some ⟨h.next,0,none⟩) 0 1,r):=by rw[c];rfl
 have M:Ext h r:=by rw[c];exact Ext.push h _
 have n1:r.next=h.next+1:=by rw[c];rfl
 have X:GN 4 r (.slice (some ⟨h.next,0,none⟩) 0 1) (lI []):=.inr ⟨by simp,h.next,1,rfl,.inr rfl,by omega,by rw[c,H.get_push,kM rfl];rfl⟩;obtain⟨v,w,Q,b2,c1,_⟩:=(x.ext M).box;obtain⟨u,a,U,B,s2,O,_⟩:=fS (bs:=40) X c1.row.slice (by omega) (by simp[lI];omega) (by simp[lI];omega);rw[show lI []++lI kept=lI kept from rfl]at B;have K:∀i,sid u=some i→h.next≤i:=fun i m=>by
  rcases s2 i m with h|h
  ·simp[sid]at h;omega
  ·omega
 have n:Ext h a:=⟨by have:=O.next;omega,fun j l=>by rw[O.get j (by omega) (fun e=>by simp[sid]at e;omega)];exact M.get j l⟩;have R:aN u=some [u]:=B.slice.cells;obtain⟨h3,d⟩:=eX (a.push (.cells [u] (some 0)));obtain⟨f,b⟩:=eX (h3.push (.cells [eJ,aA a.next] (some 0)));have n3:h3.next=a.next+1:=by rw[d];rfl
 have n4:f.next=h3.next+1:=by rw[b];rfl
 have t:A.zI TaV.Z92L [(0,1,u)]=some (.agg ⟨[u]⟩):=by simp only[A.zI,A.yG,R];rfl
 have V:A.box 1 (.agg ⟨[u]⟩) a=some (aA a.next,h3):=by rw[d];rfl
 have y:A.zI TaV.Z86L [(1,1,aA a.next)]=some (.agg ⟨[eJ,aA a.next]⟩):=rfl;have W:A.box 2 (.agg ⟨[eJ,aA a.next]⟩) h3=some (aA h3.next,f):=by rw[b];rfl
 have o:Ext a h3:=by rw[d];exact Ext.push a _
 have q:Ext h3 f:=by rw[b];exact Ext.push h3 _
 have N:=(n.trans o).trans q;have a3:=n.next;have y4:ModR (fun j=>f.next≤j∨h.next≤j∧¬(P j∧j<h.next)) f h3.next a.next [] kept:=⟨⟨eJ,u,by rw[b,H.get_push,kM rfl],GN.nil 4 f,⟨by rw[b,H.get_push,kL (by omega),d,H.get_push,kM rfl],by omega,(B.ext o).ext q⟩,fun i m=>by(cases m),fun i m=>.inr ⟨K i m,fun g=>by have:=K i m;omega⟩⟩,fun z hz=>by(cases hz),List.nodup_nil,by simp,⟨.inr ⟨by omega,fun g=>by omega⟩,by omega⟩,.inr ⟨by omega,fun g=>by omega⟩⟩;have x':ModR (fun j=>P j∧j<h.next) h p k Z kept:=x.same (kQ _) (fun _ _ _=>rfl) fun j l hl=>⟨l,hl⟩;obtain⟨h5,Z',s,y5,E,o5,n5⟩:=cMh Y (x'.ext N) hZ ok (n0:=h.next) (by omega) (p':=h3.next) (k':=a.next) (fun I h=>bGh h I fun n h=>some (n,h)) (L:=Z.length+1) Z.length 0 (Z.length+1) f [] (by omega) (by omega) (fun _ _=>rfl) (fun _ _ _=>rfl) (kQ _) y4 rfl;have s:aMr (CI D) _ (fun I h=>bGh h I fun n h=>some (n,h)) _ (iN 0) (aA p) (aA h3.next) f=_:=s;refine⟨h5,h3.next,a.next,Z',cDi (Z.length+1) _ h (Y.no 33 _ _ (by decide)) ?_,y5.same (kQ _) (fun _ _ _=>rfl) (fun j l _=>l.elim (fun g=>by omega) (·.1)),E,⟨by omega,fun j l=>by rw[o5 j l];exact N.get j l⟩⟩;simp only[F33,bKe,cGe,bSp,cGd,S,qS,sR,(aR Q).2,c1.load,U,t,V,y,W,s];simp only[bGh]
end
def ldC {a:kC kA}{o:kB Nat}(g:h.get n=some (.cells a o))(i:Nat)(b:a[i]?=some v):A.load false 1 (.pointer (some ⟨n,i,none⟩)) h=some v:=by
 rw[qK,g];exact b
def iR (l:kC Nat):Bs:=l.map UInt8.ofNat
def bEn (h:q<256):(UInt8.ofNat q).toNat=q:=by rw[UInt8.toNat_ofNat'];exact Nat.mod_eq_of_lt h
def aUd (c:q<256)(h:H):∃s a,A.zC 1 1 TaV.Z5L [(0,1,iU (q:Int))] h=some (s,a)∧A.b2s s a=some (str [UInt8.ofNat q])∧Ext h a:=by
 obtain⟨a,e,b,x,_⟩:=cJo h (z:=TaV.Z5L) rfl (q:Int) (UInt8.ofNat q) (by rw[bEn c]);refine⟨_,a,e,?_,x⟩;have:=uK [UInt8.ofNat q];simp only[A.b2s,b];rw[show[u8 (UInt8.ofNat q)]=[UInt8.ofNat q].map u8 from rfl,this];rfl
def jO (k:Nat)(a:kC Nat×Row)(y:Bs×Nat):kC Nat×Row:=
 if k=8 then(a.1++[(lX (fZ cA) a.2 y.1 y.2).1],(lX (fZ cA) a.2 y.1 y.2).2)else if k=10 then(a.1,eI a.2 y.1)else a
def aNw:∀(l:Row) (c:kC Nat) (r:Row),l.foldl (jO 8) (c,r)=(c++(nD (fZ cA) r l).1,(nD (fZ cA) r l).2)
 |[],c,r=>by simp[nD]
 |y::l,c,r=>by
  rw[dN];show l.foldl (jO 8) (c++[(lX (fZ cA) r y.1 y.2).1],(lX (fZ cA) r y.1 y.2).2)=_;rw[aNw l,sH];rfl
def aIh:∀(l:Row) (c:kC Nat) (r:Row),l.foldl (jO 10) (c,r)=(c,uJ r l)
 |[],c,r=>rfl
 |y::l,c,r=>by
  rw[dN];show l.foldl (jO 10) (c,eI r y.1)=_;rw[aIh l];rfl
def aIg {n:Nat}(b:n≠8)(h:n≠10):∀(l:Row) (a:kC Nat×Row),l.foldl (jO n) a=a
 |[],a=>rfl
 |y::l,a=>by
  rw[dN,show jO n a y=a by unfold jO;rw[kL b,kL h]];exact aIg b h l a
def aJm (h:wH R)(f:Bs):wH (eI R f):=⟨kR (List.length_filter_le _ _) h.1,fun y a=>h.2 y (dS.1 a).1⟩
def aUi (h:y∈aNb R B q):y∈R∨y=(B,q):=by
 rw[oG]at h;rcases mP.1 h with h|h
 ·exact .inl (mU h)
 ·rcases sI.1 h with h|h
  ·exact .inr h
  ·exact .inl (mX h)
def aOc (h:wH R)(f:B.length≤2^40)(q:Nat):wH (lX (fZ cA) R B q).2:=by
 unfold lX;split
 ·exact h
 ·rename_i d;have l:(eI R B).length+1≤16:=by
   cases c:vH R B with
   |false=>
    have:¬16≤R.length:=fun g=>d (.inr (.inr ⟨c,g⟩));have:=List.length_filter_le (fun x:Bs×Nat=>!decide (x.1=B)) R;unfold eI;omega
   |true=>
    obtain⟨x,e,a⟩:=has_iff.1 c;have:(R.filter fun x:Bs×Nat=>!decide (x.1=B)).length<R.length:=List.length_filter_lt_length_iff_exists.2 ⟨x,e,by simp[a]⟩;have:=h.1;unfold eI;omega
  refine⟨?_,fun y b=>?_⟩
  ·show(aNb (eI R B) B q).length≤16;rw[oG,kX,kY,pH,pI];have:=aIu (eI R B) B;omega
  ·rcases aUi b with b|rfl
   ·exact(aJm h B).2 y b
   ·exact f
def aOd (h:q<256):(lX (fZ cA) r f q).1<256:=by
 unfold lX;split
 ·show 128<256;omega
 ·exact h
section
variable {D:CF}(Y:KD D)
include Y
def cJw (y:Bs×Nat)(h:H):∃c d,A.box 2 TaV.Z57 h=some (aA h.next,c)∧A.store 2 (aA h.next) (.agg ⟨[str y.1,iU (y.2:Int)]⟩) c=some d∧d.get h.next=some (.cells [str y.1,iU (y.2:Int)] (some 0))∧Ext h d∧d.next=h.next+1:=by
 have _:=Y;obtain⟨c,a⟩:=eX (h.push (.cells TaV.Z57L (some 0)));have g:c.get h.next=some (.cells TaV.Z57L (some 0)):=by rw[a,H.get_push,kM rfl]
 obtain⟨d,b⟩:=eX (c.put h.next (.cells [str y.1,iU (y.2:Int)] (some 0)));exact⟨c,d,by rw[a];rfl,by rw[qU,g,b];rfl,by rw[b,H.get_put,kM rfl],by rw[b,a];exact(Ext.push h _).put _ _ (kQ _),by rw[b,a];rfl⟩
def cMg (gb:h.get n=some (.cells (nzC z) (some 0)))(hb:n<h.next∧¬P n)(hs:SliceE 2 h z.2.1 (aW z.2.2.subs))(sP:∀j,sid z.2.1=some j→¬P j)(J:Sml z.2.2)(f3:∀y∈z.2.2.subs,y.2<256){m:Nat}(kx:Pk.K4 (kA×H)):
 ∀(d j b3:Nat) (V:H) (Z:kC SP) (s:cO) (c:kC Nat),j+d=z.2.2.subs.length→d<b3→ExtBut P h V→(∀j,V.next≤j→P j)→ModR P V k m Z kept→Z[i]?=some (s,l)→wH s.row→c.length≤j→
  ∃p,aMq (CI D) L kx b3 (iN (j:Int)) (aA n) (iU (z.2.2.ptype:Int)) (aA k) (iN (i:Int)) (str (iR c)) V=
   kx (iU (z.2.2.ptype:Int)) (aA k) (iN (i:Int)) (str (iR ((z.2.2.subs.drop j).foldl (jO z.2.2.ptype) (c,s.row)).1)) p∧
   ModR P p k m (Z.set i ({s with row:=((z.2.2.subs.drop j).foldl (jO z.2.2.ptype) (c,s.row)).2},l)) kept∧ExtBut P V p∧wH ((z.2.2.subs.drop j).foldl (jO z.2.2.ptype) (c,s.row)).2:=by
 intro d
 induction d with
 |zero=>
  intro j b3 V Z s c O hm C hP x t R hc;obtain⟨b3,rfl⟩:=pS b3 (by omega);have g:V.get n=some (.cells (nzC z) (some 0)):=by rw[C.get n hb.1 hb.2];exact gb
  have b:=ldC g 26 (v:=z.2.1) rfl;have ln:A.zE z.2.1=some (iN (z.2.2.subs.length:Int)):=by have:=hs.len.1;rwa [aW,pO]at this
  have W:decide ((j:Int)<(z.2.2.subs.length:Int))=false:=kO (by omega);rw[pZ (by omega)];refine⟨V,?_,?_,⟨kQ _,fun _ _ _=>rfl⟩,R⟩
  ·simp only[aMq,aWi,qS,sR,Nat.reduceAdd,b,ln,zZ,W,List.foldl_nil]
  ·have:Z.set i ({s with row:=s.row},l)=Z:=by
    refine mT fun q=>?_;rw[rE];split
    ·rename_i e;subst e;rw[t];simp[(pX.1 t).1]
    ·rfl
   rw[show(Z.set i ({s with row:=(List.foldl (jO z.2.2.ptype) (c,s.row) []).2},l))=Z from this];exact x
 |succ d ih=>
  intro j b3 V Z s c O hm C hP x t R hc;obtain⟨b3,rfl⟩:=pS b3 (by omega);have g:V.get n=some (.cells (nzC z) (some 0)):=by rw[C.get n hb.1 hb.2];exact gb
  have b:=ldC g 26 (v:=z.2.1) rfl;have ln:A.zE z.2.1=some (iN (z.2.2.subs.length:Int)):=by have:=hs.len.1;rwa [aW,pO]at this
  have W:decide ((j:Int)<(z.2.2.subs.length:Int))=true:=kN (by omega);obtain⟨y,hy⟩:∃y,z.2.2.subs[j]?=some y:=⟨_,kZ (by omega)⟩;have G:=sY hy;have g3:=hs.extBut C sP;obtain⟨j3,q,ei,l2,_,_⟩:=oQ g3 hy;have w2:=gQ (i:=j) (by have:=J.1;omega);obtain⟨h1,h2,e1,e2,g2,M,n2⟩:=cJw Y y V;have f0:=ldC g2 0 (v:=str y.1) rfl;have f1:=ldC g2 1 (v:=iU (y.2:Int)) rfl;have xm:=x.ext M;obtain⟨v,w,b1,b2,_⟩:=xm.box;obtain⟨d3,q',U,_,_,_,_,l3,_⟩:=lD b2.slice t;have a3:=(aR b1).1;obtain⟨u,Q,_,_⟩:=xm.lst (s,l) (sY t);have Q:LstD h2 l u s.row:=Q;have l3:A.load false 1 (.pointer (some ⟨q',d3+3,none⟩)) h2=some (aA l):=l3;have X:=(pX.1 t).1;have i3:=J.2 y G;have B:s.row.length≤2^40:=by have:=R.1;omega
  rw[aU hy,dN];have E:∀j,h2.next≤j→P j:=fun j O=>hP j (by omega);by_cases c8:z.2.2.ptype=8
  ·have d8:decide ((z.2.2.ptype:Int)=8)=true:=kN (by omega);have a:decide ((z.2.2.ptype:Int)=10)=false:=kO (by omega);have sa:jO z.2.2.ptype (c,s.row) y=(c++[(lX (fZ cA) s.row y.1 y.2).1],(lX (fZ cA) s.row y.1 y.2).2):=by unfold jO;rw[kM c8]
   obtain⟨h3,u3,e3,I,K,y3⟩:=V57 Y Q B (f:=y.1) (by omega) (f3 y G);obtain⟨N,o⟩:=ModR.row E xm t (z:=(s,l)) Q I K y3;obtain⟨sl,h4,e4,e5,x4⟩:=aUd (aOd (r:=s.row) (f:=y.1) (f3 y G)) h3;have cc:A.z prog .add 9 (str (iR c)) (str [UInt8.ofNat (lX (fZ cA) s.row y.1 y.2).1])=_:=cJt (by simp[iR];have:=J.1;omega);have n3:=y3.next;have n4:=x4.next;obtain⟨p,e,r1,r2,r3⟩:=ih (j+1) b3 h4 _ {s with row:=(lX (fZ cA) s.row y.1 y.2).2} (c++[(lX (fZ cA) s.row y.1 y.2).1]) (by omega) (by omega) ((C.trans M.but).trans (o.trans x4.but)) (fun j O=>hP j (by omega)) (N.ext x4) (by rw[rE];simp[X]) (aOc R (by omega) y.2) (by simp;omega);rw[sa];rw[List.set_set]at r1;refine⟨p,?_,r1,M.but.trans (o.trans (x4.but.trans r2)),r3⟩;rw[←e];have bc:iR (c++[(lX (fZ cA) s.row y.1 y.2).1])=iR c++[UInt8.ofNat (lX (fZ cA) s.row y.1 y.2).1]:=by simp[iR]
   rw[bc];simp only[aMq,aWi,bDj,bGe,bGd,bGc,bBp,qS,sR,Nat.reduceAdd,b,ln,zZ,W,ei,l2,e1,e2,zQ,d8,a,a3,U,l3,f0,f1,e3,e4,e5,cc,w2]
  have d8:decide ((z.2.2.ptype:Int)=8)=false:=kO (by omega);by_cases S:z.2.2.ptype=10
  ·have a:decide ((z.2.2.ptype:Int)=10)=true:=kN (by omega);have sa:jO z.2.2.ptype (c,s.row) y=(c,eI s.row y.1):=by unfold jO;rw[kL c8,kM S]
   obtain⟨h3,bb,u3,e3,I,K,y3⟩:=V58 Y Q B y.1;obtain⟨N,o⟩:=ModR.row E xm t (z:=(s,l)) Q I (fun j O=>.inr (K j O)) y3;have n3:=y3.next;obtain⟨p,e,r1,r2,r3⟩:=ih (j+1) b3 h3 _ {s with row:=eI s.row y.1} c (by omega) (by omega) ((C.trans M.but).trans o) (fun j O=>hP j (by omega)) N (by rw[rE];simp[X]) (aJm R y.1) (by omega);rw[sa];rw[List.set_set]at r1;refine⟨p,?_,r1,M.but.trans (o.trans r2),r3⟩;rw[←e];simp only[aMq,aWi,bDj,bGe,bGd,bGc,bBp,qS,sR,Nat.reduceAdd,b,ln,zZ,W,ei,l2,e1,e2,zQ,d8,a,a3,U,l3,f0,e3,w2]
  ·have a:decide ((z.2.2.ptype:Int)=10)=false:=kO (by omega);have sa:jO z.2.2.ptype (c,s.row) y=(c,s.row):=by unfold jO;rw[kL c8,kL S]
   obtain⟨p,e,r1,r2,r3⟩:=ih (j+1) b3 h2 Z s c (by omega) (by omega) (C.trans M.but) E xm t R (by omega);rw[sa];refine⟨p,?_,r1,M.but.trans r2,r3⟩;rw[←e];simp only[aMq,aWi,bDj,bGe,bGd,bGc,bBp,qS,sR,Nat.reduceAdd,b,ln,zZ,W,ei,l2,e1,e2,zQ,d8,a,w2]
end
def wT (m:Msg):∀(d:Bool) (l:kC Msg),(fW m d l).length≤l.length+1
 |true,[]=>by simp[fW]
 |false,[]=>by simp[fW]
 |true,x::r=>by
  have:=wT m true r;simp only[fW,kX,kY,sO,mG,tL,pP,mD,sN];split<;>simp<;>omega
 |false,x::r=>by
  simp only[fW,kX,kY,sQ,mF,mZ]
  cases decide (m.topic<x.topic)with
  |false=>
   have:=wT m false r;simp only[pP,mD,sN];split<;>simp<;>omega
  |true=>
   have:(fW m true r).length≤r.length:=by
    clear x
    induction r with
    |nil=>simp[fW]
    |cons y r i=>
     simp only[fW,kX,kY,sO,mG,tL,pP,mD,sN];split<;>simp<;>omega
   simp only[mE,List.length_singleton];split<;>simp<;>omega
abbrev fV (o:kB Nat):kA:=iN (match o with|some i=>(i:Int)|none=> -1)
section
variable {D:CF}(Y:KD D)
include Y
def cBd (g:h.get n=some (.cells (nzC z) (some 0)))(hb:n<h.next)(hP:∀j,h.next≤j→P j)(x:ModR P h i l Z kept)(hZ:Z.length≤2^20)(ok:lB Z)(kr:Pk.K3 (kA×H)):
 ∃h' p Z',aSx h (aA i) (aA n) (fV (oM Z z.2.2.client)) kr (fun N x7 x0 h=>aWk h x0 N x7 (fun N x7 x0 x9 h=>aWj h x0 N x7 x9 (fun x7 x0 a5 x9 h=>bGf (CI D) h x0 x7 x9 a5 kr)))=kr (str []) (.bool p) (.bool (cP (iW Z kept) z.2.2).isSome) h'∧
  (∀M',cP (iW Z kept) z.2.2=some M'→M'=iW Z' kept)∧ModR P h' i l Z' kept∧ExtBut P h h'∧Z'.length≤Z.length+1∧lB Z':=by
 have V:=ldC g 2 (v:=iN z.2.2.conn) rfl;have l3:=ldC g 3 (v:=str z.2.2.client) rfl;have J:=ldC g 12 (v:=.bool z.2.2.clean) rfl;by_cases c1:z.2.2.conn<1
 ·have d1:=kN c1;have m:cP (iW Z kept) z.2.2=none:=by unfold cP;rw[kM c1]
  refine⟨h,false,Z,?_,fun M' M=>by(rw[m]at M;cases M),x,⟨kQ _,fun _ _ _=>rfl⟩,by omega,ok⟩;rw[m];simp only[aSx,bBr,bBq,qS,sR,V,zZ,d1];rfl
 have d1:=kO c1;obtain⟨b,B⟩:=eX (h.push (.cells [eJ] (some 0)));have x1:Ext h b:=by rw[B];exact Ext.push h _
 have n1:b.next=h.next+1:=by rw[B];rfl
 have Q:A.zI TaV.Z118L []=some (.agg ⟨[eJ]⟩):=rfl;have e1:A.box 1 (.agg ⟨[eJ]⟩) h=some (aA h.next,b):=by rw[B];rfl
 obtain⟨h2,C⟩:=eX (b.push (.cells TaV.Z89L (some 0)));have e2:A.box 4 TaV.Z89 b=some (aA b.next,h2):=by rw[C];rfl
 have g2:h2.get b.next=some (.cells TaV.Z89L (some 0)):=by rw[C,H.get_push,kM rfl]
 have eb:A.zI TaV.Z89L [(0,1,str z.2.2.client),(1,1,iN z.2.2.conn),(2,1,.bool z.2.2.clean),(3,1,aA h.next)]=some (.agg ⟨fA (⟨z.2.2.client,z.2.2.conn,z.2.2.clean,[]⟩,h.next)⟩):=rfl;obtain⟨h3,E⟩:=eX (h2.put b.next (.cells (fA (⟨z.2.2.client,z.2.2.conn,z.2.2.clean,[]⟩,h.next)) (some 0)));have e3:A.store 4 (aA b.next) (.agg ⟨fA (⟨z.2.2.client,z.2.2.conn,z.2.2.clean,[]⟩,h.next)⟩) h2=some h3:=by rw[qU,g2,E];rfl
 have g3:h3.get b.next=some (.cells (fA (⟨z.2.2.client,z.2.2.conn,z.2.2.clean,[]⟩,h.next)) (some 0)):=by rw[E,H.get_put,kM rfl]
 have v3:Ext b h3:=by rw[E,C];exact(Ext.push b _).put _ _ (kQ _)
 have N:Ext h h3:=x1.trans v3;have n3:h3.next=h.next+2:=by rw[E,C];show b.next+1=_;omega
 have d4:h3.get h.next=some (.cells [eJ] (some 0)):=by rw[v3.get _ (by omega),B,H.get_push,kM rfl]
 have t3:LstD h3 h.next eJ []:=⟨d4,by omega,GN.nil 2 h3⟩;have S:=x.ext N;have f4:∀j,h3.next≤j→P j:=fun j f=>hP j (by omega);have r:h.next∉Z.map (·.2):=fun I=>by
  obtain⟨t,d,e⟩:=mW.1 I;obtain⟨_,a,_⟩:=x.lst t d;have:=a.lt;omega
 have f5:l<h.next:=by obtain⟨_,_,_,_,c,_⟩:=x.box;exact c.lt
 cases hf:oM Z z.2.2.client with
 |none=>
  have m:cP (iW Z kept) z.2.2=some (iW (Z++[(⟨z.2.2.client,z.2.2.conn,z.2.2.clean,[]⟩,h.next)]) kept):=by
   unfold cP;rw[kL c1,show bO (iW Z kept).L z.2.2.client=none from uS hf];simp[iW]
  have O:decide ((0:Int)≤ -1)=false:=by decide
  have l5:A.load true 4 (aA b.next) h3=some (.agg ⟨fA (⟨z.2.2.client,z.2.2.conn,z.2.2.clean,[]⟩,h.next)⟩):=by rw[aI,g3];rfl
  obtain⟨v5,b5,h5,r5,h6,h7,q1,q2,q3,q4,y7,z7⟩:=S.add Y f4 (by omega) (s:=⟨z.2.2.client,z.2.2.conn,z.2.2.clean,[]⟩) t3 (hP _ (kQ _)) (fun j f=>by cases f) r (by omega);refine⟨h7,false,Z++[(⟨z.2.2.client,z.2.2.conn,z.2.2.clean,[]⟩,h.next)],?_,fun M' M=>by rw[m]at M;exact(pB M).symm,y7,N.but.trans z7,by simp,fun t d=>?_⟩
  ·rw[m];simp only[aSx,bBr,bBq,aWk,aWj,bGf,qS,sR,Nat.reduceAdd,V,zZ,d1,bF,O,l3,J,Q,e1,eb,e2,e3,q1,l5,q2,q3,q4];rfl
  ·rcases mP.1 d with d|d
   ·exact ok t d
   ·rw[mC.1 d];exact⟨by simp,fun y hy=>by cases hy⟩
 |some U=>
  obtain⟨s,hs,_,f1,f2,_⟩:=uR hf;have I:=sY hs;have R:=(pX.1 hs).1;have O:decide ((0:Int)≤(U:Int))=true:=kN (by omega);obtain⟨v,w,b1,b2,_⟩:=x.box;obtain⟨j5,q,ei,_,_,lc,K,_,_⟩:=lD b2.slice hs;by_cases c2:s.1.conn≠0
  ·have m:cP (iW Z kept) z.2.2=none:=by
    unfold cP;rw[kL c1,show bO (iW Z kept).L z.2.2.client=some s.1 from f1];simp only[kM c2]
   have d3:(!decide (s.1.conn=0))=true:=by simpa using c2
   refine⟨h,false,Z,?_,fun M' M=>by(rw[m]at M;cases M),x,⟨kQ _,fun _ _ _=>rfl⟩,by omega,ok⟩;rw[m];simp only[aSx,bBr,bBq,qS,sR,V,zZ,d1,bF,O,(aR b1).1,ei,lc,bA,d3];rfl
  have c0:s.1.conn=0:=Decidable.not_not.1 c2;have d3:(!decide (s.1.conn=0))=false:=by simpa using c0
  have v4:∀k:Pk.K3 (kA×H),aSx h (aA i) (aA n) (iN (U:Int)) kr k=k (aA n) (iN (U:Int)) (aA i) h:=fun k=>by
   simp only[aSx,bBr,bBq,qS,sR,V,zZ,d1,bF,O,(aR b1).1,ei,lc,bA,d3]
  have u3:∀k:Pk.K4 (kA×H),aWk h (aA i) (aA n) (iN (U:Int)) k=k (aA n) (iN (U:Int)) (aA i) (.bool (!s.1.clean&&!z.2.2.clean)) h:=fun k=>by
   cases b3:s.1.clean with
   |true=>
    rw[b3]at K;simp only[aWk,qS,sR,Nat.reduceAdd,bF,O,(aR b1).1,ei,K];rfl
   |false=>
    rw[b3]at K;simp only[aWk,qS,sR,Nat.reduceAdd,bF,O,(aR b1).1,ei,K,J];rfl
  obtain⟨p,j3⟩:=eX ((!s.1.clean&&!z.2.2.clean));obtain⟨us,ls,ps,t4⟩:=S.lst s I;obtain⟨v',w',z3,a4,_⟩:=S.box;obtain⟨d5,q',b4,_,_,_,_,m4,_⟩:=lD a4.slice hs;have a3:∃y3 u o,(∀k:Pk.K4 (kA×H),aWj h (aA i) (aA n) (iN (U:Int)) (.bool p) k=k (iN (U:Int)) (aA i) (aA b.next) (.bool p) o)∧Ext h o∧h3.next=o.next∧LstD o y3 u (if p then s.1.row else[])∧P y3∧(∀j,sid u=some j→P j)∧y3∉(Z.eraseIdx U).map (·.2)∧y3≠l∧
   o.get b.next=some (.cells (fA (⟨z.2.2.client,z.2.2.conn,z.2.2.clean,if p then s.1.row else[]⟩,y3)) (some 0)):=by
   have y4:((Z.eraseIdx U).map (·.2)).Sublist (Z.map (·.2)):=(List.eraseIdx_sublist Z U).map _
   cases hq:p with
   |false=>
    refine⟨h.next,eJ,h3,fun k=>?_,N,rfl,t3,hP _ (kQ _),fun j f=>(by cases f),fun I=>r (y4.subset I),by omega,g3⟩;simp only[aWj,qS,sR,Nat.reduceAdd,l3,V,J,Q,e1,eb,e2,e3]
   |true=>
    obtain⟨o,G⟩:=eX (h3.put b.next (.cells (fA (⟨z.2.2.client,z.2.2.conn,z.2.2.clean,s.1.row⟩,s.2)) (some 0)));have e4:A.store 1 (.pointer (some ⟨b.next,3,none⟩)) (aA s.2) h3=some o:=by rw[qU,g3,G];rfl
    have W:Ext h o:=by rw[G];exact N.put _ _ (by omega)
    have i5:s.2<h.next:=by obtain⟨_,a,_⟩:=x.lst s I;exact a.lt
    refine⟨s.2,us,o,fun k=>?_,W,by rw[G];rfl,?_,ps,t4,fun k4=>?_,fun e=>x.nk (by rw[←e];exact mN I),by rw[G,H.get_put,kM rfl];rfl⟩
    ·simp only[aWj,qS,sR,Nat.reduceAdd,l3,V,J,Q,e1,eb,e2,e3,(aR z3).1,b4,m4,e4]
    ·obtain⟨z4,s3,_⟩:=x.lst s I;have:z4=us:=by have a:=(s3.ext N).get;rw[ls.get]at a;simp at a;exact a.symm
     subst this;exact s3.ext W
    ·obtain⟨j,f⟩:=mM.1 k4;rw[pL]at f;obtain⟨t,d,k3⟩:=sZ.1 f;have nd:=List.pairwise_iff_getElem.1 (List.nodup_iff_pairwise_ne.1 x.ndup);rw[List.getElem?_eraseIdx]at d;have p3:∀j',j'≠U→Z[j']?=some t→False:=fun j' l4 f3=>by
      have i3:=(pX.1 f3).1;have m3:=(pX.1 f3).2;have o3:=(pX.1 hs).2;rcases Nat.lt_or_gt_of_ne l4 with j4|i4
      ·exact nd j' U (by simpa using i3) (by simpa using R) j4 (by simp only[List.getElem_map];rw[m3,o3,k3])
      ·exact nd U j' (by simpa using R) (by simpa using i3) i4 (by simp only[List.getElem_map];rw[m3,o3,k3])
     split at d
     ·exact p3 j (by omega) d
     ·exact p3 (j+1) (by omega) d
  obtain⟨y3,u,o,u4,W,n4,ll,pl,s4,nl,p4,g4⟩:=a3;obtain⟨h5,e5,y5,z5⟩:=V56 Y (fun j f=>hP j (by omega)) (x.ext W) (by omega) R;have k5:=x.pp.2;have bp:b.next≠i:=by omega
  have g5:h5.get b.next=some (.cells (fA (⟨z.2.2.client,z.2.2.conn,z.2.2.clean,if p then s.1.row else[]⟩,y3)) (some 0)):=by rw[z5.get _ (by omega) bp];exact g4
  have l5:A.load true 4 (aA b.next) h5=some (.agg ⟨fA (⟨z.2.2.client,z.2.2.conn,z.2.2.clean,if p then s.1.row else[]⟩,y3)⟩):=by rw[aI,g5];rfl
  obtain⟨_,_,X,_⟩:=(x.ext W).box;have o4:=ll.but z5 (fun e=>by have:=ll.get;rw[e,X]at this;simp at this) (fun j f e=>ll.row.own X (by simp) (by rw[f,e]));have n5:=z5.next;obtain⟨v6,b6,h6,r6,h7,h8,q1,q2,q3,q4,y8,z8⟩:=y5.add Y (fun j f=>hP j (by omega)) (by rw[List.length_eraseIdx];split<;>omega) (s:=⟨z.2.2.client,z.2.2.conn,z.2.2.clean,if p then s.1.row else[]⟩) o4 pl s4 nl p4
  have m:cP (iW Z kept) z.2.2=some (iW (Z.eraseIdx U++[(⟨z.2.2.client,z.2.2.conn,z.2.2.clean,if p then s.1.row else[]⟩,y3)]) kept):=by
   unfold cP;rw[kL c1,show bO (iW Z kept).L z.2.2.client=some s.1 from f1];simp only[kL c2];rw[f2,j3];cases s.1.clean<;>cases z.2.2.clean<;>simp[iW]
  refine⟨h8,p,_,?_,fun M' M=>by rw[m]at M;exact(pB M).symm,y8,W.but.trans (ExtBut.trans ⟨z5.next,fun j f hp=>z5.get j f fun e=>hp (e▸x.pp.1)⟩ z8),by rw[kX,List.length_eraseIdx];split<;>simp,fun t d=>?_⟩
  ·rw[v4,m];simp only[u3,←j3];rw[u4];simp only[bGf,qS,sR,bF,O,e5,q1,l5,q2,q3,q4];rfl
  ·rcases mP.1 d with d|d
   ·exact ok t (List.mem_of_mem_eraseIdx d)
   ·rw[mC.1 d]
    cases p with
    |true=>exact ok s I
    |false=>exact⟨by simp,fun y hy=>by cases hy⟩
end
section
variable {D:CF}(Y:KD D)
include Y
def bEv (P:Nat→Prop)(h:H)(p k:Nat)(Z:kC SP)(kept:kC Msg)(n:cD)(v:kA)(b:H):Prop:=
 ∃(c:kC Nat) (r o:Bool) (Z':kC SP) (e:kC Msg),v=.tuple ⟨[str (iR c),.bool r,.bool o]⟩∧
  (match cY (fZ cA) (fB cA) (iW Z kept) n with|some a=>o=true∧c=a.1∧a.2=iW Z' e|none=>o=false)∧
  ModR P b p k Z' e∧ExtBut P h b∧Z'.length≤Z.length+1∧e.length≤kept.length+1∧lB Z'
def cBc (R:∀j,h.next≤j→P j)(x:ModR P h n l Z kept)(V:Z.length≤2^20){s:SP}(E:Z[i]?=some s){t:Nat}(a:Bs)(G:Pk.K3 (kA×H)):
 ∃k Z',aSw (CI D) h (aA n) (iN (i:Int)) (iU (t:Int)) (str a) (fun p h=>aRu h p G)=G (str a) (.bool false) (.bool true) k∧
  Z'=(if t=14∨t=0 then(if s.1.clean then Z.eraseIdx i else Z.set i ({s.1 with conn:=0},s.2))else Z)∧ModR P k n l Z' kept∧ExtBut P h k:=by
 have m:=(pX.1 E).1;by_cases B:t=14∨t=0
 ·rw[kM B];obtain⟨v,q,U,O,r,u,w,y,b,I,z⟩:=x.off E;have g:∀o:Pk.K4 (kA×H),bBo h (aA n) (iN (i:Int)) (iU (t:Int)) (str a) o=o (.bool true) (aA n) (iN (i:Int)) (str a) h:=fun o=>by
   by_cases L:t=14
   ·have d:decide ((t:Int)=14)=true:=kN (by omega);simp only[bBo,zQ,d,qS]
   ·have d:decide ((t:Int)=14)=false:=kO (by omega);have f:decide ((t:Int)=0)=true:=kN (by omega);simp only[bBo,zQ,d,f,qS]
  cases c:s.1.clean with
  |false=>
   rw[c]at b;refine⟨O,_,?_,rfl,I,z⟩;simp only[aSw,g,bGb,qS,sR,r,u,w,y,b,aRu]
  |true=>
   rw[c]at b;obtain⟨Q,M,J,K⟩:=V56 Y (fun j C=>R j (by have:=z.next;omega)) I (by rw[rB];omega) (i:=i) (by rw[rB];exact m);have N:(Z.set i ({s.1 with conn:=0},s.2)).eraseIdx i=Z.eraseIdx i:=by
    rw[List.eraseIdx_set_eq]
   rw[N]at J;refine⟨Q,_,?_,rfl,J,z.trans ⟨K.next,fun j C S=>K.get j C fun e=>S (e▸x.pp.1)⟩⟩;simp only[aSw,g,bGb,qS,sR,r,u,w,y,b,M,aRu]
 ·rw[kL B];have d:decide ((t:Int)=14)=false:=kO (by omega);have f:decide ((t:Int)=0)=false:=kO (by omega);refine⟨h,Z,?_,rfl,x,⟨kQ _,fun _ _ _=>rfl⟩⟩;simp only[aSw,bBo,bGb,zQ,d,f,qS,aRu]
def V34 (hP:∀j,h.next≤j→P j)(x:ModR P h n i Z kept)(hZ:Z.length≤2^20)(ok:lB Z)(hk:kept.length≤2^20)(hs:SliceE 2 h z.2.1 (aW z.2.2.subs))(sP:∀j,sid z.2.1=some j→¬P j)(o3:Sml z.2.2)(n3:∀y∈z.2.2.subs,y.2<256):
 ∃v o,CI D 34 [aA n,.agg ⟨nzC z⟩] h=some (v,o)∧bEv P h n i Z kept z.2.2 v o:=by
 obtain⟨e,N⟩:=eX (h.push (.cells (nzC z) (some 0)));have e1:A.box 35 (.agg ⟨nzC z⟩) h=some (aA h.next,e):=by rw[N];rfl
 have x1:Ext h e:=by rw[N];exact Ext.push h _
 have n1:e.next=h.next+1:=by rw[N];rfl
 have g:e.get h.next=some (.cells (nzC z) (some 0)):=by rw[N,H.get_push,kM rfl]
 obtain⟨P',C⟩:∃P':Nat→Prop,P'=fun j=>P j∧j≠h.next:=⟨_,rfl⟩;have M:∀j,e.next≤j→P' j:=fun j E=>by rw[C];exact⟨hP j (by omega),by omega⟩
 have xm:ModR P' e n i Z kept:=x.same x1.next (fun j _ E=>x1.get j E) fun j E hl=>by rw[C];exact⟨E,by omega⟩
 have nb:¬P' h.next:=by rw[C];exact fun g=>g.2 rfl
 have f:∀{o:H} {Z':kC SP} {kept':kC Msg},ModR P' o n i Z' kept'→ModR P o n i Z' kept':=fun y=>y.same (kQ _) (fun _ _ _=>rfl) fun j E _=>by rw[C]at E;exact E.1
 have b:∀{o:H},ExtBut P' e o→ExtBut P h o:=fun{o} y=>⟨by have:=y.next;omega,fun j E hp=>by rw[y.get j (by omega) (fun q=>hp (by rw[C]at q;exact q.1)),x1.get j E]⟩;have q:=fun L v o=>cDh L (aA n) (.agg ⟨nzC z⟩) h (r:=(v,o)) (Y.no 34 _ _ (by decide));have l0:=ldC g 0 (v:=iU (z.2.2.kind:Int)) rfl;have l2:=ldC g 2 (v:=iN z.2.2.conn) rfl;have l3:=ldC g 3 (v:=str z.2.2.client) rfl;have l4:=ldC g 4 (v:=iU (z.2.2.ptype:Int)) rfl;by_cases c5:z.2.2.kind=5
 ·have d5:decide ((z.2.2.kind:Int)=5)=true:=kN (by omega);obtain⟨v0,w,U,b2,ck,_⟩:=xm.box;have lm:A.load true 4 (.pointer (some ⟨h.next,28,none⟩)) e=some (.agg ⟨aG z.2.2.msg⟩):=by rw[aI,g];rfl
  obtain⟨h2,w',J,j3,sw,y2⟩:=V54 Y ck (by omega) z.2.2.msg;obtain⟨y3,y4⟩:=xm.kep M ck j3 sw y2;have ha:cY (fZ cA) (fB cA) (iW Z kept) z.2.2=if(fB cA z.2.2.msg.topic&&decide (z.2.2.msg.qos≤2))=true then some ([],iW Z (xY kept z.2.2.msg))else none:=by
   unfold cY;rw[kM c5];by_cases hq:fB cA z.2.2.msg.topic=true∧z.2.2.msg.qos≤2
   ·rw[kM hq,kM (by rw[pA,pW];exact hq)]
   ·rw[kL hq,kL (by rw[pA,pW];exact hq)]
  refine⟨_,h2,q 0 (.tuple ⟨[str [],.bool false,.bool (fB cA z.2.2.msg.topic&&decide (z.2.2.msg.qos≤2))]⟩) h2 ?_,[],false,_,Z,_,rfl,?_,f y3,b y4,by omega,?_,ok⟩
  ·simp only[F34,aRa,aWm,e1,aWl,qS,sR,l0,zQ,d5,(aR U).2,lm,J]
  ·rw[ha]
   cases(fB cA z.2.2.msg.topic&&decide (z.2.2.msg.qos≤2))with
   |true=>exact⟨rfl,rfl,rfl⟩
   |false=>rfl
  ·split
   ·exact wT _ _ _
   ·omega
 have d5:decide ((z.2.2.kind:Int)=5)=false:=kO (by omega);by_cases c2:z.2.2.kind≠2
 ·have d2:(!decide ((z.2.2.kind:Int)=2))=true:=by rw[kO (by omega)];rfl
  refine⟨_,e,q 0 (.tuple ⟨[str [],.bool false,.bool true]⟩) e ?_,[],false,true,Z,kept,rfl,?_,f xm,b ⟨kQ _,fun _ _ _=>rfl⟩,by omega,by omega,ok⟩
  ·simp only[F34,aRa,aWm,e1,aWl,bBs,qS,sR,l0,zQ,d5,bA,d2]
  ·unfold cY;rw[kL c5,kM c2];exact⟨rfl,rfl,rfl⟩
 have d2:(!decide ((z.2.2.kind:Int)=2))=false:=by rw[kN (by omega)];rfl
 obtain⟨v0,w,U,b2,ck,_⟩:=xm.box;have K:=V55 Y U b2 (by omega) z.2.2.client;by_cases c1:z.2.2.ptype=1
 ·have d1:decide ((z.2.2.ptype:Int)=1)=true:=kN (by omega);obtain⟨h2,pr,Z',J,cM,y2,z2,lz,W⟩:=cBd Y g (by omega) M xm hZ ok (fun X x5 x6 h=>some (Value.tuple ⟨[X,x5,x6]⟩,h));refine⟨_,h2,q 0 (.tuple ⟨[str [],.bool pr,.bool (cP (iW Z kept) z.2.2).isSome]⟩) h2 ?_,[],pr,_,Z',kept,rfl,?_,f y2,b z2,lz,by omega,W⟩
  ·simp only[F34,aRa,aWm,e1,aWl,bBs,bIy,bGg,qS,sR,l0,zQ,d5,bA,d2,l3,K,l4,d1];exact J
  ·unfold cY;rw[kL c5,kL c2,kM c1]
   cases hM:cP (iW Z kept) z.2.2 with
   |none=>rfl
   |some M'=>exact⟨rfl,rfl,cM M' hM⟩
 have d1:decide ((z.2.2.ptype:Int)=1)=false:=kO (by omega);have p:cY (fZ cA) (fB cA) (iW Z kept) z.2.2=none→(∀R:Pk.K5 (kA×H),aKb e (aA n) (aA h.next) (fV (oM Z z.2.2.client)) (iU (z.2.2.ptype:Int)) R=R (.bool true) (aA h.next) (iU (z.2.2.ptype:Int)) (aA n) (fV (oM Z z.2.2.client)) e)→
  ∃v o,CI D 34 [aA n,.agg ⟨nzC z⟩] h=some (v,o)∧bEv P h n i Z kept z.2.2 v o:=fun ha hg=>by
  refine⟨_,e,q 0 (.tuple ⟨[str [],.bool false,.bool false]⟩) e ?_,[],false,false,Z,kept,rfl,by rw[ha],f xm,b ⟨kQ _,fun _ _ _=>rfl⟩,by omega,by omega,ok⟩;simp only[F34,aRa,aWm,e1,aWl,bBs,bIy,bGg,bPg,qS,sR,l0,zQ,d5,bA,d2,l3,K,l4,d1,bRy];refine(hg _).trans ?_;simp only[bPf,qS]
  try rfl
 have a:cY (fZ cA) (fB cA) (iW Z kept) z.2.2=match bO (Z.map (·.1)) z.2.2.client with
  |none=>none
  |some x=>
   if z.2.2.conn<1∨x.conn≠z.2.2.conn then none
   else if z.2.2.ptype=8 then some ((nD (fZ cA) x.row z.2.2.subs).1,{iW Z kept with L:=tZ (Z.map (·.1)) z.2.2.client fun x=>{x with row:=(nD (fZ cA) x.row z.2.2.subs).2}})
   else if z.2.2.ptype=10 then some ([],{iW Z kept with L:=tZ (Z.map (·.1)) z.2.2.client fun x=>{x with row:=uJ x.row z.2.2.subs}})
   else if z.2.2.ptype=14∨z.2.2.ptype=0 then some ([],{iW Z kept with L:=if x.clean then lO (Z.map (·.1)) z.2.2.client else tZ (Z.map (·.1)) z.2.2.client fun x=>{x with conn:=0}})
   else none:=by
  unfold cY;rw[kL c5,kL c2,kL c1];rfl
 cases hf:oM Z z.2.2.client with
 |none=>
  rw[uS hf]at a;have dm:decide ((-1:Int)<0)=true:=by decide
  rw[hf]at p;exact p a fun R=>by simp only[aKb,zZ,dm,qS]
 |some i3=>
  obtain⟨s,O,q3,f1,f2,f3⟩:=uR hf;rw[f1]at a
  dsimp only at a
  have k3:=(pX.1 O).1;have di:decide ((i3:Int)<0)=false:=kO (by omega);obtain⟨s3,qq,ei,_,_,lc,_,_,_⟩:=lD b2.slice O;rw[hf]at p K;by_cases g1:z.2.2.conn<1
  ·rw[kM (.inl g1)]at a;have V:=kN g1;exact p a fun R=>by simp only[aKb,zZ,di,qS,sR,l2,V]
  have V:=kO g1;by_cases g2:s.1.conn≠z.2.2.conn
  ·rw[kM (.inr g2)]at a;have B:(!decide (s.1.conn=z.2.2.conn))=true:=by simpa using g2
   exact p a fun R=>by simp only[aKb,zZ,di,qS,sR,l2,V,(aR U).1,ei,lc,bA,B]
  have B:(!decide (s.1.conn=z.2.2.conn))=false:=by simpa using g2
  rw[kL (fun h=>h.elim g1 g2)]at a;have u:∀R:Pk.K5 (kA×H),aKb e (aA n) (aA h.next) (iN (i3:Int)) (iU (z.2.2.ptype:Int)) R=R (.bool (decide (z.2.2.ptype≠8∧z.2.2.ptype≠10∧z.2.2.ptype≠14∧z.2.2.ptype≠0))) (aA h.next) (iU (z.2.2.ptype:Int)) (aA n) (iN (i3:Int)) e:=fun R=>by
   have I:decide ((z.2.2.ptype:Int)=8)=decide (z.2.2.ptype=8):=mK.2 (by omega);have d:decide ((z.2.2.ptype:Int)=10)=decide (z.2.2.ptype=10):=mK.2 (by omega);have k:decide ((z.2.2.ptype:Int)=14)=decide (z.2.2.ptype=14):=mK.2 (by omega);have t0:decide ((z.2.2.ptype:Int)=0)=decide (z.2.2.ptype=0):=mK.2 (by omega);have tt:decide (z.2.2.ptype≠8∧z.2.2.ptype≠10∧z.2.2.ptype≠14∧z.2.2.ptype≠0)=(!decide (z.2.2.ptype=8)&&(!decide (z.2.2.ptype=10)&&(!decide (z.2.2.ptype=14)&&!decide (z.2.2.ptype=0)))):=by simp
   rw[tt]
   cases q8:decide (z.2.2.ptype=8)with
   |true=>rw[q8]at I;simp only[aKb,zZ,di,qS,sR,l2,V,(aR U).1,ei,lc,bA,B,I,mG]
   |false=>
    rw[q8]at I
    cases b3:decide (z.2.2.ptype=10)with
    |true=>rw[b3]at d;simp only[aKb,zZ,di,qS,sR,l2,V,(aR U).1,ei,lc,bA,B,I,d,mG,mF]
    |false=>
     rw[b3]at d
     cases d3:decide (z.2.2.ptype=14)with
     |true=>rw[d3]at k;simp only[aKb,zZ,di,qS,sR,l2,V,(aR U).1,ei,lc,bA,B,I,d,k,mG,mF]
     |false=>
      rw[d3]at k;simp only[aKb,zZ,di,qS,sR,l2,V,(aR U).1,ei,lc,bA,B,I,d,k,t0,mF]
  by_cases g3:z.2.2.ptype≠8∧z.2.2.ptype≠10∧z.2.2.ptype≠14∧z.2.2.ptype≠0
  ·rw[kN g3]at u;rw[kL g3.1,kL g3.2.1,kL (fun h=>h.elim g3.2.2.1 g3.2.2.2)]at a;exact p a u
  rw[kO g3]at u;have W:=ok s (sY O);obtain⟨h2,J,y2,z2,S⟩:=cMg Y g ⟨by omega,nb⟩ (hs.ext x1) (fun j E hp=>sP j E (by rw[C]at hp;exact hp.1)) o3 n3 (fun x8 x0 x7 m h=>aSw (CI D) h x0 x7 x8 m (fun m h=>aRu h m fun X x5 x6 h=>some (Value.tuple ⟨[X,x5,x6]⟩,h))) (L:=z.2.2.subs.length+1) (i:=i3) (l:=s.2) z.2.2.subs.length 0 (z.2.2.subs.length+1) e Z s.1 [] (by omega) (by omega) ⟨kQ _,fun _ _ _=>rfl⟩ M xm O W (kQ _);have J:aMq (CI D) _ (fun x8 x0 x7 m h=>aSw (CI D) h x0 x7 x8 m (fun m h=>aRu h m fun X x5 x6 h=>some (Value.tuple ⟨[X,x5,x6]⟩,h))) _ (iN 0) (aA h.next) (iU (z.2.2.ptype:Int)) (aA n) (iN (i3:Int)) (.string ⟨⟨[]⟩⟩) e=_:=J;rw[mI]at J y2 S;obtain⟨r2,c⟩:=eX (z.2.2.subs.foldl (jO z.2.2.ptype) ([],s.1.row));rw[←c]at J y2 S;obtain⟨h3,Z3,e3,G,y3,z3⟩:=cBc Y (fun j E=>M j (by have:=z2.next;omega)) y2 (by rw[rB];exact hZ) (i:=i3) (s:=({s.1 with row:=r2.2},s.2)) (by rw[rE];simp[k3]) (t:=z.2.2.ptype) (iR r2.1) (fun X x5 x6 h=>some (Value.tuple ⟨[X,x5,x6]⟩,h));have a3:Z3.length≤Z.length+1:=by
   rw[G]
   repeat' split
   ·rw[List.length_eraseIdx,rB];split<;>omega
   ·rw[rB,rB];omega
   ·rw[rB];omega
  have m3:lB Z3:=by
   have h0:lB (Z.set i3 ({s.1 with row:=r2.2},s.2)):=fun t Q=>by
    rcases List.mem_or_eq_of_mem_set Q with Q|rfl
    ·exact ok t Q
    ·exact S
   rw[G]
   repeat' split
   ·exact fun t Q=>h0 t (List.mem_of_mem_eraseIdx Q)
   ·intro t Q;rcases List.mem_or_eq_of_mem_set Q with Q|rfl
    ·exact h0 t Q
    ·exact S
   ·exact h0
  refine⟨_,h3,q (z.2.2.subs.length+1) (.tuple ⟨[str (iR r2.1),.bool false,.bool true]⟩) h3 ?_,r2.1,false,true,Z3,kept,rfl,?_,f y3,b (z2.trans z3),a3,by omega,m3⟩
  ·simp only[F34,aRa,aWm,e1,aWl,bBs,bIy,bGg,bPg,qS,sR,l0,zQ,d5,bA,d2,l3,K,l4,d1,bRy,u,bPf,cGa,bSx,cFz];rw[J];exact e3
  ·rw[a];by_cases I:z.2.2.ptype=8
   ·rw[kM I];rw[I,aNw]at c;refine⟨rfl,by rw[c];rfl,?_⟩;rw[G,kL (by omega),f3 _ s.2,c]
   rw[kL I];by_cases d:z.2.2.ptype=10
   ·rw[kM d];rw[d,aIh]at c;refine⟨rfl,by rw[c],?_⟩;rw[G,kL (by omega),f3 _ s.2,c]
   rw[kL d];rw[aIg I d]at c;have k:z.2.2.ptype=14∨z.2.2.ptype=0:=by omega
   rw[kM k];refine⟨rfl,by rw[c],?_⟩;rw[G,kM k,c]
   cases p3:s.1.clean with
   |true=>
    simp only[mE];rw[f2,List.eraseIdx_set_eq]
   |false=>
    simp only[pP,mD];rw[f3 _ s.2,List.set_set]
end
end Go.Proofs.YtbmdhjdgpeleoaaGreatDoor.Ra
