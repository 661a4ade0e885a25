import Derived.Test.YtohapjojkjjflaaGreatDoorRf
import Derived.Test.YtohapjojkjjflaaGreatDoorRr
import Derived.Lib.Bytealg
set_option maxRecDepth 100000
namespace Go.Proofs.YtohapjojkjjflaaGreatDoor.Wz
open Go Go.AM
def PM:List UInt8:=[43,35]
def pmC (c:Nat):Bool:=decide (c=43∨c=35)
def nJ (s:List UInt8):Nat→Nat→Bool
 |0,_=>false
 |f+1,pos=>match A.zL ⟨⟨s⟩⟩ pos with
  |none=>false
  |some (c,w)=>pmC c||nJ s f (pos+w)
def sD (s:List UInt8):Bool:=if 8<s.length then s.any (fun b=>pmC b.toNat)else nJ s (s.length+1) 0
def SL:List UInt8:=[47]
def jY:Nat→List UInt8→List (List UInt8)
 |0,s=>[s]
 |n+1,s=>if Lib.indexByte s 47<0 then[s]else s.take (Lib.indexByte s 47).toNat::jY n (s.drop ((Lib.indexByte s 47).toNat+1))
def cZ (s:List UInt8):List (List UInt8):=jY (if s.length<Lib.countByte s 47 then s.length else Lib.countByte s 47) s
def nmB (val:List UInt8→Bool)(s:List UInt8):Bool:=if s=[]then false else if val s then !sD s else false
def fiL (n:Nat):Nat→List (List UInt8)→Bool
 |_,[]=>true
 |i,x::l=>if(x=[35]∧i+1=n)∨x=[43]then fiL n (i+1) l else if sD x then false else fiL n (i+1) l
def fiB (val:List UInt8→Bool)(s:List UInt8):Bool:=if s=[]then false else if val s then fiL (cZ s).length 0 (cZ s)else false
def fO (c:Nat):Nat:=(Go.Pinned.utf8FirstZ[c]?).getD 0
def whG (z lo hi:Nat)(t:List UInt8):Bool:=
 if t.length+1<z then false else
 match t with
 |[]=>false
 |b::t2=>
  if b.toNat<lo then false else if hi<b.toNat then false else
  if z≤2 then true else
  match t2 with
  |[]=>false
  |d::t3=>
   if d.toNat<128 then false else if 191<d.toNat then false else
   if z≤3 then true else
   match t3 with
   |[]=>false
   |e::_=>if e.toNat<128 then false else if 191<e.toNat then false else true
def whB (A:List Nat):List UInt8→Bool
 |[]=>false
 |c::t=>if 240≤fO c.toNat then false else whG (fO c.toNat%8) ((A[2*(fO c.toNat / 16)]?).getD 0) ((A[2*(fO c.toNat / 16)+1]?).getD 0) t
def mF (T:List Nat)(s:List UInt8):Nat→Nat→Bool
 |0,_=>true
 |f+1,pos=>match A.zL ⟨⟨s⟩⟩ pos with
  |none=>true
  |some (c,w)=>if c=0 then false else if c=65533 then(if whB T (s.drop pos)then mF T s f (pos+w)else false)else mF T s f (pos+w)
def iX (T:List Nat)(s:List UInt8):Bool:=if 65535<s.length then false else mF T s (s.length+1) 0
def dA (c:Nat):Nat:=if c<128 then 1 else if 192≤c∧c<224 then 2 else if 224≤c∧c<240 then 3 else if 240≤c∧c<248 then 4 else 0
def dC (n:Nat):Nat:=if n=0 then 0 else if n=1 then 1 else if n=2 then 128 else if n=3 then 2048 else 65536
def oP (n:Nat):Nat:=if n=2 then 192 else if n=3 then 224 else if n=4 then 240 else 0
def fF:Nat→List UInt8→Nat→Option Nat
 |0,_,c=>some c
 |_+1,[],_=>none
 |n+1,b::t,c=>if b.toNat<128∨191<b.toNat then none else fF n t (64*c+b.toNat-128)
def chR:List UInt8→Nat×Nat
 |[]=>(0,0)
 |a::t=>if dA a.toNat=0∨t.length+1<dA a.toNat then(0,0)else
  match fF (dA a.toNat-1) t (a.toNat-oP (dA a.toNat))with
  |none=>(0,0)
  |some c=>if c<dC (dA a.toNat)∨1114111<c∨55296≤c∧c≤57343 then(0,0)else(c,dA a.toNat)
def aBm:Nat→List UInt8→Bool
 |0,_=>true
 |f+1,l=>if l=[]then true else if(chR l).2=0 then false else aBm f (l.drop (chR l).2)
def dI (s:List UInt8):Bool:=if 65535<s.length then false else aBm (s.length+1) s
def eE (a:Nat)(t:List UInt8):Nat×Nat:=
 let g (k:Nat):Nat:=((t[k]?).getD 0).toNat;let ct (k:Nat):Bool:=decide (k<t.length)&&g k / 64==2
 if a<0x80 then(a,1)
 else if a / 32==6&&ct 0 then
  let c:=(a%32)*64+g 0%64
  if c≥0x80 then(c,2)else(65533,1)
 else if a / 16==14&&ct 0&&ct 1 then
  let c:=(a%16)*4096+(g 0%64)*64+g 1%64
  if c≥0x800&&Utf8.valid c then(c,3)else(65533,1)
 else if a / 8==30&&ct 0&&ct 1&&ct 2 then
  let c:=(a%8)*262144+(g 0%64)*4096+(g 1%64)*64+g 2%64
  if c≥0x10000&&Utf8.valid c then(c,4)else(65533,1)
 else(65533,1)
theorem aJh (s:List UInt8)(i:Nat):(⟨⟨s⟩⟩:ByteArray).get! i=(s[i]?).getD 0:=by
 show(⟨s⟩:Array UInt8)[i]! =_;rw[getElem!_def,pG];cases s[i]?<;>rfl
theorem qO {s:List UInt8}{pos:Nat}{a:UInt8}{t:List UInt8}(e:s.drop pos=a::t):A.zL ⟨⟨s⟩⟩ pos=some (eE a.toNat t):=by
 have ga:s[pos]?=some a:=by
  have:=congrArg (fun l:List UInt8=>l[0]?) e;simpa using this
 have gt:∀k,s[pos+(k+1)]?=t[k]?:=fun k=>by
  have:=congrArg (fun l:List UInt8=>l[k+1]?) e;simpa using this
 have hl:s.length=pos+(t.length+1):=by
  have h1:=congrArg List.length e;rw[kU,kM]at h1;have:=(List.getElem?_eq_some_iff.1 ga).1;omega
 unfold A.zL;rw[show(⟨⟨s⟩⟩:ByteArray).data.toList[pos]?=some a from ga];have h0:((⟨⟨s⟩⟩:ByteArray).get! (pos+0)).toNat=a.toNat:=by rw[aJh,Nat.add_zero,ga];rfl
 have hk:∀k,((⟨⟨s⟩⟩:ByteArray).get! (pos+(k+1))).toNat=((t[k]?).getD 0).toNat:=fun k=>by rw[aJh,gt]
 have hs:(⟨⟨s⟩⟩:ByteArray).size=pos+(t.length+1):=hl;have hc:∀k,(decide (pos+(k+1)<(⟨⟨s⟩⟩:ByteArray).size))=decide (k<t.length):=fun k=>by rw[hs];exact decide_eq_decide.2 (by omega)
 simp only
 cases hb:Nat.blt a.toNat 128 with
 |true=>
  have:=blt_iff.1 hb;unfold eE;rw[kB this];rfl
 |false=>
  have:¬a.toNat<128:=fun h=>by rw[blt_iff.2 h]at hb;cases hb
  simp only[cond_false,Utf8.decode,h0,hk 0,hk 1,hk 2,hc 0,hc 1,hc 2,Nat.zero_add,Nat.reduceAdd,eE,Utf8.runeError]
def fnR (c:Nat):Nat:=if c<128 then 240 else if c<194 then 241 else if c<224 then 2 else if c=224 then 19 else if c=237 then 35 else if c<240 then 3 else if c=240 then 52 else if c<244 then 4 else if c=244 then 68 else 241
theorem aDb {c:Nat}(h:c<256):fO c=fnR c:=by
 have all:((List.range 256).all fun c=>Nat.beq (fO c) (fnR c))=true:=by kernel_rfl
 exact Nat.eq_of_beq_eq_true (List.all_eq_true.1 all c (List.mem_range.2 h))
def RA:List Nat:=[128,191,160,191,128,159,144,191,128,143]++List.replicate 22 0
def okC (c:Nat)(l:List UInt8):Bool:=if c=0 then false else if c=65533 then whB RA l else true
theorem sE (c:Nat):Utf8.valid (c:Int)=decide (c<55296∨57344≤c∧c≤1114111):=by
 unfold Utf8.valid;rw[Bool.eq_iff_iff];simp only[Bool.or_eq_true,kO,pI];omega
theorem aMj {b:Nat}(h:b<256):(b / 64==2)=decide (128≤b∧b≤191):=by
 rw[Bool.eq_iff_iff,beq_iff_eq,pI];omega
theorem cQ (a:UInt8)(t:List UInt8):chR (a::t)=if dA a.toNat=0∨t.length+1<dA a.toNat then(0,0)else
 match fF (dA a.toNat-1) t (a.toNat-oP (dA a.toNat))with
 |none=>(0,0)
 |some c=>if c<dC (dA a.toNat)∨1114111<c∨55296≤c∧c≤57343 then(0,0)else(c,dA a.toNat):=rfl
theorem mV (a:UInt8)(t:List UInt8):whB RA (a::t)=if 240≤fnR a.toNat then false else whG (fnR a.toNat%8) ((RA[2*(fnR a.toNat / 16)]?).getD 0) ((RA[2*(fnR a.toNat / 16)+1]?).getD 0) t:=by
 rw[←aDb a.toNat_lt];rfl
def OkC (a:UInt8)(t:List UInt8):Prop:=(chR (a::t)).2=if okC (eE a.toNat t).1 (a::t)then(eE a.toNat t).2 else 0
theorem OkC.bad {a:UInt8}{t:List UInt8}(hd:eE a.toNat t=(65533,1))(hw:whB RA (a::t)=false)(hc:(chR (a::t)).2=0):OkC a t:=by
 unfold OkC okC;rw[hd,hw,hc];simp
theorem OkC.good {a:UInt8}{t:List UInt8}{c n:Nat}(hd:eE a.toNat t=(c,n))(h0:c≠0)(hw:c=65533→whB RA (a::t)=true)(hc:(chR (a::t)).2=n):OkC a t:=by
 unfold OkC okC;rw[hd,hc];simp only;by_cases h:c=65533
 ·rw[kA h0,kB h,hw h];rfl
 ·rw[kA h0,kA h];rfl
theorem bBt {a:UInt8}{t:List UInt8}(h:a.toNat<128):OkC a t:=by
 have hs:dA a.toNat=1:=by unfold dA;rw[kB h]
 have hd:eE a.toNat t=(a.toNat,1):=by unfold eE;rw[kB h]
 have hc:chR (a::t)=if a.toNat<1∨1114111<a.toNat∨55296≤a.toNat∧a.toNat≤57343 then(0,0)else(a.toNat,1):=by
  rw[cQ,hs,kA (by omega)];rfl
 by_cases h0:a.toNat=0
 ·unfold OkC okC;rw[hd,hc,kB (by omega),h0];rfl
 ·exact OkC.good hd h0 (fun e=>by omega) (by rw[hc,kA (by omega)])
theorem aJd {a:UInt8}{t:List UInt8}(h:128≤a.toNat∧a.toNat<192∨248≤a.toNat):OkC a t:=by
 have ha:=a.toNat_lt;have hs:dA a.toNat=0:=by unfold dA;rw[kA (by omega),kA (by omega),kA (by omega),kA (by omega)]
 have n1:(a.toNat / 32==6)=false:=by rw[beq_eq_false_iff_ne];omega
 have n2:(a.toNat / 16==14)=false:=by rw[beq_eq_false_iff_ne];omega
 have n3:(a.toNat / 8==30)=false:=by rw[beq_eq_false_iff_ne];omega
 refine OkC.bad ?_ ?_ ?_
 ·unfold eE;rw[kA (by omega)];simp only[n1,n2,n3,Bool.false_and,pB,if_false]
 ·rw[mV,kB];unfold fnR
  repeat' split
  all_goals omega
 ·rw[cQ,hs,kB (Or.inl rfl)]
theorem bBs {a:UInt8}{t:List UInt8}(h:192≤a.toNat∧a.toNat<224):OkC a t:=by
 have hs:dA a.toNat=2:=by unfold dA;rw[kA (by omega),kB h]
 have n1:(a.toNat / 32==6)=true:=by rw[beq_iff_eq];omega
 have n2:(a.toNat / 16==14)=false:=by rw[beq_eq_false_iff_ne];omega
 have n3:(a.toNat / 8==30)=false:=by rw[beq_eq_false_iff_ne];omega
 have hf:fnR a.toNat=if a.toNat<194 then 241 else 2:=by
  unfold fnR;rw[kA (by omega)];split
  ·rfl
  ·rw[kB (by omega)]
 have hw:whB RA (a::t)=if a.toNat<194 then false else whG 2 128 191 t:=by
  rw[mV,hf];split
  ·rfl
  ·rfl
 cases t with
 |nil=>
  refine OkC.bad ?_ (by rw[hw];split<;>rfl) (by rw[cQ,hs,kB (Or.inr (by simp))])
  unfold eE;rw[kA (by omega)];simp[n1,n2,n3]
 |cons b t=>
  have hb:=b.toNat_lt;have cb:=aMj hb;have hd:eE a.toNat (b::t)=if 128≤b.toNat∧b.toNat≤191∧128≤a.toNat%32*64+b.toNat%64 then(a.toNat%32*64+b.toNat%64,2)else(65533,1):=by
   unfold eE;rw[kA (by omega)];simp only[n1,n2,n3,kY,pC,cb,kM];by_cases h1:128≤b.toNat∧b.toNat≤191
   ·simp[h1]
   ·simp[h1];intro h2 h3;omega
  have hc:(chR (a::b::t)).2=if 128≤b.toNat∧b.toNat≤191∧128≤a.toNat%32*64+b.toNat%64 then 2 else 0:=by
   rw[cQ,hs,kA (by simp)];show(match fF 1 (b::t) (a.toNat-192)with|none=>(0,0)|some c=>_:Nat×Nat).2=_
   unfold fF;by_cases h1:b.toNat<128∨191<b.toNat
   ·rw[kB h1,kA (by omega)]
   ·rw[kA h1];have l2:dC 2=128:=rfl;show(if 64*(a.toNat-192)+b.toNat-128<dC 2∨_ then _ else _:Nat×Nat).2=_
    by_cases h2:128≤a.toNat%32*64+b.toNat%64
    ·rw[kA (by omega),kB (by omega)]
    ·rw[kB (by omega),kA (by omega)]
  by_cases h1:128≤b.toNat∧b.toNat≤191∧128≤a.toNat%32*64+b.toNat%64
  ·rw[kB h1]at hd hc;exact OkC.good hd (by omega) (fun e=>by omega) hc
  ·rw[kA h1]at hd hc;refine OkC.bad hd ?_ hc;rw[hw];split
   ·rfl
   ·unfold whG;rw[kA (by simp)];simp only;by_cases h2:b.toNat<128
    ·rw[kB h2]
    ·rw[kA h2,kB (by omega)]
theorem cFm {lo hi:Nat}{b d:UInt8}{r:List UInt8}(z:Nat)(hz:z=3):whG z lo hi (b::d::r)=decide (lo≤b.toNat∧b.toNat≤hi∧128≤d.toNat∧d.toNat≤191):=by
 subst hz;unfold whG;rw[kA (by simp),Bool.eq_iff_iff];simp only[pI];by_cases h1:b.toNat<lo
 ·rw[kB h1];constructor
  ·intro h;cases h
  ·omega
 rw[kA h1];by_cases h2:hi<b.toNat
 ·rw[kB h2];constructor
  ·intro h;cases h
  ·omega
 rw[kA h2,kA (by omega)];by_cases h3:d.toNat<128
 ·rw[kB h3];constructor
  ·intro h;cases h
  ·omega
 rw[kA h3];by_cases h4:191<d.toNat
 ·rw[kB h4];constructor
  ·intro h;cases h
  ·omega
 rw[kA h4,kB (by omega)];constructor
 ·intro _;omega
 ·intro _;rfl
theorem cFl {lo hi:Nat}{b d e:UInt8}{r:List UInt8}(z:Nat)(hz:z=4):whG z lo hi (b::d::e::r)=decide (lo≤b.toNat∧b.toNat≤hi∧128≤d.toNat∧d.toNat≤191∧128≤e.toNat∧e.toNat≤191):=by
 subst hz;unfold whG;rw[kA (by simp),Bool.eq_iff_iff];simp only[pI];by_cases h1:b.toNat<lo
 ·rw[kB h1];constructor
  ·intro h;cases h
  ·omega
 rw[kA h1];by_cases h2:hi<b.toNat
 ·rw[kB h2];constructor
  ·intro h;cases h
  ·omega
 rw[kA h2,kA (by omega)];by_cases h3:d.toNat<128
 ·rw[kB h3];constructor
  ·intro h;cases h
  ·omega
 rw[kA h3];by_cases h4:191<d.toNat
 ·rw[kB h4];constructor
  ·intro h;cases h
  ·omega
 rw[kA h4,kA (by omega)];by_cases h5:e.toNat<128
 ·rw[kB h5];constructor
  ·intro h;cases h
  ·omega
 rw[kA h5];by_cases h6:191<e.toNat
 ·rw[kB h6];constructor
  ·intro h;cases h
  ·omega
 rw[kA h6];constructor
 ·intro _;omega
 ·intro _;rfl
def lo3 (x:Nat):Nat:=if x=224 then 160 else 128
def hi3 (x:Nat):Nat:=if x=237 then 159 else 191
def lo4 (x:Nat):Nat:=if x=240 then 144 else 128
def hi4 (x:Nat):Nat:=if x=244 then 143 else 191
theorem bBr {a:UInt8}{t:List UInt8}(h:224≤a.toNat∧a.toNat<240):OkC a t:=by
 have hs:dA a.toNat=3:=by unfold dA;rw[kA (by omega),kA (by omega),kB h]
 have n1:(a.toNat / 32==6)=false:=by rw[beq_eq_false_iff_ne];omega
 have n2:(a.toNat / 16==14)=true:=by rw[beq_iff_eq];omega
 have n3:(a.toNat / 8==30)=false:=by rw[beq_eq_false_iff_ne];omega
 have hw:whB RA (a::t)=whG 3 (lo3 a.toNat) (hi3 a.toNat) t:=by
  rw[mV];unfold fnR lo3 hi3;rw[kA (show¬a.toNat<128 by omega),kA (show¬a.toNat<194 by omega),kA (show¬a.toNat<224 by omega)];by_cases e1:a.toNat=224
  ·rw[kB e1,kB e1,kA (show¬a.toNat=237 by omega)];rfl
  ·rw[kA e1,kA e1];by_cases e2:a.toNat=237
   ·rw[kB e2,kB e2];rfl
   ·rw[kA e2,kA e2,kB h.2];rfl
 match t,hw with
 |[],hw=>
  refine OkC.bad ?_ (by rw[hw];rfl) (by rw[cQ,hs,kB (Or.inr (by simp))]);unfold eE;rw[kA (by omega)];simp[n1,n2,n3]
 |[b],hw=>
  refine OkC.bad ?_ (by rw[hw];rfl) (by rw[cQ,hs,kB (Or.inr (by simp))]);unfold eE;rw[kA (by omega)];simp[n1,n2,n3]
 |b::d::r,hw=>
  have hb:=b.toNat_lt;have hd':=d.toNat_lt;have cb:=aMj hb;have cd:=aMj hd';obtain⟨c,hcc⟩:∃c,c=a.toNat%16*4096+b.toNat%64*64+d.toNat%64:=⟨_,rfl⟩;have hd:eE a.toNat (b::d::r)=if(128≤b.toNat∧b.toNat≤191)∧(128≤d.toNat∧d.toNat≤191)∧2048≤c∧(c<55296∨57344≤c)then(c,3)else(65533,1):=by
   unfold eE;rw[kA (by omega)];simp only[n1,n2,n3,kY,kZ,pC,cb,cd,kM,sE,Bool.false_and,Bool.true_and,pB,if_false,Nat.zero_lt_succ,decide_true,show(1<r.length+1+1)=True from eq_true (by omega),←hcc];by_cases h1:128≤b.toNat∧b.toNat≤191
   ·by_cases h2:128≤d.toNat∧d.toNat≤191
    ·simp only[h1,h2,decide_true,Bool.true_and,and_self,if_true,true_and];by_cases h3:2048≤c∧(c<55296∨57344≤c)
     ·rw[kB h3,kB];rw[kO,pI,pI];omega
     ·rw[kA h3,kA];rw[kO,pI,pI];omega
    ·simp only[h1,h2,decide_true,decide_false,Bool.and_false,pB,if_false,false_and,and_false,and_self]
   ·simp only[h1,decide_false,Bool.false_and,Bool.and_false,pB,if_false,false_and]
  have hc:(chR (a::b::d::r)).2=if(128≤b.toNat∧b.toNat≤191)∧(128≤d.toNat∧d.toNat≤191)∧2048≤c∧(c<55296∨57344≤c)then 3 else 0:=by
   rw[cQ,hs,kA (by simp)];show(match fF 2 (b::d::r) (a.toNat-224)with|none=>(0,0)|some c=>_:Nat×Nat).2=_
   unfold fF;by_cases h1:b.toNat<128∨191<b.toNat
   ·rw[kB h1,kA (by omega)]
   ·rw[kA h1];unfold fF;by_cases h2:d.toNat<128∨191<d.toNat
    ·rw[kB h2,kA (by omega)]
    ·rw[kA h2];have l2:dC 3=2048:=rfl;show(if 64*(64*(a.toNat-224)+b.toNat-128)+d.toNat-128<dC 3∨_ then _ else _:Nat×Nat).2=_
     by_cases h3:2048≤c∧(c<55296∨57344≤c)
     ·rw[kA (by omega),kB (by omega)]
     ·rw[kB (by omega),kA (by omega)]
  rw[cFm 3 rfl]at hw;by_cases h1:(128≤b.toNat∧b.toNat≤191)∧(128≤d.toNat∧d.toNat≤191)∧2048≤c∧(c<55296∨57344≤c)
  ·rw[kB h1]at hd hc;refine OkC.good hd (by omega) (fun e=>?_) hc;rw[hw,pI];unfold lo3 hi3;rw[kA (by omega),kA (by omega)];omega
  ·rw[kA h1]at hd hc;refine OkC.bad hd ?_ hc;rw[hw,kI];unfold lo3 hi3;split<;>split<;>omega
theorem bBq {a:UInt8}{t:List UInt8}(h:240≤a.toNat∧a.toNat<248):OkC a t:=by
 have hs:dA a.toNat=4:=by unfold dA;rw[kA (by omega),kA (by omega),kA (by omega),kB h]
 have n1:(a.toNat / 32==6)=false:=by rw[beq_eq_false_iff_ne];omega
 have n2:(a.toNat / 16==14)=false:=by rw[beq_eq_false_iff_ne];omega
 have n3:(a.toNat / 8==30)=true:=by rw[beq_iff_eq];omega
 have hw:whB RA (a::t)=if 244<a.toNat then false else whG 4 (lo4 a.toNat) (hi4 a.toNat) t:=by
  rw[mV];unfold fnR lo4 hi4;rw[kA (show¬a.toNat<128 by omega),kA (show¬a.toNat<194 by omega),kA (show¬a.toNat<224 by omega),kA (show¬a.toNat=224 by omega),kA (show¬a.toNat=237 by omega),kA (show¬a.toNat<240 by omega)];by_cases e1:a.toNat=240
  ·rw[kB e1,kB e1,kA (show¬244<a.toNat by omega),kA (show¬a.toNat=244 by omega)];rfl
  ·rw[kA e1,kA e1];by_cases e2:a.toNat<244
   ·rw[kB e2,kA (show¬244<a.toNat by omega),kA (show¬a.toNat=244 by omega)];rfl
   ·rw[kA e2];by_cases e3:a.toNat=244
    ·rw[kB e3,kA (show¬244<a.toNat by omega),kB e3];rfl
    ·rw[kA e3,kB (show 244<a.toNat by omega)];rfl
 match t,hw with
 |[],hw=>
  refine OkC.bad ?_ (by rw[hw];split<;>rfl) (by rw[cQ,hs,kB (Or.inr (by simp))])
  unfold eE;rw[kA (by omega)];simp[n1,n2,n3]
 |[b],hw=>
  refine OkC.bad ?_ (by rw[hw];split<;>rfl) (by rw[cQ,hs,kB (Or.inr (by simp))])
  unfold eE;rw[kA (by omega)];simp[n1,n2,n3]
 |[b,d],hw=>
  refine OkC.bad ?_ (by rw[hw];split<;>rfl) (by rw[cQ,hs,kB (Or.inr (by simp))])
  unfold eE;rw[kA (by omega)];simp[n1,n2,n3]
 |b::d::e::r,hw=>
  have hb:=b.toNat_lt;have hd':=d.toNat_lt;have he':=e.toNat_lt;have cb:=aMj hb;have cd:=aMj hd';have ce:=aMj he';obtain⟨c,hcc⟩:∃c,c=a.toNat%8*262144+b.toNat%64*4096+d.toNat%64*64+e.toNat%64:=⟨_,rfl⟩;have hd:eE a.toNat (b::d::e::r)=if(128≤b.toNat∧b.toNat≤191)∧(128≤d.toNat∧d.toNat≤191)∧(128≤e.toNat∧e.toNat≤191)∧65536≤c∧c≤1114111 then(c,4)else(65533,1):=by
   unfold eE;rw[kA (by omega)];simp only[n1,n2,n3,kY,kZ,pC,cb,cd,ce,kM,sE,Bool.false_and,Bool.true_and,pB,if_false,Nat.zero_lt_succ,decide_true,show(1<r.length+1+1+1)=True from eq_true (by omega),show(2<r.length+1+1+1)=True from eq_true (by omega),←hcc];by_cases h1:128≤b.toNat∧b.toNat≤191
   ·by_cases h2:128≤d.toNat∧d.toNat≤191
    ·by_cases h4:128≤e.toNat∧e.toNat≤191
     ·simp only[h1,h2,h4,decide_true,Bool.true_and,and_self,if_true,true_and];by_cases h3:65536≤c∧c≤1114111
      ·rw[kB h3,kB];rw[kO,pI,pI];omega
      ·rw[kA h3,kA];rw[kO,pI,pI];omega
     ·simp only[h1,h2,h4,decide_true,decide_false,Bool.and_false,pB,if_false,false_and,and_false,and_self]
    ·simp only[h1,h2,decide_true,decide_false,Bool.and_false,Bool.false_and,pB,if_false,false_and,and_false,and_self]
   ·simp only[h1,decide_false,Bool.false_and,Bool.and_false,pB,if_false,false_and]
  have hc:(chR (a::b::d::e::r)).2=if(128≤b.toNat∧b.toNat≤191)∧(128≤d.toNat∧d.toNat≤191)∧(128≤e.toNat∧e.toNat≤191)∧65536≤c∧c≤1114111 then 4 else 0:=by
   rw[cQ,hs,kA (by simp)];show(match fF 3 (b::d::e::r) (a.toNat-240)with|none=>(0,0)|some c=>_:Nat×Nat).2=_
   unfold fF;by_cases h1:b.toNat<128∨191<b.toNat
   ·rw[kB h1,kA (by omega)]
   ·rw[kA h1];unfold fF;by_cases h2:d.toNat<128∨191<d.toNat
    ·rw[kB h2,kA (by omega)]
    ·rw[kA h2];unfold fF;by_cases h4:e.toNat<128∨191<e.toNat
     ·rw[kB h4,kA (by omega)]
     ·rw[kA h4];have l2:dC 4=65536:=rfl;show(if 64*(64*(64*(a.toNat-240)+b.toNat-128)+d.toNat-128)+e.toNat-128<dC 4∨_ then _ else _:Nat×Nat).2=_
      by_cases h3:65536≤c∧c≤1114111
      ·rw[kA (by omega),kB (by omega)]
      ·rw[kB (by omega),kA (by omega)]
  rw[cFl 4 rfl]at hw;by_cases h1:(128≤b.toNat∧b.toNat≤191)∧(128≤d.toNat∧d.toNat≤191)∧(128≤e.toNat∧e.toNat≤191)∧65536≤c∧c≤1114111
  ·rw[kB h1]at hd hc;exact OkC.good hd (by omega) (fun e=>by omega) hc
  ·rw[kA h1]at hd hc;refine OkC.bad hd ?_ hc;rw[hw];split
   ·rfl
   ·rw[kI];unfold lo4 hi4;split<;>split<;>omega
theorem bIz (a:UInt8)(t:List UInt8):OkC a t:=by
 have ha:=a.toNat_lt;by_cases h1:a.toNat<128
 ·exact bBt h1
 by_cases h2:a.toNat<192
 ·exact aJd (by omega)
 by_cases h3:a.toNat<224
 ·exact bBs (by omega)
 by_cases h4:a.toNat<240
 ·exact bBr (by omega)
 by_cases h5:a.toNat<248
 ·exact bBq (by omega)
 ·exact aJd (by omega)
theorem xB (a:Nat)(t:List UInt8):1≤(eE a t).2:=by
 unfold eE;simp only
 repeat' split
 all_goals exact Nat.le_of_ble_eq_true rfl
theorem qN {s:List UInt8}{pos:Nat}(h:s.drop pos=[]):A.zL ⟨⟨s⟩⟩ pos=none:=by
 unfold A.zL;have:s.length≤pos:=List.drop_eq_nil_iff.1 h;rw[show(⟨⟨s⟩⟩:ByteArray).data.toList[pos]?=none from List.getElem?_eq_none_iff.2 this]
theorem wK (s:List UInt8):∀(f pos:Nat),mF RA s f pos=aBm f (s.drop pos)
 |0,_=>rfl
 |f+1,pos=>by
  cases e:s.drop pos with
  |nil=>
   have e1:mF RA s (f+1) pos=(match A.zL ⟨⟨s⟩⟩ pos with
    |none=>true
    |some (c,w)=>if c=0 then false else if c=65533 then(if whB RA (s.drop pos)then mF RA s f (pos+w)else false)else mF RA s f (pos+w)):=rfl
   rw[e1,qN e];rfl
  |cons a t=>
   have e1:mF RA s (f+1) pos=(match A.zL ⟨⟨s⟩⟩ pos with
    |none=>true
    |some (c,w)=>if c=0 then false else if c=65533 then(if whB RA (s.drop pos)then mF RA s f (pos+w)else false)else mF RA s f (pos+w)):=rfl
   have e2:aBm (f+1) (a::t)=if(chR (a::t)).2=0 then false else aBm f ((a::t).drop (chR (a::t)).2):=by
    show(if a::t=[]then true else _)=_
    rw[kA (by simp)]
   have ok:=bIz a t;have hw:=xB a.toNat t;rw[e1,qO e,e2,e];unfold OkC at ok;simp only;have e3:s.drop (pos+(eE a.toNat t).2)=(a::t).drop (eE a.toNat t).2:=by rw[←e,pS]
   have ih:=wK s f (pos+(eE a.toNat t).2);rw[e3]at ih
   cases ho:okC (eE a.toNat t).1 (a::t)with
   |true=>
    rw[ho,kB rfl]at ok;rw[ok,kA (show¬(eE a.toNat t).2=0 by omega),←ih];unfold okC at ho;by_cases h0:(eE a.toNat t).1=0
    ·rw[kB h0]at ho;cases ho
    ·rw[kA h0]at ho⊢;by_cases h1:(eE a.toNat t).1=65533
     ·rw[kB h1]at ho⊢;rw[kB ho]
     ·rw[kA h1]
   |false=>
    rw[ho]at ok;have ok:(chR (a::t)).2=0:=ok;rw[kB ok];unfold okC at ho;by_cases h0:(eE a.toNat t).1=0
    ·rw[kB h0]
    ·rw[kA h0]at ho⊢;by_cases h1:(eE a.toNat t).1=65533
     ·rw[kB h1]at ho⊢;rw[ho];rfl
     ·rw[kA h1]at ho;cases ho
theorem aBo (s:List UInt8):iX RA s=dI s:=by
 unfold iX dI;rw[wK,List.drop_zero]
def bN (s:List UInt8):Bool:=s.any fun b=>pmC b.toNat
theorem aMw {c:Nat}(h:128≤c):pmC c=false:=by unfold pmC;rw[kI];omega
theorem yY {a:UInt8}{t:List UInt8}(h:128≤a.toNat):128≤(eE a.toNat t).1∧bN ((a::t).take (eE a.toNat t).2)=false:=by
 have pa:=aMw h;have g64:∀b:UInt8,(b.toNat / 64==2)=true→pmC b.toNat=false:=fun b hb=>aMw (by rw[beq_iff_eq]at hb;omega);have one:bN ((a::t).take 1)=false:=by simp[bN,pa]
 unfold eE;rw[kA (by omega)]
 match t with
 |[]=>simp[bN,pa]
 |[b]=>
  simp only[kY,kZ,pC,kM,pZ];by_cases h1:(b.toNat / 64==2)=true
  ·have pb:=g64 b h1;split
   ·split
    ·rename_i h3;exact⟨h3,by simp[bN,pa,pb]⟩
    ·exact⟨by decide,by simp[bN,pa]⟩
   ·simp[bN,pa]
  ·simp[h1,bN,pa]
 |[b,d]=>
  simp only[kY,kZ,pC,kM,pZ];by_cases h1:(b.toNat / 64==2)=true
  ·have pb:=g64 b h1;split
   ·split
    ·rename_i h3;exact⟨h3,by simp[bN,pa,pb]⟩
    ·exact⟨by decide,by simp[bN,pa]⟩
   ·by_cases h2:(d.toNat / 64==2)=true
    ·have pd:=g64 d h2;split
     ·split
      ·rename_i h3;rw[kO,pI]at h3;exact⟨by omega,by simp[bN,pa,pb,pd]⟩
      ·exact⟨by decide,by simp[bN,pa]⟩
     ·simp[bN,pa]
    ·simp[h2,bN,pa]
  ·simp[h1,bN,pa]
 |b::d::e::r=>
  simp only[kY,kZ,pC,kM];by_cases h1:(b.toNat / 64==2)=true
  ·have pb:=g64 b h1;split
   ·split
    ·rename_i h3;exact⟨h3,by simp[bN,pa,pb]⟩
    ·exact⟨by decide,by simp[bN,pa]⟩
   ·by_cases h2:(d.toNat / 64==2)=true
    ·have pd:=g64 d h2;split
     ·split
      ·rename_i h3;rw[kO,pI]at h3;exact⟨by omega,by simp[bN,pa,pb,pd]⟩
      ·exact⟨by decide,by simp[bN,pa]⟩
     ·by_cases h4:(e.toNat / 64==2)=true
      ·have pe:=g64 e h4;split
       ·split
        ·rename_i h3;rw[kO,pI]at h3;exact⟨by omega,by simp[bN,pa,pb,pd,pe]⟩
        ·exact⟨by decide,by simp[bN,pa]⟩
       ·simp[bN,pa]
      ·simp[h4,bN,pa]
    ·simp[h2,bN,pa]
  ·simp[h1,bN,pa]
theorem sI (s:List UInt8):∀(f pos:Nat),s.length-pos<f→nJ s f pos=bN (s.drop pos)
 |0,_,h=>by omega
 |f+1,pos,h=>by
  have e1:nJ s (f+1) pos=(match A.zL ⟨⟨s⟩⟩ pos with
   |none=>false
   |some (c,w)=>pmC c||nJ s f (pos+w)):=rfl
  cases e:s.drop pos with
  |nil=>rw[e1,qN e];rfl
  |cons a t=>
   have hl:pos<s.length:=by
    by_cases hp:pos<s.length
    ·exact hp
    ·rw[List.drop_eq_nil_iff.2 (by omega)]at e;cases e
   have hw:=xB a.toNat t;rw[e1,qO e];simp only;rw[sI s f (pos+(eE a.toNat t).2) (by omega),←pS,e];by_cases h1:a.toNat<128
   ·have hd:eE a.toNat t=(a.toNat,1):=by unfold eE;rw[kB h1]
    rw[hd];rfl
   ·obtain⟨h2,h3⟩:=yY (a:=a) (t:=t) (by omega);rw[aMw h2,Bool.false_or];have h4:bN (a::t)=(bN ((a::t).take (eE a.toNat t).2)||bN ((a::t).drop (eE a.toNat t).2)):=by
     unfold bN;rw[←List.any_append,pY]
    rw[h4,h3,Bool.false_or]
theorem rC (s:List UInt8):sD s=bN s:=by
 unfold sD;split
 ·rfl
 ·rw[sI s _ 0 (by omega),List.drop_zero]
def nmR (s:List UInt8):Bool:=if s=[]then false else if dI s then !bN s else false
theorem bJa (s:List UInt8):nmB (iX RA) s=nmR s:=by unfold nmB nmR;rw[aBo,rC]
def iE:Option UInt8→List UInt8→Bool
 |_,[]=>true
 |p,c::t=>(if pmC c.toNat then decide ((p=none∨p=some 47)∧(t=[]∨c≠35∧t.head?=some 47))else true)&&iE (some c) t
theorem sQ (t:List UInt8):iE (some 47) t=iE none t:=by
 cases t with
 |nil=>rfl
 |cons c t=>simp only[iE,true_or,or_true,true_and]
theorem wO:pmC (47:UInt8).toNat=false:=rfl
theorem aCj {p:UInt8}(hp:p≠47)(r:List UInt8):∀x:List UInt8,47∉x→∀p:UInt8,p≠47→iE (some p) (x++47::r)=(!bN x&&iE none r)
 |[],_,p,_=>by
  show((if pmC (47:UInt8).toNat then _ else true)&&iE (some 47) r)=_
  rw[wO,sQ];rfl
 |c::x,hx,p,hp=>by
  have hc:c≠47:=fun e=>hx (by rw[e];exact List.mem_cons_self);have ih:=aCj hp r x (fun h=>hx (List.mem_cons_of_mem _ h)) c hc;show((if pmC c.toNat then _ else true)&&iE (some c) (x++47::r))=(!(pmC c.toNat||bN x)&&iE none r)
  rw[ih]
  cases h:pmC c.toNat with
  |false=>simp
  |true=>simp[hp]
theorem wU:∀x:List UInt8,47∉x→∀p:UInt8,p≠47→iE (some p) x=!bN x
 |[],_,_,_=>rfl
 |c::x,hx,p,hp=>by
  have hc:c≠47:=fun e=>hx (by rw[e];exact List.mem_cons_self);have ih:=wU x (fun h=>hx (List.mem_cons_of_mem _ h)) c hc;show((if pmC c.toNat then _ else true)&&iE (some c) x)=!(pmC c.toNat||bN x)
  rw[ih]
  cases h:pmC c.toNat with
  |false=>simp
  |true=>simp[hp]
theorem u35 {c:UInt8}(h:c.toNat=35):c=35:=UInt8.toNat_inj.1 h
theorem u43 {c:UInt8}(h:c.toNat=43):c=43:=UInt8.toNat_inj.1 h
theorem aId (r:List UInt8){x:List UInt8}(hx:47∉x):iE none (x++47::r)=((decide (x=[43])||!bN x)&&iE none r):=by
 cases x with
 |nil=>
  show((if pmC (47:UInt8).toNat then _ else true)&&iE (some 47) r)=_
  rw[wO,sQ];rfl
 |cons c x=>
  have hc:c≠47:=fun e=>hx (by rw[e];exact List.mem_cons_self);have hx':47∉x:=fun h=>hx (List.mem_cons_of_mem _ h);show((if pmC c.toNat then _ else true)&&iE (some c) (x++47::r))=((decide (c::x=[43])||!(pmC c.toNat||bN x))&&iE none r)
  rw[aCj hc r x hx' c hc]
  cases h:pmC c.toNat with
  |false=>
   have:¬c::x=[43]:=fun e=>by cases e;cases h
   simp[this]
  |true=>
   cases x with
   |nil=>
    have:c.toNat=43∨c.toNat=35:=of_decide_eq_true h;rcases this with e|e
    ·rw[u43 e];simp[bN]
    ·rw[u35 e];simp
   |cons d x=>
    have:d≠47:=fun e=>hx' (by rw[e];exact List.mem_cons_self);simp[this]
theorem wV {x:List UInt8}(hx:47∉x):iE none x=(decide (x=[43]∨x=[35])||!bN x):=by
 cases x with
 |nil=>rfl
 |cons c x=>
  have hc:c≠47:=fun e=>hx (by rw[e];exact List.mem_cons_self);have hx':47∉x:=fun h=>hx (List.mem_cons_of_mem _ h);show((if pmC c.toNat then _ else true)&&iE (some c) x)=(decide (c::x=[43]∨c::x=[35])||!(pmC c.toNat||bN x))
  rw[wU x hx' c hc]
  cases h:pmC c.toNat with
  |false=>
   have h1:¬c::x=[43]:=fun e=>by cases e;cases h
   have h2:¬c::x=[35]:=fun e=>by cases e;cases h
   simp[h1,h2]
  |true=>
   cases x with
   |nil=>
    have:c.toNat=43∨c.toNat=35:=of_decide_eq_true h;rcases this with e|e
    ·rw[u43 e];simp[bN]
    ·rw[u35 e];simp[bN]
   |cons d x=>
    have:d≠47:=fun e=>hx' (by rw[e];exact List.mem_cons_self);simp[this]
theorem wT:∀(s:List UInt8),(Lib.indexByte s 47<0∧47∉s)∨∃m:Nat,Lib.indexByte s 47=(m:Int)∧∃r,s=s.take m++47::r∧47∉s.take m∧s.drop (m+1)=r
 |[]=>Or.inl ⟨by decide,by simp⟩
 |b::l=>by
  by_cases hb:b=47
  ·refine Or.inr ⟨0,?_,l,?_,by simp,by simp⟩
   ·unfold Lib.indexByte;rw[hb];rfl
   ·rw[hb];simp
  ·have hbf:(b==47)=false:=by rw[beq_eq_false_iff_ne];exact hb
   have hge:=Lib.indexByte_ge l 47;rcases wT l with⟨h1,h2⟩|⟨m,h1,r,h2,h3,h4⟩
   ·refine Or.inl ⟨?_,?_⟩
    ·unfold Lib.indexByte;have:Lib.indexByte l 47= -1:=by omega
     rw[hbf,this];decide
    ·intro h;rcases List.mem_cons.1 h with e|e
     ·exact hb e.symm
     ·exact h2 e
   ·refine Or.inr ⟨m+1,?_,r,?_,?_,?_⟩
    ·unfold Lib.indexByte;have:(Lib.indexByte l 47== -1)=false:=by rw[beq_eq_false_iff_ne];omega
     rw[hbf,this,h1];simp
    ·rw[List.take_succ_cons,List.cons_append,←h2]
    ·rw[List.take_succ_cons];intro h;rcases List.mem_cons.1 h with e|e
     ·exact hb e.symm
     ·exact h3 e
    ·rw[List.drop_succ_cons];exact h4
theorem aNs (n:Nat)(s:List UInt8):1≤(jY n s).length:=by
 cases n with
 |zero=>exact kF _
 |succ n=>unfold jY;split<;>simp
theorem aCk:∀(n i N:Nat) (s:List UInt8),s.count 47≤n→N=i+(jY n s).length→fiL N i (jY n s)=iE none s
 |0,i,N,s,hc,hN=>by
  have h47:47∉s:=List.count_eq_zero.1 (by omega);have hN:N=i+1:=hN;show(if(s=[35]∧i+1=N)∨s=[43]then true else if sD s then false else true)=_
  rw[rC,wV h47];by_cases h1:s=[35]∨s=[43]
  ·rw[kB (by rcases h1 with h|h;exact Or.inl ⟨h,hN.symm⟩;exact Or.inr h),kC (by rcases h1 with h|h;exact Or.inr h;exact Or.inl h)];rfl
  ·rw[kA (fun h=>h1 (by rcases h with h|h;exact Or.inl h.1;exact Or.inr h)),kD (fun h=>h1 (by rcases h with h|h;exact Or.inr h;exact Or.inl h))];cases bN s<;>rfl
 |n+1,i,N,s,hc,hN=>by
  rcases wT s with⟨h1,h47⟩|⟨m,h1,r,h2,h3,h4⟩
  ·have e:jY (n+1) s=[s]:=by unfold jY;rw[kB h1]
   rw[e]at hN⊢;have hN:N=i+1:=hN;show(if(s=[35]∧i+1=N)∨s=[43]then true else if sD s then false else true)=_
   rw[rC,wV h47];by_cases h1:s=[35]∨s=[43]
   ·rw[kB (by rcases h1 with h|h;exact Or.inl ⟨h,hN.symm⟩;exact Or.inr h),kC (by rcases h1 with h|h;exact Or.inr h;exact Or.inl h)];rfl
   ·rw[kA (fun h=>h1 (by rcases h with h|h;exact Or.inl h.1;exact Or.inr h)),kD (fun h=>h1 (by rcases h with h|h;exact Or.inr h;exact Or.inl h))];cases bN s<;>rfl
  ·have e:jY (n+1) s=s.take m::jY n r:=by
    show(if Lib.indexByte s 47<0 then[s]else s.take (Lib.indexByte s 47).toNat::jY n (s.drop ((Lib.indexByte s 47).toNat+1)))=_
    rw[kA (by omega),h1,Int.toNat_natCast,h4]
   rw[e]at hN⊢;rw[kM]at hN;have hne:=aNs n r;have hcr:r.count 47≤n:=by
    rw[h2,List.count_append,List.count_cons_self]at hc;omega
   have ih:=aCk n (i+1) N r hcr (by omega);obtain⟨x,hx⟩:∃x,x=s.take m:=⟨_,rfl⟩;rw[←hx]at h2 h3⊢;rw[h2,aId r h3,←ih];show(if(x=[35]∧i+1=N)∨x=[43]then fiL N (i+1) (jY n r)else if sD x then false else fiL N (i+1) (jY n r))=_
   rw[rC];by_cases h1:x=[43]
   ·rw[kB (Or.inr h1),kC h1];rfl
   ·rw[kA (fun h=>by rcases h with h|h;exact(by omega);exact h1 h),kD h1];cases bN x<;>rfl
def fiR (s:List UInt8):Bool:=if s=[]then false else if dI s then iE none s else false
theorem bJq (s:List UInt8):fiB (iX RA) s=fiR s:=by
 unfold fiB fiR;rw[aBo];have hc:¬s.length<Lib.countByte s 47:=by
  have:s.count 47≤s.length:=List.count_le_length;unfold Lib.countByte;omega
 have e:fiL (cZ s).length 0 (cZ s)=iE none s:=by
  unfold cZ;rw[kA hc];exact aCk _ 0 _ s (kF _) (by omega)
 rw[e]
end Go.Proofs.YtohapjojkjjflaaGreatDoor.Wz
