import Derived.Test.YtbmdhjdgpeleoaaGreatDoorTaA
import Derived.Test.YtbmdhjdgpeleoaaGreatDoorGm
import Derived.Test.YtbmdhjdgpeleoaaGreatDoorGr
import Derived.Lib.Bytealg
set_option linter.defProp false
set_option maxRecDepth 100000
namespace Go.Proofs.YtbmdhjdgpeleoaaGreatDoor.Ra
open Tryz (prog)
open Go Go.AM
variable {h j:H}{c i k m n:Nat}{Y:Type}{l s t:kC kG}{b:kG}
def PM:kC kG:=[43,35]
def pmC (c:Nat):Bool:=decide (c=43∨c=35)
def wD (s:kC kG):Nat→Nat→Bool
 |0,_=>false
 |f+1,pos=>match A.zO ⟨⟨s⟩⟩ pos with
  |none=>false
  |some (c,w)=>pmC c||wD s f (pos+w)
def xT (s:kC kG):Bool:=if 8<s.length then s.any (fun b=>pmC b.toNat)else wD s (s.length+1) 0
def SL:kC kG:=[47]
def oR:Nat→kC kG→kC (kC kG)
 |0,s=>[s]
 |n+1,s=>if Lib.indexByte s 47<0 then[s]else s.take (Lib.indexByte s 47).toNat::oR n (s.drop ((Lib.indexByte s 47).toNat+1))
def bH (s:kC kG):kC (kC kG):=oR (if s.length<Lib.countByte s 47 then s.length else Lib.countByte s 47) s
def jI (c:Nat):Nat:=(Go.Pinned.utf8FirstZ[c]?).getD 0
def whG (z l h:Nat)(t:kC kG):Bool:=
 if t.length+1<z then false else
 match t with
 |[]=>false
 |b::t2=>
  if b.toNat<l then false else if h<b.toNat then false else
  if z≤2 then true else
  match t2 with
  |[]=>false
  |d::t3=>
   if d.toNat<128 then false else if 191<d.toNat then false else
   if z≤3 then true else
   match t3 with
   |[]=>false
   |e::_=>if e.toNat<128 then false else if 191<e.toNat then false else true
def whB (A:kC Nat):kC kG→Bool
 |[]=>false
 |c::t=>if 240≤jI c.toNat then false else whG (jI c.toNat%8) ((A[2*(jI c.toNat / 16)]?).getD 0) ((A[2*(jI c.toNat / 16)+1]?).getD 0) t
def uX (T:kC Nat)(s:kC kG):Nat→Nat→Bool
 |0,_=>true
 |f+1,pos=>match A.zO ⟨⟨s⟩⟩ pos with
  |none=>true
  |some (c,w)=>if c=0 then false else if c=65533 then(if whB T (s.drop pos)then uX T s f (pos+w)else false)else uX T s f (pos+w)
def aJx (T:kC Nat)(s:kC kG):Bool:=if 65535<s.length then false else uX T s (s.length+1) 0
abbrev aA (p:Nat):kA:=.pointer (some ⟨p,0,none⟩)
abbrev u8 (b:kG):kA:=iU (b.toNat:Int)
abbrev str (l:kC kG):kA:=.string ⟨⟨l⟩⟩
abbrev eJ:kA:=.slice none 0 0
def qJ (l:kC kG):A.zH (str l)=some (iN (l.length:Int)):=rfl
def qB {Q:Orc}{a:kC kA}{v:kA}(q:Q n a=some v)(b:Nat)(h:H):aK prog 3 Q (b+1) n a h=some (v,h):=by
 simp only[aK,q]
def frL:kC Nat:=[82,101,102,103,121,122,123,134,136,137,138,139,141,154,156,157,158,159,165,168]
def asciiPM:kC kA:=(List.range 256).map fun c=>Value.bool (pmC c)
structure KnA (Q:Orc):Prop where
 fr:∀f args,f∈frL→Q f args=none
 qa:Q 140 [str PM]=some (.tuple ⟨[.agg ⟨asciiPM⟩,.bool true]⟩)
def aFw (n:Nat)(h:n<256):A.conv prog 5 3 (iU (n:Int))=some (iN (n:Int)):=by
 have a:prog.underlying 5=some (.int .u8):=Tryz.underlying5;have u:prog.underlying 3=some (.int .i64):=Tryz.underlying3;simp only[A.conv,a,u];rw[gX (by omega) (by omega)]
def aU {l:kC Y}{x:Y}(a:l[i]?=some x):l.drop i=x::l.drop (i+1):=by
 obtain⟨h,rfl⟩:=pX.1 a;exact List.drop_eq_getElem_cons h
def ixS (h:l[i]?=some b):A.zD (str l) (iN (i:Int))=some (u8 b):=by
 show(match l[i]? with|some b=>some (iU b.toNat)|none=>none)=_
 rw[h]
def slS (h:k≤l.length):A.zN (str l) (some (iN (k:Int))) none=some (str (l.drop k)):=by
 show(match(bif Nat.ble k l.length then some (some k)else none)with|none=>none|some a=>some (Value.string ⟨⟨(l.drop (a.getD 0)).take (l.length-a.getD 0)⟩⟩))=_
 rw[show Nat.ble k l.length=true from ble_iff.2 h];simp only[sV,pQ];rw[sA (by rw[pI];exact kQ _)]
section
variable {Q:Orc}(Z:KnA Q)
include Z
end
def bX (a b:kC kG):A.z prog .eql 9 (str a) (str b)=some (.bool (decide (a=b))):=by
 rw[aHo];congr 2;rw[mK];exact⟨fun e=>sX (fun b:ByteArray=>b.data.toList) e,fun e=>by rw[e]⟩
def gZ (a b:kC kG):A.z prog .neq 9 (str a) (str b)=some (.bool (!decide (a=b))):=by
 rw[aHn];congr 3;rw[mK];exact⟨fun e=>sX (fun b:ByteArray=>b.data.toList) e,fun e=>by rw[e]⟩
def cLc (d:n<256):A.z prog .shr 5 (iU (n:Int)) (.int .u64 4)=some (iU ((n / 16:Nat):Int))∧A.z prog .and 5 (iU (n:Int)) (iU 15)=some (iU ((n%16:Nat):Int)):=by
 have l:((List.range 256).all fun n=>(match A.z prog .shr 5 (iU (n:Int)) (.int .u64 4)with|some v=>AM.same v (iU ((n / 16:Nat):Int))|none=>false)&&(match A.z prog .and 5 (iU (n:Int)) (iU 15)with|some v=>AM.same v (iU ((n%16:Nat):Int))|none=>false))=true:=by kernel_rfl
 have:=mB.1 l n (rO.2 d);rw[pA]at this;obtain⟨a,b⟩:=this;refine⟨?_,?_⟩
 ·split at a
  ·rename_i v c;rw[c,lV _ _ a]
  ·cases a
 ·split at b
  ·rename_i v c;rw[c,lV _ _ b]
  ·cases b
def aUz {g:H}(x:Ext j h)(y:ExtBut (fun b=>b=n) h g)(r:j.next≤n):Ext j g:=
 ⟨kR x.next y.next,fun i a=>by rw[y.get i (kT a x.next) (by omega)];exact x.get i a⟩
open TaA
def aPm {s:ByteArray}:(match(List.range s.size).find? fun i=>s[i]! ==b with|some i=>(i:Int)|none=> -1)=Lib.indexByte s.data.toList b:=Lib.firstIdx_eq s b
def oF {id w:Nat}{s:ByteArray}(g:h.get id=some (.siter s n))(e:A.zO s n=some (c,w)):A.yC (.pointer (some ⟨id,0,none⟩)) h=some (.tuple ⟨[.bool true,iN (n:Int),.int .i32 (c:Int)]⟩,h.put id (.siter s (n+w))):=by
 show(match h.get id with|some (.siter s n)=>_|_=>none)=_
 rw[g];simp only[e]
def jY {id:Nat}{s:ByteArray}(g:h.get id=some (.siter s n))(e:A.zO s n=none):A.yC (.pointer (some ⟨id,0,none⟩)) h=some (.tuple ⟨[.bool false]⟩,h):=by
 show(match h.get id with|some (.siter s n)=>_|_=>none)=_
 rw[g];simp only[e]
def enc (c:Nat):kC kG:=(Utf8.encode (c:Int)).data.toList
def aZw (c:128≤n)(d:n<2048):∃a b:kG,enc n=[a,b]∧128≤b.toNat:=by
 have h:Utf8.valid (n:Int)=true:=by unfold Utf8.valid;simp;omega
 refine⟨UInt8.ofNat (0xC0+n / 64),UInt8.ofNat (0x80+n%64),?_,?_⟩
 ·unfold enc Utf8.encode;simp only[h,mE,Int.toNat_natCast];rw[kL (by omega),kM (by omega)]
 ·rw[UInt8.toNat_ofNat'];omega
def aUn (a:2048≤c):3≤(enc c).length∧(enc c).length≤4:=by
 unfold enc Utf8.encode;simp only;by_cases h:Utf8.valid (c:Int)=true
 ·simp only[h,mE,Int.toNat_natCast];rw[kL (by omega),kL (by omega)];split
  ·exact⟨by show 3≤3;omega,by show 3≤4;omega⟩
  ·exact⟨by show 3≤4;omega,by show 4≤4;omega⟩
 ·have h:Utf8.valid (c:Int)=false:=by simpa using h
  simp only[h,pP,mD];exact⟨by decide,by decide⟩
section
variable {Q:Orc}(Z:KnA Q)
include Z
def cNg (k:Nat)(s:kC kG)(j:n<256):aK prog 3 Q (k+1) 168 [str s,iU (n:Int)] h=some (iN (Lib.indexByte s (UInt8.ofNat n)),h):=by
 have q:Q 168 [str s,iU (n:Int)]=none:=Z.fr 168 _ (by decide);have b:((prog.funcs[168]?).map fun f=>(f.body.isNone,xS f))=some (true,1):=by kernel_rfl
 obtain⟨f,c,a⟩:∃f,prog.funcs[168]?=some f∧(f.body.isNone,xS f)=(true,1):=by
  cases c:prog.funcs[168]? with
  |none=>rw[c]at b;cases b
  |some f=>rw[c]at b;exact⟨f,rfl,pB b⟩
 have d:f.body=none:=Option.isNone_iff_eq_none.1 (sX Prod.fst a);have g:xS f=1:=sX Prod.snd a;simp only[aK,q,c,d,g];have e:(((n:Int).toNat).toUInt8)=UInt8.ofNat n:=rfl;show some (iN (match(List.range (⟨⟨s⟩⟩:ByteArray).size).find? fun i=>(⟨⟨s⟩⟩:ByteArray)[i]! ==((n:Int).toNat).toUInt8 with|some i=>(i:Int)|none=> -1),h)=_
 rw[e,aPm]
def cJy (k:Nat)(s:kC kG)(c:n<256):aK prog 3 Q (k+2) 165 [str s,iU (n:Int)] h=some (iN (Lib.indexByte s (UInt8.ofNat n)),h):=by
 rw[bMq Q (k+1) _ _ h (Z.fr 165 _ (by decide))];simp only[cKe,aYe,cNg Z k s c,qS]
def cJz (k:Nat)(s:kC kG)(a:c<256):aK prog 3 Q (k+3) 158 [str s,iU (c:Int)] h=some (iN (Lib.indexByte s (UInt8.ofNat c)),h):=by
 rw[bMs Q (k+2) _ _ h (Z.fr 158 _ (by decide))];simp only[cKf,aYf,cJy Z k s a,qS]
def cNj (k:Nat):∃b,aK prog 3 Q (k+1) 159 [.int .i32 (c:Int)] h=some (.bool b,h):=by
 rw[bMr Q k _ h (Z.fr 159 _ (by decide))];have d:decide ((0:Int)≤(c:Int))=true:=kN (by omega)
 cases a:decide ((c:Int)<55296)with
 |true=>
  refine⟨true,?_⟩;simp only[bEi,aEi,bCo,bDi,bCn,cG,d,qS,zZ,a,cHs]
 |false=>
  cases e:decide ((57343:Int)<(c:Int))with
  |false=>
   refine⟨false,?_⟩;simp only[bEi,aEi,bCo,bDi,bCn,cG,d,qS,zZ,a,bHh,e,bQq]
  |true=>
   cases f:decide ((c:Int)≤1114111)with
   |false=>
    refine⟨false,?_⟩;simp only[bEi,aEi,bCo,bDi,bCn,cG,d,qS,zZ,a,bHh,e,f,bQq]
   |true=>
    refine⟨true,?_⟩;simp only[bEi,aEi,bCo,bDi,bCn,cG,d,qS,zZ,a,bHh,e,f]
omit Z in
def bAb (b:c<128):A.conv prog 21 5 (.int .i32 (c:Int))=some (iU (c:Int)):=by
 have a:((List.range 128).all fun c=>match A.conv prog 21 5 (.int .i32 (c:Int))with|some v=>AM.same v (iU (c:Int))|none=>false)=true:=by kernel_rfl
 have:=mB.1 a c (rO.2 b);split at this
 ·rename_i v d;rw[d,lV _ _ this]
 ·cases this
omit Z in
def cMr (b:c<128):decide ((0:Int)≤Lib.indexByte PM (UInt8.ofNat c))=pmC c:=by
 have a:((List.range 128).all fun c=>decide ((0:Int)≤Lib.indexByte PM (UInt8.ofNat c))==pmC c)=true:=by kernel_rfl
 have:=mB.1 a c (rO.2 b);simpa using this
omit Z in
def bAa (c:Nat):A.conv prog 21 9 (.int .i32 (c:Int))=some (str (enc c)):=by kernel_rfl
def cNo (k:Nat)(hc:n≤1114111):∃J v,aK prog 3 Q (k+10) 138 [str PM,.int .i32 (n:Int)] h=some (iN v,J)∧decide ((0:Int)≤v)=pmC n∧Ext h J:=by
 rw[bMz Q (k+9) _ _ h (Z.fr 138 _ (by decide))];have I:decide ((0:Int)≤(n:Int))=true:=kN (by omega);by_cases f:n<128
 ·have B:decide ((n:Int)<128)=true:=kN (by omega);refine⟨h,Lib.indexByte PM (UInt8.ofNat n),?_,cMr f,Ext.refl h⟩;simp only[bUg,aLy,bRb,bDq,bRa,cG,I,qS,zZ,B,cIg,bAb f,cJz Z (h:=h) (k+6) PM (show n<256 by omega)]
 have B:decide ((n:Int)<128)=false:=kO (by omega);have hp:pmC n=false:=kO (by omega);have q:decide ((0:Int)≤ -1)=pmC n:=by rw[hp];rfl
 have go:∀K:kA→H→kB (kA×H),bDq (aK prog 3 Q (k+9)) (k+9) (.int .i32 (n:Int)) (str PM) h K=aTe (aK prog 3 Q (k+9)) (k+9) (.bool false) (.int .i32 (n:Int)) (str PM) h K:=by
  intro K;simp only[bDq,bRa,cG,I,qS,zZ,B]
 simp only[bUg,aLy,bRb];rw[go];by_cases hE:n=65533
 ·have E:decide ((n:Int)=65533)=true:=kN (by omega);obtain⟨o,g⟩:=eX (h.push (.siter ⟨⟨PM⟩⟩ 0));have Y:A.zZ (str PM) h=some (aA h.next,o):=by rw[g];rfl
  have x1:Ext h o:=by rw[g];exact Ext.push h _
  have g1:o.get h.next=some (.siter ⟨⟨PM⟩⟩ 0):=by rw[g,H.get_push,kM rfl]
  have N:=oF (c:=43) (w:=1) g1 rfl;obtain⟨s,i⟩:=eX (o.put h.next (.siter ⟨⟨PM⟩⟩ (0+1)));rw[←i]at N;have g2:s.get h.next=some (.siter ⟨⟨PM⟩⟩ (0+1)):=by rw[i,H.get_put,kM rfl]
  have x2:Ext h s:=by rw[i];exact x1.put _ _ (kQ _)
  have O:=oF (c:=35) (w:=1) g2 rfl;obtain⟨h3,j⟩:=eX (s.put h.next (.siter ⟨⟨PM⟩⟩ (0+1+1)));rw[←j]at O;have g3:h3.get h.next=some (.siter ⟨⟨PM⟩⟩ (0+1+1)):=by rw[j,H.get_put,kM rfl]
  have x3:Ext h h3:=by rw[j];exact x2.put _ _ (kQ _)
  have n3:=jY g3 rfl;refine⟨h3,-1,?_,q,x3⟩;have R:∀(p r:kA),A.u 0 (.tuple ⟨[.bool true,p,r]⟩)=some (.bool true):=fun _ _=>rfl;have S:∀(p r:kA),A.u 1 (.tuple ⟨[.bool true,p,r]⟩)=some p:=fun _ _=>rfl;have U:∀(p r:kA),A.u 2 (.tuple ⟨[.bool true,p,r]⟩)=some r:=fun _ _=>rfl;have V:A.u 0 (.tuple ⟨[.bool false]⟩)=some (.bool false):=rfl;have c1:decide (((43:Nat):Int)=65533)=false:=rfl;have c2:decide (((35:Nat):Int)=65533)=false:=rfl;have lp:∀(m L:Nat) (C:CF) (c x:_),aXk C L (β:=kA×H) c x (m+3) (aA h.next) o=x h3:=by
   intro m L C c x;simp only[aXk,bQx,N,qS,R,S,U,zQ,c1,O,c2,n3,V]
  have lp:=lp (k+6) (k+9) (aK prog 3 Q (k+9));generalize k+9=M at lp⊢;simp only[aTe,bHl,zQ,E,qS,bRz,cIh,Y];have l:∀c x,aXk (aK prog 3 Q M) M (β:=kA×H) c x M (aA h.next) o=x h3:=lp;rw[l];rfl
 ·have E:decide ((n:Int)=65533)=false:=kO (by omega);obtain⟨b,t⟩:=cNj Z (h:=h) (k+8) (c:=n);have t:aK prog 3 Q (k+9) 159 [.int .i32 (n:Int)] h=some (.bool b,h):=t;refine⟨h,-1,?_,q,Ext.refl h⟩
  cases b with
  |false=>simp only[aTe,bHl,zQ,E,qS,bQz,t,cIi]
  |true=>
   have st:aTe (aK prog 3 Q (k+9)) (k+9) (.bool false) (.int .i32 (n:Int)) (str PM) h (fun G h=>some (G,h))=bDn (aK prog 3 Q (k+9)) (k+9) (str PM) (str (enc n)) h (fun G h=>some (G,h)):=by
    simp only[aTe,bHl,zQ,E,qS,bQz,t,cIo,bAa]
   rw[st];have P:A.zH (str PM)=some (iN 2):=rfl;by_cases s:n<2048
   ·obtain⟨a,b,e,hb⟩:=aZw (by omega) s;rw[e];have l2:A.zH (str [a,b])=some (iN 2):=rfl;have w1:A.z prog .sub 3 (iN 2) (iN 1)=some (iN 1):=by rw[lC];rfl
    have D:decide ((1:Int)<2)=true:=rfl;have i1:A.zD (str PM) (iN 1)=some (iU 35):=rfl;have i2:A.zD (str [a,b]) (iN 1)=some (u8 b):=rfl;have X:decide ((35:Int)=(b.toNat:Int))=false:=kO (by omega);have w2:A.z prog .add 3 (iN 1) (iN 1)=some (iN 2):=by rw[bC];rfl
    have sl:A.zN (str PM) (some (iN 2)) none=some (str []):=rfl;have d:=cJz Z (h:=h) (k+6) [] b.toNat_lt;have d:aK prog 3 Q (k+9) 158 [str [],u8 b] h=some (iN (-1),h):=d;have W:decide ((-1:Int)<0)=true:=rfl;have lp:∀(m L:Nat) (c:kA→H→kB (kA×H)) (x),aMs (aK prog 3 Q (k+9)) L c x (m+1) (iN 1) (iN 1) (str PM) (str [a,b]) h=c (iN (-1)) h:=by
     intro m L c x;simp only[aMs,bHk,P,qS,zZ,D,bRt,cIn,i1,i2,bA,X,cIm,w2,sl,d,W]
    have lp:=lp (k+8) (k+9);generalize k+9=M at lp⊢;have l:∀(c:kA→H→kB (kA×H)) (x),aMs (aK prog 3 Q M) M c x M (iN 1) (iN 1) (str PM) (str [a,b]) h=c (iN (-1)) h:=lp;simp only[bDn,bQy,l2,qS,w1,l]
   ·obtain⟨l3,l4⟩:=aUn (c:=n) (by omega);obtain⟨y,hn⟩:=eX ((enc n).length);have ln:A.zH (str (enc n))=some (iN (y:Int)):=by rw[hn];exact qJ _
    have w1:A.z prog .sub 3 (iN (y:Int)) (iN 1)=some (iN ((y-1:Nat):Int)):=by
     rw[lC,gX (by omega) (by omega)];congr 2;omega
    have D:decide (((y-1:Nat):Int)<2)=false:=kO (by omega);have lp:∀(m L:Nat) (C:CF) (c:kA→H→kB (kA×H)) (x),aMs C L c x (m+1) (iN ((y-1:Nat):Int)) (iN ((y-1:Nat):Int)) (str PM) (str (enc n)) h=x h:=by
     intro m L C c x;simp only[aMs,bHk,P,qS,zZ,D]
    have lp:=lp (k+8) (k+9) (aK prog 3 Q (k+9));generalize k+9=M at lp⊢;have l:∀(c:kA→H→kB (kA×H)) (x),aMs (aK prog 3 Q M) M c x M (iN ((y-1:Nat):Int)) (iN ((y-1:Nat):Int)) (str PM) (str (enc n)) h=x h:=lp;simp only[bDn,bQy,ln,qS,w1,l,cIj]
end
def aZz (s:ByteArray)(p:Nat):(Utf8.decode s p).1≤1114111:=by
 have h:∀k,(s.get! (p+k)).toNat<256:=fun k=>(s.get! (p+k)).toNat_lt;have a:=h 0;have b:=h 1;have c:=h 2;have h3:=h 3;simp only[Utf8.decode]
 repeat' split
 all_goals simp_all [Utf8.runeError,Utf8.valid]
 all_goals omega
def aZy (s:ByteArray)(p:Nat):1≤(Utf8.decode s p).2:=by
 simp only[Utf8.decode]
 repeat' split
 all_goals simp
def aOm {s:ByteArray}{l:Nat}(e:A.zO s n=some (i,l)):n<s.size∧i≤1114111∧1≤l:=by
 obtain⟨h,d⟩:=xM e;have a:=aZz s n;have b:=aZy s n;rw[d]at a b;exact⟨h,a,b⟩
def aDv (h:s.length≤n):A.zO ⟨⟨s⟩⟩ n=none:=by
 unfold A.zO;rw[show(⟨⟨s⟩⟩:ByteArray).data.toList[n]?=none from mS.2 h]
section
variable {Q:Orc}(Z:KnA Q)
include Z
def cNn (k:Nat)(n:Nat):aK prog 3 Q (k+1) 139 [iN (n:Int)] h=some (.bool (decide (8<n)),h):=by
 rw[bMy Q k _ h (Z.fr 139 _ (by decide))];have d:decide ((8:Int)<(n:Int))=decide (8<n):=mK.2 (by omega);simp only[cKi,aYi,zY,d,qS]
def cNm (k:Nat)(g:h.get n=some (.cells asciiPM (some 0))):aK prog 3 Q (k+1) 141 [aA n,u8 b] h=some (.bool (pmC b.toNat),h):=by
 rw[bMx Q k _ _ h (Z.fr 141 _ (by decide))];have a:=b.toNat_lt;have i:A.yL 256 1 (aA n) (u8 b)=some (.pointer (some ⟨n,0+b.toNat*1,none⟩)):=by
  show(bif Nat.blt b.toNat 256 then _ else none)=_
  rw[blt_iff.2 a];rfl
 have l:A.load false 1 (.pointer (some ⟨n,0+b.toNat*1,none⟩)) h=some (.bool (pmC b.toNat)):=by
  rw[qK,g,sR,tA];show(asciiPM[b.toNat]?)=_;unfold asciiPM;rw[pL,List.getElem?_range a];rfl
 simp only[cKh,aYh,qS,i,l]
def bLi (k L:Nat)(t:s.length≤1000300)(g:h.get n=some (.cells asciiPM (some 0))):
 ∀(d i m:Nat),i+d=s.length→d<m→∃v,aQv (aK prog 3 Q (k+1)) L (fun x h=>some (x,h)) (fun h=>bHm (aK prog 3 Q (k+1)) L h (fun x h=>some (x,h))) m (iN (i:Int)) (aA n) (str s) h=some (iN v,h)∧decide ((0:Int)≤v)=(s.drop i).any (fun b=>pmC b.toNat):=by
 intro d
 induction d with
 |zero=>
  intro i m l o;obtain⟨m,rfl⟩:=pS m (by omega);have c:decide ((i:Int)<(s.length:Int))=false:=by rw[kU];omega
  refine⟨-1,?_,by rw[pZ (by omega:s.length≤i)];rfl⟩;simp only[aQv,bCw,qJ,qS,zZ,c,bHm]
 |succ d r=>
  intro i m l o;obtain⟨m,rfl⟩:=pS m (by omega);have c:decide ((i:Int)<(s.length:Int))=true:=by rw[kV];omega
  obtain⟨b,f⟩:∃b,s[i]?=some b:=⟨_,kZ (by omega)⟩;have j:=ixS f;have a:=cNm Z k g (b:=b);have w:IntKind.i64.wrap ((i:Int)+1)=((i+1:Nat):Int):=aQ (by omega);rw[aU f,dP]
  cases p:pmC b.toNat with
  |true=>
   rw[p]at a;refine⟨(i:Int),?_,kN (by omega)⟩;simp only[aQv,bCw,qJ,qS,zZ,c,j,a]
  |false=>
   rw[p]at a;obtain⟨v,e,q⟩:=r (i+1) m (by omega) (by omega);refine⟨v,?_,q⟩;simp only[aQv,bCw,qJ,qS,zZ,c,j,a,bC,w];exact e
def bLh (k L:Nat):
 ∀(d m:Nat) (h:H) (p:Nat),s.length<p+d→d<m→h.get n=some (.siter ⟨⟨s⟩⟩ p)→n<h.next→∃D v,aMu (aK prog 3 Q (k+10)) L (fun r h=>some (r,h)) (fun h=>bCv (aK prog 3 Q (k+10)) L h (fun r h=>some (r,h))) m (aA n) (str PM) h=some (iN v,D)∧decide ((0:Int)≤v)=wD s d p∧ExtBut (fun i=>i=n) h D:=by
 have B:A.u 0 (.tuple ⟨[.bool false]⟩)=some (.bool false):=rfl;intro d
 induction d with
 |zero=>
  intro m h p O P g I;obtain⟨m,rfl⟩:=pS m (by omega);have e:=jY g (aDv (s:=s) (by omega));refine⟨h,-1,?_,rfl,⟨kQ _,fun _ _ _=>rfl⟩⟩;simp only[aMu,aXd,e,qS,B,bCv]
 |succ d S=>
  intro m h p O P g I;obtain⟨m,rfl⟩:=pS m (by omega)
  cases b:A.zO ⟨⟨s⟩⟩ p with
  |none=>
   have e:=jY g b;refine⟨h,-1,?_,?_,⟨kQ _,fun _ _ _=>rfl⟩⟩
   ·simp only[aMu,aXd,e,qS,B,bCv]
   ·show _=(match A.zO ⟨⟨s⟩⟩ p with|none=>false|some (c,w)=>pmC c||wD s d (p+w))
    rw[b];rfl
  |some K=>
   obtain⟨c,w⟩:=K;obtain⟨_,o,W⟩:=aOm b;have e:=oF g b;obtain⟨f,a⟩:=eX (h.put n (.siter ⟨⟨s⟩⟩ (p+w)));rw[←a]at e;have N:f.get n=some (.siter ⟨⟨s⟩⟩ (p+w)):=by rw[a,H.get_put,kM rfl]
   have J:ExtBut (fun i=>i=n) h f:=by rw[a];exact ExtBut.put ⟨kQ _,fun _ _ _=>rfl⟩ n _ rfl
   obtain⟨E,v,C,j,x⟩:=cNo Z (h:=f) k o;have t:A.u 0 (.tuple ⟨[.bool true,iN (p:Int),.int .i32 (c:Int)]⟩)=some (.bool true):=rfl;have y:A.u 1 (.tuple ⟨[.bool true,iN (p:Int),.int .i32 (c:Int)]⟩)=some (iN (p:Int)):=rfl;have z:A.u 2 (.tuple ⟨[.bool true,iN (p:Int),.int .i32 (c:Int)]⟩)=some (.int .i32 (c:Int)):=rfl;have R:wD s (d+1) p=(pmC c||wD s d (p+w)):=by
    show(match A.zO ⟨⟨s⟩⟩ p with|none=>false|some (c,w)=>pmC c||wD s d (p+w))=_
    rw[b]
   rw[R]
   cases G:pmC c with
   |true=>
    rw[G]at j;refine⟨E,(p:Int),?_,kN (by omega),J.trans x.but⟩;simp only[aMu,aXd,e,qS,t,y,z,C,bF,j]
   |false=>
    rw[G]at j;have l:n<f.next:=by rw[a];exact I
    obtain⟨h3,U,M,q,V⟩:=S m E (p+w) (by omega) (by omega) (by rw[x.get _ l];exact N) (kT l x.next);refine⟨h3,U,?_,q,(J.trans x.but).trans V⟩;simp only[aMu,aXd,e,qS,t,y,z,C,bF,j];exact M
def cNp (k:Nat)(E:s.length≤1000300):∃w v,aK prog 3 Q (k+1000320) 123 [str s,str PM] h=some (iN v,w)∧decide ((0:Int)≤v)=xT s∧Ext h w:=by
 rw[bNe Q (k+1000319) _ _ h (Z.fr 123 _ (by decide))];have B:A.z prog .eql 9 (str PM) (.string ⟨⟨[]⟩⟩)=some (.bool false):=by kernel_rfl
 have l:A.zH (str PM)=some (iN 2):=rfl;have t:decide ((2:Int)=1)=false:=rfl;have a:=cNn Z (h:=h) (k+1000318) s.length;have a:aK prog 3 Q (k+1000319) 139 [iN (s.length:Int)] h=_:=a;unfold xT;by_cases j:8<s.length
 ·rw[kN j]at a;have c:=qB Z.qa (k+1000318) h;have c:aK prog 3 Q (k+1000319) 140 [str PM] h=_:=c;have L:A.u 0 (.tuple ⟨[.agg ⟨asciiPM⟩,.bool true]⟩)=some (.agg ⟨asciiPM⟩):=rfl;have N:A.u 1 (.tuple ⟨[.agg ⟨asciiPM⟩,.bool true]⟩)=some (.bool true):=rfl;obtain⟨d,b⟩:=eX (h.push (.cells TaA.Z185L (some 0)));have n:A.box 256 TaA.Z185 h=some (aA h.next,d):=by rw[b];rfl
  have o:d.get h.next=some (.cells TaA.Z185L (some 0)):=by rw[b,H.get_push,kM rfl]
  obtain⟨f,g⟩:=eX (d.put h.next (.cells asciiPM (some 0)));have G:Nat.beq asciiPM.length 256=true:=by kernel_rfl
  have J:Nat.ble (0+256) TaA.Z185L.length=true:=by kernel_rfl
  have O:TaA.Z185L.length=256:=by kernel_rfl
  have K:splice TaA.Z185L 0 asciiPM=asciiPM:=by
   have I:asciiPM.length=256:=by kernel_rfl
   simp only[splice,rG,dF,sR];rw[pZ (by omega),dD]
  have C:A.store 256 (aA h.next) (.agg ⟨asciiPM⟩) d=some f:=by
   rw[qU,o];simp only[uW,G,J,Bool.and_self,sV,K];rw[g]
  have m:Ext h f:=by rw[g,b];exact(Ext.push h _).put _ _ (kQ _)
  have D:f.get h.next=some (.cells asciiPM (some 0)):=by rw[g,H.get_put,kM rfl]
  obtain⟨v,e,q⟩:=bLi Z (h:=f) (k+1000318) (k+1000319) E D s.length 0 (k+1000319) (by omega) (by omega);refine⟨f,v,?_,by rw[kM j,q];rfl,m⟩;obtain⟨M,p⟩:=eX (k+1000319);rw[←p]at a c e⊢;have e:aQv (aK prog 3 Q M) M (fun x h=>some (x,h)) (fun h=>bHm (aK prog 3 Q M) M h (fun x h=>some (x,h))) M (iN 0) (aA h.next) (str s) f=some (iN v,f):=e;simp only[bUh,aLz,bRf,B,qS,l,zQ,t,bIw,bRe,qJ,a,cIw,c,L,N,n,C,bSi,cIv];exact e
 ·rw[kO j]at a;obtain⟨d,b⟩:=eX (h.push (.siter ⟨⟨s⟩⟩ 0));have n:A.zZ (str s) h=some (aA h.next,d):=by rw[b];rfl
  have r:Ext h d:=by rw[b];exact Ext.push h _
  have o:d.get h.next=some (.siter ⟨⟨s⟩⟩ 0):=by rw[b,H.get_push,kM rfl]
  obtain⟨f,v,e,q,m⟩:=bLh Z (k+1000309) (k+1000319) (s.length+1) (k+1000319) d 0 (by omega) (by omega) o (by rw[b];exact mQ _);refine⟨f,v,?_,by rw[kL j,q],⟨kR r.next m.next,fun i y=>by rw[m.get i (kT y r.next) (by omega)];exact r.get i y⟩⟩;have e:aMu (aK prog 3 Q (k+1000319)) (k+1000319) (fun x h=>some (x,h)) (fun h=>bCv (aK prog 3 Q (k+1000319)) (k+1000319) h (fun x h=>some (x,h))) (k+1000319) (aA h.next) (str PM) d=some (iN v,f):=e;obtain⟨M,p⟩:=eX (k+1000319);rw[←p]at a e⊢;simp only[bUh,aLz,bRf,B,qS,l,zQ,t,bIw,bRe,qJ,a,cIx,bSk,cIu,n];exact e
def cNs (k:Nat)(l:s.length≤1000300):∃a,aK prog 3 Q (k+1000321) 103 [str s,str PM] h=some (.bool (xT s),a)∧Ext h a:=by
 rw[bNl Q (k+1000320) _ _ h (Z.fr 103 _ (by decide))];obtain⟨a,v,e,b,x⟩:=cNp Z (h:=h) k l;refine⟨a,?_,x⟩;simp only[cKq,aYo,e,qS,bF,b]
end
def bLf (a b:Int):A.zS prog .min ⟨[3,3]⟩ 3 [iN a,iN b]=some (iN (if b<a then b else a)):=by
 have e:A.zS prog .min ⟨[3,3]⟩ 3 [iN a,iN b]=(match ev prog (Builtin.min2 (Value.int IntKind.i64 a) (Value.int IntKind.i64 b))with
  |some v=>bif aJ v then some v else none
  |none=>none):=by simp[A.zS,Builtin.min_,eU,aJ];rfl
 rw[e];rfl
def slT (h:m≤l.length):A.zN (str l) none (some (iN (m:Int)))=some (str (l.take m)):=by
 show(match(bif Nat.ble m l.length then some (some m)else none)with|none=>none|some h=>match A.zQ (h.getD l.length) none with|none=>none|some q=>some (Value.string ⟨⟨(l.drop (q.getD 0)).take (h.getD l.length-q.getD 0)⟩⟩))=_
 rw[show Nat.ble m l.length=true from ble_iff.2 h];rfl
def aVg:∀{l:kC kG} {c:kG},0≤Lib.indexByte l c→∃m:Nat,Lib.indexByte l c=(m:Int)∧m<l.length
 |[],c,h=>by simp[Lib.indexByte]at h
 |b::l,c,h=>by
  unfold Lib.indexByte at h⊢;by_cases a:(b==c)=true
  ·rw[kM a];exact⟨0,rfl,by simp⟩
  ·rw[kL a]at h⊢;by_cases n:(Lib.indexByte l c== -1)=true
   ·rw[kM n]at h;exact dC h (by decide)
   ·rw[kL n]at h⊢;have g:Lib.indexByte l c≠ -1:=fun e=>n (by rw[e];rfl);obtain⟨m,f,d⟩:=aVg (l:=l) (c:=c) (by omega);exact⟨m+1,by rw[f];omega,by rw[kY];omega⟩
section
variable {Q:Orc}(Z:KnA Q)
include Z
def cNi (k:Nat)(s:kC kG):aK prog 3 Q (k+1) 156 [str s,u8 47] h=some (iN (Lib.countByte s 47:Nat),h):=by
 have q:Q 156 [str s,u8 47]=none:=Z.fr 156 _ (by decide);have b:((prog.funcs[156]?).map fun f=>(f.body.isNone,xS f))=some (true,3):=by kernel_rfl
 obtain⟨f,c,a⟩:∃f,prog.funcs[156]?=some f∧(f.body.isNone,xS f)=(true,3):=by
  cases c:prog.funcs[156]? with
  |none=>rw[c]at b;cases b
  |some f=>rw[c]at b;exact⟨f,rfl,pB b⟩
 have d:f.body=none:=Option.isNone_iff_eq_none.1 (sX Prod.fst a);have g:xS f=3:=sX Prod.snd a;simp only[aK,q,c,d,g];have e:(((47:kG).toNat:Int).toNat).toUInt8=(47:kG):=rfl;show some (iN ((⟨⟨s⟩⟩:ByteArray).foldl (fun(n:Int) x=>if x==(((47:kG).toNat:Int).toNat).toUInt8 then n+1 else n) ((0:Nat):Int)),h)=_
 rw[e,Lib.foldl_data,Lib.count_foldl];simp
def cNh (k:Nat)(s:kC kG):aK prog 3 Q (k+3) 157 [str s,str SL] h=some (iN (Lib.indexByte s 47),h):=by
 rw[bMt Q (k+2) _ _ h (Z.fr 157 _ (by decide))];have l:A.zH (str SL)=some (iN 1):=rfl;have d:decide ((1:Int)=0)=false:=rfl;have b:decide ((1:Int)=1)=true:=rfl;have i:A.zD (str SL) (iN 0)=some (iU ((47:Nat):Int)):=rfl;have e:=cJy Z (h:=h) k s (show 47<256 by omega);have t:=bX SL s;by_cases a:SL=s
 ·rw[kN a]at t;subst a;simp only[bUe,aLx,bQs,l,qS,bSh,bQr,zQ,d,t,cIa];rfl
 ·rw[kO a]at t;simp only[bUe,aLx,bQs,l,qS,bSh,bQr,zQ,d,t,cIc,cIb,i,e];rfl
def cNl (k:Nat)(s:kC kG):aK prog 3 Q (k+4) 137 [str s,str SL] h=some (iN (Lib.indexByte s 47),h):=by
 rw[bNa Q (k+3) _ _ h (Z.fr 137 _ (by decide))];simp only[cKj,aYj,cNh Z k s,qS]
def cBg (k:Nat)(s:kC kG):aK prog 3 Q (k+2) 136 [str s,str SL] h=some (iN (Lib.countByte s 47:Nat),h):=by
 rw[bNb Q (k+1) _ _ h (Z.fr 136 _ (by decide))];have l:A.zH (str SL)=some (iN 1):=rfl;have d:decide ((1:Int)=0)=false:=rfl;have a:decide ((1:Int)=1)=true:=rfl;have i:A.zD (str SL) (iN 0)=some (u8 47):=rfl;simp only[cKk,aRe,cIq,l,qS,zQ,d,i,cNi Z k s];rfl
def bUz (k L:Nat)(G:kA→kA→kA→H→kB Y){N r:Nat}(hN:N≤1000300):
 ∀(d m:Nat) (h:H) (s:kC kG) (p:kC (kC kG)) (b:kC kA),p.length+d=N→d<m→s.length≤1000300→h.get r=some (.cells b (some 1))→b.length=N+1→b.take p.length=p.map str→r<h.next→
  ∃u t a f,aMv (aK prog 3 Q (k+4)) L G m (iN (N:Int)) (str SL) (iN 0) (str s) (.slice (some ⟨r,0,none⟩) (N+1) (2*(N+1)+1)) (iN (p.length:Int)) h=G (str a) (.slice (some ⟨r,0,none⟩) (N+1) (2*(N+1)+1)) (iN (t.length:Int)) u∧
   p++oR d s=t++[a]∧t.length≤N∧u.get r=some (.cells f (some 1))∧f.length=N+1∧f.take t.length=t.map str∧ExtBut (fun i=>i=r) h u:=by
 intro d
 induction d with
 |zero=>
  intro m h s p b O R S g y z I;obtain⟨m,rfl⟩:=pS m (by omega);have x:decide ((p.length:Int)<(N:Int))=false:=by rw[kU];omega
  refine⟨h,p,s,b,?_,rfl,by omega,g,y,z,⟨kQ _,fun _ _ _=>rfl⟩⟩;simp only[aMv,bCx,zZ,x,qS]
 |succ d U=>
  intro m h s p b O R S g y z I;obtain⟨m,rfl⟩:=pS m (by omega);have x:decide ((p.length:Int)<(N:Int))=true:=by rw[kV];omega
  have o:=cNl Z (h:=h) k s;by_cases n:Lib.indexByte s 47<0
  ·have B:decide (Lib.indexByte s 47<0)=true:=kN n;refine⟨h,p,s,b,?_,by unfold oR;rw[kM n],by omega,g,y,z,⟨kQ _,fun _ _ _=>rfl⟩⟩;simp only[aMv,bCx,zZ,x,qS,o,B]
  ·have B:decide (Lib.indexByte s 47<0)=false:=kO n;obtain⟨q,E,P⟩:=aVg (l:=s) (c:=47) (by omega);have w1:IntKind.i64.wrap ((q:Int)+0)=(q:Int):=by rw[gX (by omega) (by omega)];omega
   have w2:IntKind.i64.wrap ((q:Int)+1)=((q+1:Nat):Int):=aQ (by omega);have w3:IntKind.i64.wrap ((p.length:Int)+1)=((p.length+1:Nat):Int):=aQ (by omega);have C:=slT (l:=s) (m:=q) (by omega);have D:=slS (l:=s) (k:=q+1) (by omega);have W:A.zH (str SL)=some (iN 1):=rfl;have V:=lW 1 r 0 (N+1) (2*(N+1)+1) p.length .i64 (by omega);obtain⟨w,j⟩:=eX (h.put r (.cells (b.set p.length (str (s.take q))) (some 1)));have J:A.store 1 (.pointer (some ⟨r,0+p.length*1,none⟩)) (str (s.take q)) h=some w:=by
    have c1:aN (str (s.take q))=some [str (s.take q)]:=rfl;have c2:Nat.beq [str (s.take q)].length 1=true:=rfl;have c3:Nat.ble (0+p.length*1+1) b.length=true:=ble_iff.2 (by omega);rw[qU,g,c1];simp only[c2,c3,Bool.and_self,sV,nZ (by omega:0+p.length*1<b.length)];rw[j];simp only[sR,tA]
   have M:w.get r=some (.cells (b.set p.length (str (s.take q))) (some 1)):=by rw[j,H.get_put,kM rfl]
   have X:ExtBut (fun i=>i=r) h w:=by rw[j];exact ExtBut.put ⟨kQ _,fun _ _ _=>rfl⟩ r _ rfl
   have v:(p++[s.take q]).length=p.length+1:=by simp
   obtain⟨u,t,a,f,e,r1,r2,r3,r4,r5,r6⟩:=U m w (s.drop (q+1)) (p++[s.take q]) (b.set p.length (str (s.take q))) (by omega) (by omega) (by rw[pI];omega) M (by rw[rB];exact y) (by
    rw[v,rJ,←z];have:p.length<(b.set p.length (str (s.take q))).length:=by rw[rB];omega
    rw[List.take_add_one,List.getElem?_set_self (by omega),List.take_set_of_le (kQ _)];rfl) (by rw[j];exact I)
   rw[v]at e;refine⟨u,t,a,f,?_,?_,r2,r3,r4,r5,X.trans r6⟩
   ·simp only[aMv,bCx,zZ,x,qS,o,B];rw[E];simp only[bC,w1,qS,C,V,J,W,w2,D,w3];exact e
   ·have K:oR (d+1) s=s.take q::oR d (s.drop (q+1)):=by
     show(if Lib.indexByte s 47<0 then[s]else s.take (Lib.indexByte s 47).toNat::oR d (s.drop ((Lib.indexByte s 47).toNat+1)))=_
     rw[kL n,E];rfl
    rw[K,←r1];simp
def cNr (k:Nat)(hl:s.length≤1000300):∃j v,aK prog 3 Q (k+1000320) 102 [str s,str SL] h=some (v,j)∧SliceE 1 j v ((bH s).map fun x=>[str x])∧Ext h j:=by
 rw[bNm Q (k+1000319) _ _ h (Z.fr 102 _ (by decide))];have hc:Lib.countByte s 47≤s.length:=List.count_le_length;obtain⟨N,u⟩:=eX ((if s.length<Lib.countByte s 47 then s.length else Lib.countByte s 47))
 have w:N=Lib.countByte s 47:=by rw[u,kL (by omega)]
 have t:∃j v,aK prog 3 Q (k+1000319) 122 [str s,str SL,iN 0,iN (-1)] h=some (v,j)∧SliceE 1 j v ((bH s).map fun x=>[str x])∧Ext h j:=by
  rw[bNf Q (k+1000318) _ _ _ _ h (Z.fr 122 _ (by decide))];have P:decide ((-1:Int)=0)=false:=rfl;have R:decide ((-1:Int)<0)=true:=rfl;have st:A.z prog .eql 9 (str SL) (.string ⟨⟨[]⟩⟩)=some (.bool false):=by kernel_rfl
  have c:=cBg Z (h:=h) (k+1000316) s;have c:aK prog 3 Q (k+1000318) 136 [str s,str SL] h=_:=c;rw[←w]at c;have w1:IntKind.i64.wrap ((N:Int)+1)=((N+1:Nat):Int):=aQ (by omega);have w2:IntKind.i64.wrap ((s.length:Int)+1)=((s.length+1:Nat):Int):=aQ (by omega);have mn:A.zS prog .min ⟨[3,3]⟩ 3 [iN ((N+1:Nat):Int),iN ((s.length+1:Nat):Int)]=some (iN ((N+1:Nat):Int)):=by
   rw[bLf,kL (by omega)]
  obtain⟨o,f⟩:=eX (h.push (.cells (A.zeros TaA.Z9L (N+1)) (some 1)));have zl:∀n,(A.zeros TaA.Z9L n).length=n:=fun n=>by
   have hz:TaA.Z9L.length=1:=rfl
   induction n with
   |zero=>rfl
   |succ n B=>simp only[A.zeros,kX,hz]at B⊢;omega
  have mk:A.zP 1 16 TaA.Z9L (iN ((N+1:Nat):Int)) (iN ((N+1:Nat):Int)) h=some (.slice (some ⟨h.next,0,none⟩) (N+1) (2*(N+1)+1),o):=by
   have S:Nat.ble (16*(N+1)) (2^47)=true:=ble_iff.2 (by omega);have U:Nat.ble (N+1) (2^47)=true:=ble_iff.2 (by omega);show(bif Nat.ble (N+1) (N+1)&&Nat.ble (16*(N+1)) (2^47)&&Nat.ble (N+1) (2^47)then some (Value.slice (some ⟨h.next,0,none⟩) (N+1) (2*(N+1)+1),h.push (.cells (A.zeros TaA.Z9L (N+1)) (some 1)))else none)=_
   rw[S,U,←f,show Nat.ble (N+1) (N+1)=true from ble_iff.2 (kQ _)];rfl
  have E:Ext h o:=by rw[f];exact Ext.push h _
  have X:o.get h.next=some (.cells (A.zeros TaA.Z9L (N+1)) (some 1)):=by rw[f,H.get_push,kM rfl]
  have w3:IntKind.i64.wrap (((N+1:Nat):Int)-1)=(N:Int):=by rw[gX (by omega) (by omega)];omega
  obtain⟨J,p,b,q,e,r1,r2,r3,r4,r5,r6⟩:=bUz Z (k+1000314) (k+1000318) (fun D I m h=>bHn (aK prog 3 Q (k+1000318)) (k+1000318) D I m h (fun G h=>some (G,h))) (N:=N) (r:=h.next) (by omega) N (k+1000318) o s [] _ (by simp) (by omega) hl X (zl _) rfl (by rw[f];exact mQ _);have ix:=lW 1 h.next 0 (N+1) (2*(N+1)+1) p.length .i64 (by omega);obtain⟨h3,g⟩:=eX (J.put h.next (.cells (q.set p.length (str b)) (some 1)));have V:A.store 1 (.pointer (some ⟨h.next,0+p.length*1,none⟩)) (str b) J=some h3:=by
   have c1:aN (str b)=some [str b]:=rfl;have c2:Nat.beq [str b].length 1=true:=rfl;have c3:Nat.ble (0+p.length*1+1) q.length=true:=ble_iff.2 (by omega);rw[qU,r3,c1];simp only[c2,c3,Bool.and_self,sV,nZ (by omega:0+p.length*1<q.length)];rw[g];simp only[sR,tA]
  have Y:h3.get h.next=some (.cells (q.set p.length (str b)) (some 1)):=by rw[g,H.get_put,kM rfl]
  have w4:IntKind.i64.wrap ((p.length:Int)+1)=((p.length+1:Nat):Int):=aQ (by omega);have C:A.zK 1 (.slice (some ⟨h.next,0,none⟩) (N+1) (2*(N+1)+1)) none (some (iN ((p.length+1:Nat):Int))) none h3=some (.slice (some ⟨h.next,0,none⟩) (p.length+1) (2*(N+1)+1)):=by
   have L:A.zQ ((2*(N+1)+1) / 2) (some (iN ((p.length+1:Nat):Int)))=some (some (p.length+1)):=by
    show(bif Nat.ble (p.length+1) ((2*(N+1)+1) / 2)then some (some (p.length+1))else none)=_
    rw[ble_iff.2 (by omega)];rfl
   have O:Nat.beq ((2*(N+1)+1)%2) 1=true:=by rw[show(2*(N+1)+1)%2=1 by omega];rfl
   show(match A.zQ ((2*(N+1)+1) / 2) (some (iN ((p.length+1:Nat):Int)))with
    |none=>none
    |some r=>match A.zQ (r.getD (N+1)) none with
     |none=>none
     |some l=>bif Nat.beq ((2*(N+1)+1)%2) 1||(none:kB Nat).isSome||Nat.beq (l.getD 0) 0||A.yH 1 h.next h3 then some (Value.slice (some ⟨h.next,0+l.getD 0*1,none⟩) (r.getD (N+1)-l.getD 0) (2*(N+1)+1-2*l.getD 0))else none)=_
   rw[L,O];rfl
  have e:aMv (aK prog 3 Q (k+1000318)) (k+1000318) (fun D I m h=>bHn (aK prog 3 Q (k+1000318)) (k+1000318) D I m h (fun G h=>some (G,h))) (k+1000318) (iN (N:Int)) (str SL) (iN 0) (str s) (.slice (some ⟨h.next,0,none⟩) (N+1) (2*(N+1)+1)) (iN 0) o=some (.slice (some ⟨h.next,0,none⟩) (p.length+1) (2*(N+1)+1),h3):=by
   refine e.trans ?_;simp only[bHn,ix,qS,V,bC,w4,C]
  refine⟨h3,.slice (some ⟨h.next,0,none⟩) (p.length+1) (2*(N+1)+1),?_,⟨?_,.inr ⟨h.next,0,2*(N+1)+1,?_,?_,?_,fun _=>⟨_,_,Y,?_,?_⟩⟩⟩,?_⟩
  ·obtain⟨M,hM⟩:=eX (k+1000318);rw[←hM]at c e⊢;simp only[cKm,aRf,cIz,zQ,P,qS,st,zZ,R,c,bC,w1,cIy,qJ,w2,mn,mk,lC,w3];exact e
  ·intro x hx;obtain⟨y,_,rfl⟩:=mW.1 hx;rfl
  ·have d:bH s=p++[b]:=by rw[←r1];unfold bH;rw[←u];rfl
   rw[d,pO,kX];rfl
  ·have d:bH s=p++[b]:=by rw[←r1];unfold bH;rw[←u];rfl
   rw[d,pO,kX];show p.length+1≤_;omega
  ·rw[g];exact kT (show h.next<o.next by rw[f];exact mQ _) r6.next
  ·have d:bH s=p++[b]:=by rw[←r1];unfold bH;rw[←u];rfl
   rw[d,pO,kX,rB];show 0+(p.length+1)*1≤_;omega
  ·have d:bH s=p++[b]:=by rw[←r1];unfold bH;rw[←u];rfl
   have W:∀l:kC (kC kG),(l.map fun x=>[str x]).flatten=l.map str:=fun l=>by induction l with|nil=>rfl|cons a l B=>simp[B]
   rw[d,pO,kX,W,rJ,←r5,mI];show(q.set p.length (str b)).take ((p.length+1)*1)=_;rw[tA,List.take_add_one,List.getElem?_set_self (by omega),List.take_set_of_le (kQ _)];rfl
  ·refine⟨?_,fun i K=>?_⟩
   ·rw[g];exact kR E.next r6.next
   ·rw[g,H.get_put,kL (by omega),r6.get i (kT K E.next) (by omega)];exact E.get i K
 obtain⟨j,v,e,C,x⟩:=t;refine⟨j,v,?_,C,x⟩;simp only[cKr,aYp,e,qS]
end
structure aMh (B:H)(A:kC Nat):Prop where
 n4:3≤B.next
 g0:B.get 1=some (.cells (gR Go.Pinned.utf8FirstZ) none)
 g1:B.get 2=some (.cells (gR A) none)
 lA:A.length=32
def bLm (c:128≤n)(b:n<256):∃x,Go.Pinned.utf8FirstZ[n]?=some x∧x<256∧(240≤x∨(2≤x%8∧x%8≤4)):=by
 have a:((List.range 256).all fun n=>Nat.blt n 128||(match Go.Pinned.utf8FirstZ[n]? with|some x=>Nat.blt x 256&&(Nat.ble 240 x||(Nat.ble 2 (x%8)&&Nat.ble (x%8) 4))|none=>false))=true:=by kernel_rfl
 have:=mB.1 a n (rO.2 b);rw[tI,blt_iff]at this;rcases this with h|h
 ·omega
 ·cases e:Go.Pinned.utf8FirstZ[n]? with
  |none=>rw[e]at h;cases h
  |some x=>
   rw[e]at h;simp only[pA,tI,blt_iff,ble_iff]at h;exact⟨x,rfl,h.1,h.2⟩
def aIc (k:IntKind)(x y:Int):Int:=k.wrap (BitVec.ofInt k.bits x&&& BitVec.ofInt k.bits y).toNat
def orI (k:IntKind)(x y:Int):Int:=k.wrap (BitVec.ofInt k.bits x|||BitVec.ofInt k.bits y).toNat
def bEt (k:IntKind)(x y:Int):Int:=k.wrap (BitVec.ofInt k.bits x&&& ~~~ BitVec.ofInt k.bits y).toNat
def aBl (t:kF)(k:IntKind)(x y:Int):A.z prog .and t (.int k x) (.int k y)=some (.int k (aIc k x y)):=gS prog .and t k x y (by simp) (by simp)
def aGb (t:kF)(k:IntKind)(x y:Int):A.z prog .or t (.int k x) (.int k y)=some (.int k (orI k x y)):=gS prog .or t k x y (by simp) (by simp)
def aUx (t:kF)(k:IntKind)(x y:Int):A.z prog .andNot t (.int k x) (.int k y)=some (.int k (bEt k x y)):=gS prog .andNot t k x y (by simp) (by simp)
def aFg (n:Nat)(x:Int):Int:=IntKind.i32.wrap (x*2^(min n IntKind.i32.bits))
def bNt (n:Nat)(x:Int):Int:=x.fdiv (2^(min n IntKind.i32.bits))
def bNu (x:Int):A.z prog .shl 21 (.int .i32 x) (.int .u64 6)=some (.int .i32 (aFg 6 x)):=rfl
def bEo (x:Int):A.z prog .shl 21 (.int .i32 x) (.int .u64 12)=some (.int .i32 (aFg 12 x)):=rfl
def bUo (x:Int):A.z prog .shl 21 (.int .i32 x) (.int .u64 18)=some (.int .i32 (aFg 18 x)):=rfl
def bUn (x:Int):A.z prog .shl 21 (.int .i32 x) (.int .u64 31)=some (.int .i32 (aFg 31 x)):=rfl
def bUm (x:Int):A.z prog .shr 21 (.int .i32 x) (.int .u64 31)=some (.int .i32 (bNt 31 x)):=rfl
def aBk (x:Int):A.conv prog 5 21 (iU x)=some (.int .i32 (IntKind.i32.wrap x)):=by kernel_rfl
def cNa (x:n<256):A.z prog .and 5 (iU (n:Int)) (iU 7)=some (iU ((n%8:Nat):Int)):=by
 have a:((List.range 256).all fun n=>match A.z prog .and 5 (iU (n:Int)) (iU 7)with|some v=>AM.same v (iU ((n%8:Nat):Int))|none=>false)=true:=by kernel_rfl
 have:=mB.1 a n (rO.2 x);split at this
 ·rename_i v h;rw[h,lV _ _ this]
 ·cases this
section
variable {Q:Orc}{B:H}{Z:kC Nat}(X:KnA Q)(Y:aMh B Z)
include X Y
def cKz (I:Nat){c:kG}{z l:Nat}(L:2≤z∧z≤4)(v:A.load false 1 (.pointer (some ⟨k,0,none⟩)) j=some (iU (n:Int)))(G:A.load false 1 (.pointer (some ⟨k,1,none⟩)) j=some (iU (l:Int))):
 ∃r O,aMx (aK prog 3 Q I) I (iN ((c::t).length:Int)) (aA k) (iN (z:Int)) (str (c::t)) (u8 c) j (fun M N h=>some (Value.tuple ⟨[M,N]⟩,h))=some (Value.tuple ⟨[.int .i32 r,iN O]⟩,j)∧decide ((1:Int)<O)=whG z n l t:=by
 have _:=X;have _:=Y;have lw:(c::t).length=t.length+1:=rfl;unfold whG;by_cases s:t.length+1<z
 ·have f:decide (((c::t).length:Int)<(z:Int))=true:=kN (by omega);rw[kM s];refine⟨65533,1,?_,rfl⟩;simp only[aMx,aWw,zZ,f,qS]
 have f:decide (((c::t).length:Int)<(z:Int))=false:=kO (by omega);rw[kL s]
 match t,s,f with
 |[],s,_=>exact dC (show 0+1<z by omega) s
 |b::t2,s,f=>
  have o:A.zD (str (c::b::t2)) (iN 1)=some (u8 b):=ixS (i:=1) rfl;by_cases c1:b.toNat<n
  ·have p:decide ((b.toNat:Int)<(n:Int))=true:=kN (by omega);simp only[kM c1];refine⟨65533,1,?_,rfl⟩;simp only[aMx,aWw,zZ,f,qS,o,TaK.n0,v,p]
  have p:decide ((b.toNat:Int)<(n:Int))=false:=kO (by omega);by_cases c2:l<b.toNat
  ·have q:decide ((l:Int)<(b.toNat:Int))=true:=kN (by omega);simp only[kL c1,kM c2];refine⟨65533,1,?_,rfl⟩;simp only[aMx,aWw,zZ,f,qS,o,TaK.n0,v,p,G,q]
  have q:decide ((l:Int)<(b.toNat:Int))=false:=kO (by omega);by_cases J:z≤2
  ·have x:decide ((z:Int)≤2)=true:=kN (by omega);simp only[kL c1,kL c2,kM J];refine⟨(orI .i32 (aFg 6 (IntKind.i32.wrap (aIc .u8 (c.toNat:Int) 31))) (IntKind.i32.wrap (aIc .u8 (b.toNat:Int) 63))),2,?_,rfl⟩;simp only[aMx,aWw,zZ,f,qS,o,TaK.n0,v,p,G,q,bQt,cG,x,aBl,aBk,bNu,aGb]
  have x:decide ((z:Int)≤2)=false:=kO (by omega)
  match t2,s,f,o with
  |[],s,_,_=>exact dC (show 0+1+1<z by omega) s
  |d::t3,s,f,o=>
   have C:A.zD (str (c::b::d::t3)) (iN 2)=some (u8 d):=ixS (i:=2) rfl;have y:∀(E:kA→kA→H→kB (kA×H)),aMx (aK prog 3 Q I) I (iN ((c::b::d::t3).length:Int)) (aA k) (iN (z:Int)) (str (c::b::d::t3)) (u8 c) j E=aQw (aK prog 3 Q I) I (iN (z:Int)) (str (c::b::d::t3)) (u8 c) (u8 b) (u8 d) j E:=by
    intro E;simp only[aMx,aWw,zZ,f,qS,o,TaK.n0,v,p,G,q,bQt,cG,x,C]
   rw[y];simp only[kL c1,kL c2,kL J];by_cases c3:d.toNat<128
   ·have g:decide ((d.toNat:Int)<128)=true:=kN (by omega);simp only[kM c3];refine⟨65533,1,?_,rfl⟩;simp only[aQw,aSd,zZ,g,qS]
   have g:decide ((d.toNat:Int)<128)=false:=kO (by omega);by_cases c4:191<d.toNat
   ·have m:decide ((191:Int)<(d.toNat:Int))=true:=kN (by omega);simp only[kL c3,kM c4];refine⟨65533,1,?_,rfl⟩;simp only[aQw,aSd,zZ,g,qS,m]
   have m:decide ((191:Int)<(d.toNat:Int))=false:=kO (by omega);by_cases K:z≤3
   ·have a:decide ((z:Int)≤3)=true:=kN (by omega);simp only[kL c3,kL c4,kM K];refine⟨(orI .i32 (orI .i32 (aFg 12 (IntKind.i32.wrap (aIc .u8 (c.toNat:Int) 15))) (aFg 6 (IntKind.i32.wrap (aIc .u8 (b.toNat:Int) 63)))) (IntKind.i32.wrap (aIc .u8 (d.toNat:Int) 63))),3,?_,rfl⟩;simp only[aQw,aSd,zZ,g,qS,m,bCp,cG,a,aBl,aBk,bEo,bNu,aGb]
   have a:decide ((z:Int)≤3)=false:=kO (by omega)
   match t3,s,C with
   |[],s,_=>exact dC (show 0+1+1+1<z by omega) s
   |e::t4,s,C=>
    have D:A.zD (str (c::b::d::e::t4)) (iN 3)=some (u8 e):=ixS (i:=3) rfl;simp only[kL c3,kL c4,kL K];by_cases c5:e.toNat<128
    ·have u:decide ((e.toNat:Int)<128)=true:=kN (by omega);simp only[kM c5];refine⟨65533,1,?_,rfl⟩;simp only[aQw,aSd,zZ,g,qS,m,bCp,cG,a,bHi,D,u]
    have u:decide ((e.toNat:Int)<128)=false:=kO (by omega);by_cases c6:191<e.toNat
    ·have w:decide ((191:Int)<(e.toNat:Int))=true:=kN (by omega);simp only[kL c5,kM c6];refine⟨65533,1,?_,rfl⟩;simp only[aQw,aSd,zZ,g,qS,m,bCp,cG,a,bHi,D,u,w]
    have w:decide ((191:Int)<(e.toNat:Int))=false:=kO (by omega);simp only[kL c5,kL c6];refine⟨(orI .i32 (orI .i32 (orI .i32 (aFg 18 (IntKind.i32.wrap (aIc .u8 (c.toNat:Int) 7))) (aFg 12 (IntKind.i32.wrap (aIc .u8 (b.toNat:Int) 63)))) (aFg 6 (IntKind.i32.wrap (aIc .u8 (d.toNat:Int) 63)))) (IntKind.i32.wrap (aIc .u8 (e.toNat:Int) 63))),4,?_,rfl⟩;simp only[aQw,aSd,zZ,g,qS,m,bCp,cG,a,bHi,D,u,w,aBl,aBk,bUo,bEo,bNu,aGb]
def cNk (k:Nat){c:kG}(N:Ext B h)(hc:128≤c.toNat)(hl:t.length≤1000300):
 ∃M r n,aK prog 3 Q (k+1) 154 [str (c::t)] h=some (.tuple ⟨[.int .i32 r,iN n]⟩,M)∧decide ((1:Int)<n)=whB Z (c::t)∧Ext h M:=by
 rw[bMu Q k _ h (X.fr 154 _ (by decide))];obtain⟨x,P,b,E⟩:=bLm hc c.toNat_lt;have o:jI c.toNat=x:=by unfold jI;rw[P];rfl
 have V:=qJ (c::t);have K:decide (((c::t).length:Int)<1)=false:=by rw[kU,kY];omega
 have S:A.zD (str (c::t)) (iN 0)=some (u8 c):=ixS (i:=0) rfl;have g0:h.get 1=some (.cells (gR Go.Pinned.utf8FirstZ) none):=by rw[N.get 1 (by have:=Y.n4;omega)];exact Y.g0
 have g1:h.get 2=some (.cells (gR Z) none):=by rw[N.get 2 (by have:=Y.n4;omega)];exact Y.g1
 have w:A.yL 256 1 (.pointer (some ⟨1,0,none⟩)) (u8 c)=some (.pointer (some ⟨1,0+c.toNat*1,none⟩)):=by
  show(bif Nat.blt c.toNat 256 then _ else none)=_
  rw[blt_iff.2 c.toNat_lt];rfl
 have U:A.load false 1 (.pointer (some ⟨1,0+c.toNat*1,none⟩)) h=some (iU (x:Int)):=by
  rw[qK,g0,sR,tA];show(gR Go.Pinned.utf8FirstZ)[c.toNat]?=_;unfold gR;rw[pL,P];rfl
 by_cases a:240≤x
 ·have y:decide ((240:Int)≤(x:Int))=true:=kN (by omega);have hw:whB Z (c::t)=false:=by
   show(if 240≤jI c.toNat then false else _)=_
   rw[o,kM a]
  refine⟨h,orI .i32 (bEt .i32 (IntKind.i32.wrap (c.toNat:Int)) (bNt 31 (aFg 31 (IntKind.i32.wrap (x:Int))))) (aIc .i32 65533 (bNt 31 (aFg 31 (IntKind.i32.wrap (x:Int))))),1,?_,by rw[hw];rfl,Ext.refl h⟩;simp only[bUf,aGe,bQv,V,qS,zZ,K,S,w,U,bQu,bF,y,aBk,bUn,bUm,aUx,aBl,aGb]
 have y:decide ((240:Int)≤(x:Int))=false:=kO (by omega);have v:2≤x%8∧x%8≤4:=by rcases E with h|h;exact dC h a;exact h
 obtain⟨z,R⟩:=eX (x%8);obtain⟨q,O⟩:=eX (x / 16);have u:q<16:=by omega
 have J:=cNa b;rw[←R]at J v;have cz:=aFw z (by omega:z<256);have W:=(cLc b).1;rw[←O]at W;have G:A.yL 16 2 (.pointer (some ⟨2,0,none⟩)) (iU (q:Int))=some (.pointer (some ⟨2,0+q*2,none⟩)):=by
  show(bif Nat.blt q 16 then _ else none)=_
  rw[blt_iff.2 u];rfl
 obtain⟨l,s⟩:∃l,Z[2*q]?=some l:=⟨_,kZ (by rw[Y.lA];omega)⟩;obtain⟨d,p⟩:∃d,Z[2*q+1]?=some d:=⟨_,kZ (by rw[Y.lA];omega)⟩;have l1:A.load true 2 (.pointer (some ⟨2,0+q*2,none⟩)) h=some (.agg ⟨[iU (l:Int),iU (d:Int)]⟩):=by
  rw[aI,g1];have bl:(gR Z).length=32:=by unfold gR;rw[pO,Y.lA]
  have C:Nat.ble (0+q*2+2) (gR Z).length=true:=ble_iff.2 (by omega);simp only[C,sV];have D:((gR Z).drop (0+q*2)).take 2=[iU (l:Int),iU (d:Int)]:=by
   have b1:(gR Z)[0+q*2]?=some (iU (l:Int)):=by unfold gR;rw[pL,show 0+q*2=2*q by omega,s];rfl
   have b2:(gR Z)[0+q*2+1]?=some (iU (d:Int)):=by unfold gR;rw[pL,show 0+q*2+1=2*q+1 by omega,p];rfl
   rw[aU b1,aU b2];rfl
  rw[D]
 obtain⟨m,g⟩:=eX (h.push (.cells TaA.Z205L (some 0)));have C:A.box 2 TaA.Z205 h=some (aA h.next,m):=by rw[g];rfl
 obtain⟨f,j⟩:=eX (m.put h.next (.cells [iU (l:Int),iU (d:Int)] (some 0)));have gz:m.get h.next=some (.cells TaA.Z205L (some 0)):=by rw[g,H.get_push,kM rfl]
 have D:A.store 2 (aA h.next) (.agg ⟨[iU (l:Int),iU (d:Int)]⟩) m=some f:=by
  rw[qU,gz,j];rfl
 have x2:Ext h f:=by rw[j];exact(g▸Ext.push h _:Ext h m).put _ _ (kQ _)
 have L:f.get h.next=some (.cells [iU (l:Int),iU (d:Int)] (some 0)):=by rw[j,H.get_put,kM rfl]
 have ll:A.load false 1 (.pointer (some ⟨h.next,0,none⟩)) f=some (iU (l:Int)):=by rw[qK,L];rfl
 have lh:A.load false 1 (.pointer (some ⟨h.next,1,none⟩)) f=some (iU (d:Int)):=by rw[qK,L];rfl
 have wh:whB Z (c::t)=whG z l d t:=by
  show(if 240≤jI c.toNat then false else whG (jI c.toNat%8) ((Z[2*(jI c.toNat / 16)]?).getD 0) ((Z[2*(jI c.toNat / 16)+1]?).getD 0) t)=_
  rw[o,kL a,←R,←O,s,p];rfl
 rw[wh];have hd:∀(I:kA→kA→H→kB (kA×H)),aGe (aK prog 3 Q k) k (str (c::t)) h I=aMx (aK prog 3 Q k) k (iN ((c::t).length:Int)) (aA h.next) (iN (z:Int)) (str (c::t)) (u8 c) f I:=by
  intro I;simp only[aGe,bQv,V,qS,zZ,K,S,w,U,bQu,bF,y,J,cz,W,G,l1,C,D]
 simp only[bUf];rw[hd];obtain⟨r,n,e,hn⟩:=cKz X Y k (t:=t) v ll lh;exact⟨f,r,n,e,hn,x2⟩
end
def aUr (e:A.zO ⟨⟨s⟩⟩ n=some (65533,i)):∃b,s[n]?=some b∧128≤b.toNat:=by
 unfold A.zO at e
 cases a:s[n]? with
 |none=>
  have a:(⟨⟨s⟩⟩:ByteArray).data.toList[n]?=none:=a;rw[a]at e;cases e
 |some b=>
  have a:(⟨⟨s⟩⟩:ByteArray).data.toList[n]?=some b:=a;rw[a]at e;simp only at e;refine⟨b,rfl,?_⟩
  cases q:Nat.blt b.toNat 128 with
  |true=>
   rw[q]at e;simp only[sV,kP,kW]at e;have:=b.toNat_lt;omega
  |false=>
   have:¬b.toNat<128:=fun h=>by rw[blt_iff.2 h]at q;cases q
   omega
section
variable {Q:Orc}{B:H}{Z:kC Nat}(Y:KnA Q)(X:aMh B Z)
include Y X
def cNq (k:Nat){c:kG}(l:Ext B h)(m:128≤c.toNat)(o:t.length≤1000300):
 ∃b,aK prog 3 Q (k+3) 121 [str (c::t)] h=some (.bool (whB Z (c::t)),b)∧Ext h b:=by
 rw[bNg Q (k+2) _ h (Y.fr 121 _ (by decide))];obtain⟨b,r,n,e,p,x⟩:=cNk Y X (h:=h) k (c:=c) (t:=t) l m o;have a:aK prog 3 Q (k+2) 134 [str (c::t)] h=some (.tuple ⟨[.int .i32 r,iN n]⟩,b):=by
  rw[bNc Q (k+1) _ h (Y.fr 134 _ (by decide))];have f:=gZ (c::t) [];rw[kO (by simp)]at f;have f:A.z prog .neq 9 (str (c::t)) (.string ⟨⟨[]⟩⟩)=some (.bool true):=f;have q:A.zD (str (c::t)) (iN 0)=some (u8 c):=ixS (i:=0) rfl;have d:decide ((c.toNat:Int)<128)=false:=kO (by omega);have g:A.u 0 (.tuple ⟨[.int .i32 r,iN n]⟩)=some (.int .i32 r):=rfl;have j:A.u 1 (.tuple ⟨[.int .i32 r,iN n]⟩)=some (iN n):=rfl;simp only[cKl,aYk,f,qS,q,zZ,d,e,g,j]
 have g:A.u 0 (.tuple ⟨[.int .i32 r,iN n]⟩)=some (.int .i32 r):=rfl;have j:A.u 1 (.tuple ⟨[.int .i32 r,iN n]⟩)=some (iN n):=rfl;refine⟨b,?_,x⟩;simp only[cKn,aYl,a,qS,g,j,zY,p]
def bVb (k L:Nat)(hl:s.length≤1000300)(R:B.next≤n):
 ∀(d m:Nat) (h:H) (p x:Nat),s.length<p+d→d<m→x+d≤1001000→h.get n=some (.siter ⟨⟨s⟩⟩ p)→n<h.next→Ext B h→
  ∃h' v,aHw (aK prog 3 Q (k+3)) L (fun f h=>some (f,h)) (fun x h=>bCz (aK prog 3 Q (k+3)) L x h (fun f h=>some (f,h))) m (aA n) (str s) (iN (x:Int)) h=some (iN v,h')∧decide ((0:Int)≤v)=uX Z s d p∧ExtBut (fun i=>i=n) h h':=by
 have W:A.u 0 (.tuple ⟨[.bool false]⟩)=some (.bool false):=rfl;intro d
 induction d with
 |zero=>
  intro m h p x hi hm hx g lt hB;obtain⟨m,rfl⟩:=pS m (by omega);have e:=jY g (aDv (s:=s) (by omega));refine⟨h,(x:Int),?_,kN (by omega),⟨kQ _,fun _ _ _=>rfl⟩⟩;simp only[aHw,aQi,e,qS,W,bCz]
 |succ d ih=>
  intro m h p x hi hm hx g lt hB;obtain⟨m,rfl⟩:=pS m (by omega)
  cases q:A.zO ⟨⟨s⟩⟩ p with
  |none=>
   have e:=jY g q;have S:uX Z s (d+1) p=true:=by
    show(match A.zO ⟨⟨s⟩⟩ p with|none=>true|some (c,w)=>if c=0 then false else if c=65533 then(if whB Z (s.drop p)then uX Z s d (p+w)else false)else uX Z s d (p+w))=_
    rw[q]
   refine⟨h,(x:Int),?_,by rw[S];exact kN (by omega),⟨kQ _,fun _ _ _=>rfl⟩⟩;simp only[aHw,aQi,e,qS,W,bCz]
  |some cw=>
   obtain⟨c,w⟩:=cw;obtain⟨_,a3,hw⟩:=aOm q;have e:=oF g q;obtain⟨j,a⟩:=eX (h.put n (.siter ⟨⟨s⟩⟩ (p+w)));rw[←a]at e;have g1:j.get n=some (.siter ⟨⟨s⟩⟩ (p+w)):=by rw[a,H.get_put,kM rfl]
   have D:ExtBut (fun i=>i=n) h j:=by rw[a];exact ExtBut.put ⟨kQ _,fun _ _ _=>rfl⟩ n _ rfl
   have t:n<j.next:=by rw[a];exact lt
   have o:Ext B j:=aUz hB D R;have E:A.u 0 (.tuple ⟨[.bool true,iN (p:Int),.int .i32 (c:Int)]⟩)=some (.bool true):=rfl;have G:A.u 1 (.tuple ⟨[.bool true,iN (p:Int),.int .i32 (c:Int)]⟩)=some (iN (p:Int)):=rfl;have I:A.u 2 (.tuple ⟨[.bool true,iN (p:Int),.int .i32 (c:Int)]⟩)=some (.int .i32 (c:Int)):=rfl;have S:uX Z s (d+1) p=(if c=0 then false else if c=65533 then(if whB Z (s.drop p)then uX Z s d (p+w)else false)else uX Z s d (p+w)):=by
    show(match A.zO ⟨⟨s⟩⟩ p with|none=>true|some (c,w)=>if c=0 then false else if c=65533 then(if whB Z (s.drop p)then uX Z s d (p+w)else false)else uX Z s d (p+w))=_
    rw[q]
   rw[S];have C:IntKind.i64.wrap ((x:Int)+1)=((x+1:Nat):Int):=aQ (by omega);by_cases c0:c=0
   ·have y:decide ((c:Int)=0)=true:=kN (by omega);rw[kM c0];refine⟨j,-1,?_,rfl,D⟩;simp only[aHw,aQi,e,qS,E,aXe,G,I,aXo,bDb,zQ,y,bDa]
   have y:decide ((c:Int)=0)=false:=kO (by omega);rw[kL c0];by_cases M:c=65533
   ·have J:decide ((c:Int)=65533)=true:=kN (by omega);rw[kM M];obtain⟨b,O,P⟩:=aUr (by rw[M]at q;exact q);have b3:=(pX.1 O).1;have V:=slS (l:=s) (k:=p) (by omega);rw[aU O]at V;obtain⟨h2,K,f⟩:=cNq Y X (h:=j) k (c:=b) (t:=s.drop (p+1)) o P (by rw[pI];omega);rw[aU O]
    cases z:whB Z (b::s.drop (p+1))with
    |false=>
     rw[z]at K;refine⟨h2,-1,?_,rfl,D.trans f.but⟩;simp only[aHw,aQi,e,qS,E,aXe,G,I,aXo,bDb,zQ,y,J,V,K,bDa]
    |true=>
     rw[z]at K;obtain⟨h3,v,N,U,r⟩:=ih m h2 (p+w) (x+1) (by omega) (by omega) (by omega) (by rw[f.get _ t];exact g1) (kT t f.next) (o.trans f);refine⟨h3,v,?_,U,(D.trans f.but).trans r⟩;simp only[aHw,aQi,e,qS,E,aXe,G,I,aXo,bDb,zQ,y,J,V,K,bDa,bHp,bC,C];exact N
   ·have J:decide ((c:Int)=65533)=false:=kO (by omega);rw[kL M];obtain⟨h3,v,N,U,r⟩:=ih m j (p+w) (x+1) (by omega) (by omega) (by omega) g1 t o;refine⟨h3,v,?_,U,D.trans r⟩;simp only[aHw,aQi,e,qS,E,aXe,G,I,aXo,bDb,zQ,y,J,bDa,bHp,bC,C];exact N
def T77 (k:Nat)(p:Ext B h):∃b,aK prog 3 Q (k+1000400) 82 [str s] h=some (.bool (aJx Z s),b)∧Ext h b:=by
 cases r:Q 82 [str s]with
 |some v=>exact dC r (by rw[Y.fr 82 _ (by decide)];intro c;cases c)
 |none=>
  rw[cBt Q (k+1000399) _ h r];have g:∃b v,aK prog 3 Q (k+1000399) 101 [str s] h=some (iN v,b)∧decide ((0:Int)≤v)=aJx Z s∧Ext h b:=by
   rw[bNn Q (k+1000398) _ h (Y.fr 101 _ (by decide))];by_cases l:65535<s.length
   ·have d:decide ((65535:Int)<(s.length:Int))=true:=kN (by omega);refine⟨h,-1,?_,by unfold aJx;rw[kM l];rfl,Ext.refl h⟩;simp only[bUj,aMa,bRi,qJ,qS,zY,d]
   have z:s.length≤1000300:=by omega
   have d:decide ((65535:Int)<(s.length:Int))=false:=kO (by omega);have o:aJx Z s=uX Z s (s.length+1) 0:=by unfold aJx;exact kL l
   rw[o];obtain⟨j,a⟩:=eX (h.push (.siter ⟨⟨s⟩⟩ 0));have t:A.zZ (str s) h=some (aA h.next,j):=by rw[a];rfl
   have m:Ext h j:=by rw[a];exact Ext.push h _
   have u:j.get h.next=some (.siter ⟨⟨s⟩⟩ 0):=by rw[a,H.get_push,kM rfl]
   obtain⟨w,v,e,n,f⟩:=bVb Y X (k+1000395) (k+1000398) z p.next (s.length+1) (k+1000398) j 0 0 (by omega) (by omega) (by omega) u (by rw[a];exact mQ _) (p.trans m);refine⟨w,v,?_,n,⟨kR m.next f.next,fun i q=>by rw[f.get i (kT q m.next) (by omega)];exact m.get i q⟩⟩;have e:aHw (aK prog 3 Q (k+1000398)) (k+1000398) (fun f h=>some (f,h)) (fun C h=>bCz (aK prog 3 Q (k+1000398)) (k+1000398) C h (fun f h=>some (f,h))) (k+1000398) (aA h.next) (str s) (iN 0) j=_:=e;obtain⟨M,y⟩:=eX (k+1000398);rw[←y]at e⊢;simp only[bUj,aMa,bRi,qJ,qS,zY,d,bSy,cJa,t];exact e
  obtain⟨b,v,e,n,x⟩:=g;refine⟨b,?_,x⟩;simp only[F82,bTk,e,qS,bF,n]
end
end Go.Proofs.YtbmdhjdgpeleoaaGreatDoor.Ra
