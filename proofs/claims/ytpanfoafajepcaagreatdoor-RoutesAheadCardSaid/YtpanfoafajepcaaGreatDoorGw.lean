import Derived.Test.YtpanfoafajepcaaGreatDoorRaA
import Derived.Test.YtpanfoafajepcaaGreatDoorGm
import Derived.Test.YtpanfoafajepcaaGreatDoorGr
import Derived.Lib.Bytealg
set_option maxRecDepth 100000
namespace Go.Proofs.YtpanfoafajepcaaGreatDoor.Ra
open Tryz (prog)
open Go Go.AM
def PM:List UInt8:=[43,35]
def pmC (c:Nat):Bool:=decide (c=43∨c=35)
def uF (s:List UInt8):Nat→Nat→Bool
 |0,_=>false
 |f+1,pos=>match A.zQ ⟨⟨s⟩⟩ pos with
  |none=>false
  |some (c,w)=>pmC c||uF s f (pos+w)
def aJn (s:List UInt8):Bool:=if 8<s.length then s.any (fun b=>pmC b.toNat)else uF s (s.length+1) 0
def SL:List UInt8:=[47]
def pW:Nat→List UInt8→List (List UInt8)
 |0,s=>[s]
 |n+1,s=>if Lib.indexByte s 47<0 then[s]else s.take (Lib.indexByte s 47).toNat::pW n (s.drop ((Lib.indexByte s 47).toNat+1))
def cF (s:List UInt8):List (List UInt8):=pW (if s.length<Lib.countByte s 47 then s.length else Lib.countByte s 47) s
def fZ (c:Nat):Nat:=(Go.Pinned.utf8FirstZ[c]?).getD 0
def whG (z lo hi:Nat)(t:List UInt8):Bool:=
 if t.length+1<z then false else
 match t with
 |[]=>false
 |b::t2=>
  if b.toNat<lo then false else if hi<b.toNat then false else
  if z≤2 then true else
  match t2 with
  |[]=>false
  |d::t3=>
   if d.toNat<128 then false else if 191<d.toNat then false else
   if z≤3 then true else
   match t3 with
   |[]=>false
   |e::_=>if e.toNat<128 then false else if 191<e.toNat then false else true
def whB (A:List Nat):List UInt8→Bool
 |[]=>false
 |c::t=>if 240≤fZ c.toNat then false else whG (fZ c.toNat%8) ((A[2*(fZ c.toNat / 16)]?).getD 0) ((A[2*(fZ c.toNat / 16)+1]?).getD 0) t
def sZ (T:List Nat)(s:List UInt8):Nat→Nat→Bool
 |0,_=>true
 |f+1,pos=>match A.zQ ⟨⟨s⟩⟩ pos with
  |none=>true
  |some (c,w)=>if c=0 then false else if c=65533 then(if whB T (s.drop pos)then sZ T s f (pos+w)else false)else sZ T s f (pos+w)
def aFl (T:List Nat)(s:List UInt8):Bool:=if 65535<s.length then false else sZ T s (s.length+1) 0
abbrev aB (p:Nat):Value:=.pointer (some ⟨p,0,none⟩)
abbrev u8 (b:UInt8):Value:=.int .u8 (b.toNat:Int)
abbrev str (l:List UInt8):Value:=.string ⟨⟨l⟩⟩
abbrev gF:Value:=.slice none 0 0
theorem qJ (l:List UInt8):A.zG (str l)=some (.int .i64 (l.length:Int)):=rfl
theorem qB {Q:Orc}{f:Nat}{args:List Value}{v:Value}(hq:Q f args=some v)(n:Nat)(h:H):aI prog 3 Q (n+1) f args h=some (v,h):=by
 simp only[aI,hq]
def frL:List Nat:=[52,67,68,69,86,87,88,98,100,101,102,103,105,116,118,119,120,121,127,130]
def asciiPM:List Value:=(List.range 256).map fun c=>Value.bool (pmC c)
structure KnA (Q:Orc):Prop where
 fr:∀f args,f∈frL→Q f args=none
 qa:Q 104 [str PM]=some (.tuple ⟨[.agg ⟨asciiPM⟩,.bool true]⟩)
theorem aIf (n:Nat)(hn:n<256):A.conv prog 5 3 (.int .u8 (n:Int))=some (.int .i64 (n:Int)):=by
 have u5:prog.underlying 5=some (.int .u8):=Tryz.underlying5;have u3:prog.underlying 3=some (.int .i64):=Tryz.underlying3;simp only[A.conv,u5,u3];rw[lT (by omega) (by omega)]
theorem bT {α:Type}{l:List α}{i:Nat}{x:α}(hx:l[i]?=some x):l.drop i=x::l.drop (i+1):=by
 obtain⟨hi,rfl⟩:=List.getElem?_eq_some_iff.1 hx;exact List.drop_eq_getElem_cons hi
theorem ixS {l:List UInt8}{i:Nat}{b:UInt8}(h:l[i]?=some b):A.zC (str l) (.int .i64 (i:Int))=some (u8 b):=by
 show(match l[i]? with|some b=>some (Value.int .u8 b.toNat)|none=>none)=_
 rw[h]
theorem slS {l:List UInt8}{k:Nat}(h:k≤l.length):A.zO (str l) (some (.int .i64 (k:Int))) none=some (str (l.drop k)):=by
 show(match(bif Nat.ble k l.length then some (some k)else none)with|none=>none|some a=>some (Value.string ⟨⟨(l.drop (a.getD 0)).take (l.length-a.getD 0)⟩⟩))=_
 rw[show Nat.ble k l.length=true from ble_iff.2 h];simp only[cond_true,pC];rw[pN (by rw[kU];exact kF _)]
section
variable {Q:Orc}(ka:KnA Q){h:H}
include ka
end
theorem dK (a b:List UInt8):A.zA prog .eql 9 (str a) (str b)=some (.bool (decide (a=b))):=by
 rw[xK];congr 2;rw[decide_eq_decide];exact⟨fun e=>congrArg (fun b:ByteArray=>b.data.toList) e,fun e=>by rw[e]⟩
theorem rS (a b:List UInt8):A.zA prog .neq 9 (str a) (str b)=some (.bool (!decide (a=b))):=by
 rw[xJ];congr 3;rw[decide_eq_decide];exact⟨fun e=>congrArg (fun b:ByteArray=>b.data.toList) e,fun e=>by rw[e]⟩
theorem bKv {c:Nat}(hc:c<256):A.zA prog .shr 5 (.int .u8 (c:Int)) (.int .u64 4)=some (.int .u8 ((c / 16:Nat):Int))∧A.zA prog .and 5 (.int .u8 (c:Int)) (.int .u8 15)=some (.int .u8 ((c%16:Nat):Int)):=by
 have all:((List.range 256).all fun c=>(match A.zA prog .shr 5 (.int .u8 (c:Int)) (.int .u64 4)with|some v=>AM.same v (.int .u8 ((c / 16:Nat):Int))|none=>false)&&(match A.zA prog .and 5 (.int .u8 (c:Int)) (.int .u8 15)with|some v=>AM.same v (.int .u8 ((c%16:Nat):Int))|none=>false))=true:=by kernel_rfl
 have:=List.all_eq_true.1 all c (List.mem_range.2 hc);rw[kO]at this;obtain⟨a,b⟩:=this;refine⟨?_,?_⟩
 ·split at a
  ·rename_i v hv;rw[hv,gB _ _ a]
  ·cases a
 ·split at b
  ·rename_i v hv;rw[hv,gB _ _ b]
  ·cases b
theorem aHw {B h h':H}{r:Nat}(x:Ext B h)(y:ExtBut (fun j=>j=r) h h')(hr:B.next≤r):Ext B h':=
 ⟨kG x.next y.next,fun i hi=>by rw[y.get i (kH hi x.next) (by omega)];exact x.get i hi⟩
end Go.Proofs.YtpanfoafajepcaaGreatDoor.Ra

set_option maxRecDepth 100000
namespace Go.Proofs.YtpanfoafajepcaaGreatDoor.Ra
open Tryz (prog)
open Go Go.AM RaA
theorem aEd {s:ByteArray}{b:UInt8}:(match(List.range s.size).find? fun i=>s[i]! ==b with|some i=>(i:Int)|none=> -1)=Lib.indexByte s.data.toList b:=Lib.firstIdx_eq s b
theorem iL {h:H}{id pos c w:Nat}{s:ByteArray}(g:h.get id=some (.siter s pos))(e:A.zQ s pos=some (c,w)):A.yC (.pointer (some ⟨id,0,none⟩)) h=some (.tuple ⟨[.bool true,.int .i64 (pos:Int),.int .i32 (c:Int)]⟩,h.put id (.siter s (pos+w))):=by
 show(match h.get id with|some (.siter s pos)=>_|_=>none)=_
 rw[g];simp only[e]
theorem fN {h:H}{id pos:Nat}{s:ByteArray}(g:h.get id=some (.siter s pos))(e:A.zQ s pos=none):A.yC (.pointer (some ⟨id,0,none⟩)) h=some (.tuple ⟨[.bool false]⟩,h):=by
 show(match h.get id with|some (.siter s pos)=>_|_=>none)=_
 rw[g];simp only[e]
def enc (c:Nat):List UInt8:=(Utf8.encode (c:Int)).data.toList
theorem aLa {c:Nat}(h1:128≤c)(h2:c<2048):∃a b:UInt8,enc c=[a,b]∧128≤b.toNat:=by
 have hv:Utf8.valid (c:Int)=true:=by unfold Utf8.valid;simp;omega
 refine⟨UInt8.ofNat (0xC0+c / 64),UInt8.ofNat (0x80+c%64),?_,?_⟩
 ·unfold enc Utf8.encode;simp only[hv,if_true,Int.toNat_natCast];rw[kA (by omega),kB (by omega)]
 ·rw[UInt8.toNat_ofNat'];omega
theorem aHn {c:Nat}(h2:2048≤c):3≤(enc c).length∧(enc c).length≤4:=by
 unfold enc Utf8.encode;simp only;by_cases hv:Utf8.valid (c:Int)=true
 ·simp only[hv,if_true,Int.toNat_natCast];rw[kA (by omega),kA (by omega)];split
  ·exact⟨by show 3≤3;omega,by show 3≤4;omega⟩
  ·exact⟨by show 3≤4;omega,by show 4≤4;omega⟩
 ·have hv:Utf8.valid (c:Int)=false:=by simpa using hv
  simp only[hv,pB,if_false];exact⟨by decide,by decide⟩
section
variable {Q:Orc}(kb:KnA Q){h:H}
include kb
theorem bNv (k:Nat)(s:List UInt8){c:Nat}(hc:c<256):aI prog 3 Q (k+1) 130 [str s,.int .u8 (c:Int)] h=some (.int .i64 (Lib.indexByte s (UInt8.ofNat c)),h):=by
 have hq:Q 130 [str s,.int .u8 (c:Int)]=none:=kb.fr 130 _ (by decide);have hb:((prog.funcs[130]?).map fun fn=>(fn.body.isNone,oS fn))=some (true,1):=by kernel_rfl
 obtain⟨fn,hf,hfb⟩:∃fn,prog.funcs[130]?=some fn∧(fn.body.isNone,oS fn)=(true,1):=by
  cases hf:prog.funcs[130]? with
  |none=>rw[hf]at hb;cases hb
  |some fn=>rw[hf]at hb;exact⟨fn,rfl,kP hb⟩
 have h1:fn.body=none:=Option.isNone_iff_eq_none.1 (congrArg Prod.fst hfb);have h2:oS fn=1:=congrArg Prod.snd hfb;simp only[aI,hq,hf,h1,h2];have e:(((c:Int).toNat).toUInt8)=UInt8.ofNat c:=rfl;show some (Value.int .i64 (match(List.range (⟨⟨s⟩⟩:ByteArray).size).find? fun i=>(⟨⟨s⟩⟩:ByteArray)[i]! ==((c:Int).toNat).toUInt8 with|some i=>(i:Int)|none=> -1),h)=_
 rw[e,aEd]
theorem bKd (k:Nat)(s:List UInt8){c:Nat}(hc:c<256):aI prog 3 Q (k+2) 127 [str s,.int .u8 (c:Int)] h=some (.int .i64 (Lib.indexByte s (UInt8.ofNat c)),h):=by
 rw[aTa Q (k+1) _ _ h (kb.fr 127 _ (by decide))];simp only[bKi,aJr,bNv kb k s hc,RaK.S]
theorem bKe (k:Nat)(s:List UInt8){c:Nat}(hc:c<256):aI prog 3 Q (k+3) 120 [str s,.int .u8 (c:Int)] h=some (.int .i64 (Lib.indexByte s (UInt8.ofNat c)),h):=by
 rw[aTc Q (k+2) _ _ h (kb.fr 120 _ (by decide))];simp only[bKj,aJs,bKd kb k s hc,RaK.S]
theorem bNy (k:Nat){c:Nat}:∃b,aI prog 3 Q (k+1) 121 [.int .i32 (c:Int)] h=some (.bool b,h):=by
 rw[aTb Q k _ h (kb.fr 121 _ (by decide))];have d0:decide ((0:Int)≤(c:Int))=true:=kC (by omega)
 cases d1:decide ((c:Int)<55296)with
 |true=>
  refine⟨true,?_⟩;simp only[aNx,uH,aMv,aGj,aMu,dL,d0,RaK.S,zZ,d1,bIj]
 |false=>
  cases d2:decide ((57343:Int)<(c:Int))with
  |false=>
   refine⟨false,?_⟩;simp only[aNx,uH,aMv,aGj,aMu,dL,d0,RaK.S,zZ,d1,aPy,d2,aVj]
  |true=>
   cases d3:decide ((c:Int)≤1114111)with
   |false=>
    refine⟨false,?_⟩;simp only[aNx,uH,aMv,aGj,aMu,dL,d0,RaK.S,zZ,d1,aPy,d2,d3,aVj]
   |true=>
    refine⟨true,?_⟩;simp only[aNx,uH,aMv,aGj,aMu,dL,d0,RaK.S,zZ,d1,aPy,d2,d3]
omit kb in
theorem aLe {c:Nat}(hc:c<128):A.conv prog 21 5 (.int .i32 (c:Int))=some (.int .u8 (c:Int)):=by
 have all:((List.range 128).all fun c=>match A.conv prog 21 5 (.int .i32 (c:Int))with|some v=>AM.same v (.int .u8 (c:Int))|none=>false)=true:=by kernel_rfl
 have:=List.all_eq_true.1 all c (List.mem_range.2 hc);split at this
 ·rename_i v hv;rw[hv,gB _ _ this]
 ·cases this
omit kb in
theorem bMd {c:Nat}(hc:c<128):decide ((0:Int)≤Lib.indexByte PM (UInt8.ofNat c))=pmC c:=by
 have all:((List.range 128).all fun c=>decide ((0:Int)≤Lib.indexByte PM (UInt8.ofNat c))==pmC c)=true:=by kernel_rfl
 have:=List.all_eq_true.1 all c (List.mem_range.2 hc);simpa using this
omit kb in
theorem aLd (c:Nat):A.conv prog 21 9 (.int .i32 (c:Int))=some (str (enc c)):=by kernel_rfl
theorem bOd (k:Nat){c:Nat}(hc:c≤1114111):∃h' v,aI prog 3 Q (k+10) 102 [str PM,.int .i32 (c:Int)] h=some (.int .i64 v,h')∧decide ((0:Int)≤v)=pmC c∧Ext h h':=by
 rw[aTh Q (k+9) _ _ h (kb.fr 102 _ (by decide))];have d0:decide ((0:Int)≤(c:Int))=true:=kC (by omega);by_cases h128:c<128
 ·have d1:decide ((c:Int)<128)=true:=kC (by omega);refine⟨h,Lib.indexByte PM (UInt8.ofNat c),?_,bMd h128,Ext.refl h⟩;simp only[aXm,aCe,aVt,aJg,aVs,dL,d0,RaK.S,zZ,d1,bIu,aLe h128,bKe kb (h:=h) (k+6) PM (show c<256 by omega)]
 have d1:decide ((c:Int)<128)=false:=kD (by omega);have hp:pmC c=false:=kD (by omega);have fin:decide ((0:Int)≤ -1)=pmC c:=by rw[hp];rfl
 have go:∀K:Value→H→Option (Value×H),aJg (aI prog 3 Q (k+9)) (k+9) (.int .i32 (c:Int)) (str PM) h K=aFb (aI prog 3 Q (k+9)) (k+9) (.bool false) (.int .i32 (c:Int)) (str PM) h K:=by
  intro K;simp only[aJg,aVs,dL,d0,RaK.S,zZ,d1]
 simp only[aXm,aCe,aVt,RaK.S];rw[go];by_cases hE:c=65533
 ·have dE:decide ((c:Int)=65533)=true:=kC (by omega);obtain⟨h1,hh1⟩:∃h1,h1=h.push (.siter ⟨⟨PM⟩⟩ 0):=⟨_,rfl⟩;have e1:A.zZ (str PM) h=some (aB h.next,h1):=by rw[hh1];rfl
  have x1:Ext h h1:=by rw[hh1];exact Ext.push h _
  have g1:h1.get h.next=some (.siter ⟨⟨PM⟩⟩ 0):=by rw[hh1,H.get_push,kB rfl]
  have n1:=iL (c:=43) (w:=1) g1 rfl;obtain⟨h2,hh2⟩:∃h2,h2=h1.put h.next (.siter ⟨⟨PM⟩⟩ (0+1)):=⟨_,rfl⟩;rw[←hh2]at n1;have g2:h2.get h.next=some (.siter ⟨⟨PM⟩⟩ (0+1)):=by rw[hh2,H.get_put,kB rfl]
  have x2:Ext h h2:=by rw[hh2];exact x1.put _ _ (kF _)
  have n2:=iL (c:=35) (w:=1) g2 rfl;obtain⟨h3,hh3⟩:∃h3,h3=h2.put h.next (.siter ⟨⟨PM⟩⟩ (0+1+1)):=⟨_,rfl⟩;rw[←hh3]at n2;have g3:h3.get h.next=some (.siter ⟨⟨PM⟩⟩ (0+1+1)):=by rw[hh3,H.get_put,kB rfl]
  have x3:Ext h h3:=by rw[hh3];exact x2.put _ _ (kF _)
  have n3:=fN g3 rfl;refine⟨h3,-1,?_,fin,x3⟩;have a0:∀(p r:Value),A.zB 0 (.tuple ⟨[.bool true,p,r]⟩)=some (.bool true):=fun _ _=>rfl;have a1:∀(p r:Value),A.zB 1 (.tuple ⟨[.bool true,p,r]⟩)=some p:=fun _ _=>rfl;have a2:∀(p r:Value),A.zB 2 (.tuple ⟨[.bool true,p,r]⟩)=some r:=fun _ _=>rfl;have b0:A.zB 0 (.tuple ⟨[.bool false]⟩)=some (.bool false):=rfl;have c1:decide (((43:Nat):Int)=65533)=false:=rfl;have c2:decide (((35:Nat):Int)=65533)=false:=rfl;have lp:∀(m L:Nat) (C:CF) (kr kx:_),aJc C L (β:=Value×H) kr kx (m+3) (aB h.next) h1=kx h3:=by
   intro m L C kr kx;simp only[aJc,aVp,n1,RaK.S,a0,a1,a2,zQ,c1,n2,c2,n3,b0]
  have lp:=lp (k+6) (k+9) (aI prog 3 Q (k+9));generalize k+9=M at lp⊢;simp only[aFb,aQb,zQ,dE,RaK.S,aQj,bIv,e1];have lp':∀kr kx,aJc (aI prog 3 Q M) M (β:=Value×H) kr kx M (aB h.next) h1=kx h3:=lp;rw[lp'];rfl
 ·have dE:decide ((c:Int)=65533)=false:=kD (by omega);obtain⟨b,eb⟩:=bNy kb (h:=h) (k+8) (c:=c);have eb:aI prog 3 Q (k+9) 121 [.int .i32 (c:Int)] h=some (.bool b,h):=eb;refine⟨h,-1,?_,fin,Ext.refl h⟩
  cases b with
  |false=>simp only[aFb,aQb,zQ,dE,RaK.S,aVr,eb,bIw]
  |true=>
   have st:aFb (aI prog 3 Q (k+9)) (k+9) (.bool false) (.int .i32 (c:Int)) (str PM) h (fun x4 h=>some (x4,h))=aJf (aI prog 3 Q (k+9)) (k+9) (str PM) (str (enc c)) h (fun x4 h=>some (x4,h)):=by
    simp only[aFb,aQb,zQ,dE,RaK.S,aVr,eb,bJc,aLd]
   rw[st];have lPM:A.zG (str PM)=some (.int .i64 2):=rfl;by_cases h2:c<2048
   ·obtain⟨a,b,e,hb⟩:=aLa (by omega) h2;rw[e];have l2:A.zG (str [a,b])=some (.int .i64 2):=rfl;have w1:A.zA prog .sub 3 (.int .i64 2) (.int .i64 1)=some (.int .i64 1):=by rw[nG];rfl
    have dl:decide ((1:Int)<2)=true:=rfl;have i1:A.zC (str PM) (.int .i64 1)=some (.int .u8 35):=rfl;have i2:A.zC (str [a,b]) (.int .i64 1)=some (u8 b):=rfl;have dn:decide ((35:Int)=(b.toNat:Int))=false:=kD (by omega);have w2:A.zA prog .add 3 (.int .i64 1) (.int .i64 1)=some (.int .i64 2):=by rw[bG];rfl
    have sl:A.zO (str PM) (some (.int .i64 2)) none=some (str []):=rfl;have e213:=bKe kb (h:=h) (k+6) [] b.toNat_lt;have e213:aI prog 3 Q (k+9) 120 [str [],u8 b] h=some (.int .i64 (-1),h):=e213;have dm:decide ((-1:Int)<0)=true:=rfl;have lp:∀(m L:Nat) (kr:Value→H→Option (Value×H)) (kx),aCo (aI prog 3 Q (k+9)) L kr kx (m+1) (.int .i64 1) (.int .i64 1) (str PM) (str [a,b]) h=kr (.int .i64 (-1)) h:=by
     intro m L kr kx;simp only[aCo,aQa,lPM,RaK.S,zZ,dl,aMy,bJb,i1,i2,bP,dn,bJa,w2,sl,e213,dm]
    have lp:=lp (k+8) (k+9);generalize k+9=M at lp⊢;have lp':∀(kr:Value→H→Option (Value×H)) (kx),aCo (aI prog 3 Q M) M kr kx M (.int .i64 1) (.int .i64 1) (str PM) (str [a,b]) h=kr (.int .i64 (-1)) h:=lp;simp only[aJf,aVq,l2,RaK.S,w1,lp']
   ·obtain⟨l3,l4⟩:=aHn (c:=c) (by omega);obtain⟨n,hn⟩:∃n,n=(enc c).length:=⟨_,rfl⟩;have ln:A.zG (str (enc c))=some (.int .i64 (n:Int)):=by rw[hn];exact qJ _
    have w1:A.zA prog .sub 3 (.int .i64 (n:Int)) (.int .i64 1)=some (.int .i64 ((n-1:Nat):Int)):=by
     rw[nG,lT (by omega) (by omega)];congr 2;omega
    have dl:decide (((n-1:Nat):Int)<2)=false:=kD (by omega);have lp:∀(m L:Nat) (C:CF) (kr:Value→H→Option (Value×H)) (kx),aCo C L kr kx (m+1) (.int .i64 ((n-1:Nat):Int)) (.int .i64 ((n-1:Nat):Int)) (str PM) (str (enc c)) h=kx h:=by
     intro m L C kr kx;simp only[aCo,aQa,lPM,RaK.S,zZ,dl]
    have lp:=lp (k+8) (k+9) (aI prog 3 Q (k+9));generalize k+9=M at lp⊢;have lp':∀(kr:Value→H→Option (Value×H)) (kx),aCo (aI prog 3 Q M) M kr kx M (.int .i64 ((n-1:Nat):Int)) (.int .i64 ((n-1:Nat):Int)) (str PM) (str (enc c)) h=kx h:=lp;simp only[aJf,aVq,ln,RaK.S,w1,lp',bIx]
end
end Go.Proofs.YtpanfoafajepcaaGreatDoor.Ra

set_option maxRecDepth 100000
namespace Go.Proofs.YtpanfoafajepcaaGreatDoor.Ra
open Tryz (prog)
open Go Go.AM RaA
theorem aLc (s:ByteArray)(pos:Nat):(Utf8.decode s pos).1≤1114111:=by
 have hb:∀k,(s.get! (pos+k)).toNat<256:=fun k=>(s.get! (pos+k)).toNat_lt;have h0:=hb 0;have h1:=hb 1;have h2:=hb 2;have h3:=hb 3;simp only[Utf8.decode]
 repeat' split
 all_goals simp_all [Utf8.runeError,Utf8.valid]
 all_goals omega
theorem aLb (s:ByteArray)(pos:Nat):1≤(Utf8.decode s pos).2:=by
 simp only[Utf8.decode]
 repeat' split
 all_goals simp
theorem aDm {s:ByteArray}{pos c w:Nat}(e:A.zQ s pos=some (c,w)):pos<s.size∧c≤1114111∧1≤w:=by
 obtain⟨h,d⟩:=oP e;have h1:=aLc s pos;have h2:=aLb s pos;rw[d]at h1 h2;exact⟨h,h1,h2⟩
theorem tW {s:List UInt8}{pos:Nat}(h:s.length≤pos):A.zQ ⟨⟨s⟩⟩ pos=none:=by
 unfold A.zQ;rw[show(⟨⟨s⟩⟩:ByteArray).data.toList[pos]?=none from List.getElem?_eq_none_iff.2 h]
section
variable {Q:Orc}(kb:KnA Q){h:H}
include kb
theorem bOc (k:Nat)(n:Nat):aI prog 3 Q (k+1) 103 [.int .i64 (n:Int)] h=some (.bool (decide (8<n)),h):=by
 rw[aTg Q k _ h (kb.fr 103 _ (by decide))];have d:decide ((8:Int)<(n:Int))=decide (8<n):=decide_eq_decide.2 (by omega);simp only[bKl,aJu,zY,d,RaK.S]
theorem bOb (k:Nat){t:Nat}{b:UInt8}(g:h.get t=some (.cells asciiPM (some 0))):aI prog 3 Q (k+1) 105 [aB t,u8 b] h=some (.bool (pmC b.toNat),h):=by
 rw[aTf Q k _ _ h (kb.fr 105 _ (by decide))];have hb:=b.toNat_lt;have ix:A.yM 256 1 (aB t) (u8 b)=some (.pointer (some ⟨t,0+b.toNat*1,none⟩)):=by
  show(bif Nat.blt b.toNat 256 then _ else none)=_
  rw[blt_iff.2 hb];rfl
 have l:A.load false 1 (.pointer (some ⟨t,0+b.toNat*1,none⟩)) h=some (.bool (pmC b.toNat)):=by
  rw[qK,g,Nat.zero_add,Nat.mul_one];show(asciiPM[b.toNat]?)=_;unfold asciiPM;rw[kX,List.getElem?_range hb];rfl
 simp only[bKk,aJt,RaK.S,ix,l]
theorem aSk (k L:Nat){t:Nat}{s:List UInt8}(hl:s.length≤1000300)(g:h.get t=some (.cells asciiPM (some 0))):
 ∀(d i m:Nat),i+d=s.length→d<m→∃v,aEt (aI prog 3 Q (k+1)) L (fun x4 h=>some (x4,h)) (fun h=>aOs (aI prog 3 Q (k+1)) L h (fun x4 h=>some (x4,h))) m (.int .i64 (i:Int)) (aB t) (str s) h=some (.int .i64 v,h)∧decide ((0:Int)≤v)=(s.drop i).any (fun b=>pmC b.toNat):=by
 intro d
 induction d with
 |zero=>
  intro i m hi hm;obtain⟨m,rfl⟩:∃r,m=r+1:=⟨m-1,by omega⟩;have hd:decide ((i:Int)<(s.length:Int))=false:=by rw[kI];omega
  refine⟨-1,?_,by rw[pM (by omega:s.length≤i)];rfl⟩;simp only[aEt,aLu,qJ,RaK.S,zZ,hd,aOs]
 |succ d ih=>
  intro i m hi hm;obtain⟨m,rfl⟩:∃r,m=r+1:=⟨m-1,by omega⟩;have hd:decide ((i:Int)<(s.length:Int))=true:=by rw[kJ];omega
  obtain⟨b,hb⟩:∃b,s[i]?=some b:=⟨_,kN (by omega)⟩;have ix:=ixS hb;have e163:=bOb kb k g (b:=b);have hwr:IntKind.i64.wrap ((i:Int)+1)=((i+1:Nat):Int):=aS (by omega);rw[bT hb,List.any_cons]
  cases hp:pmC b.toNat with
  |true=>
   rw[hp]at e163;refine⟨(i:Int),?_,kC (by omega)⟩;simp only[aEt,aLu,qJ,RaK.S,zZ,hd,ix,e163]
  |false=>
   rw[hp]at e163;obtain⟨v,e,hv⟩:=ih (i+1) m (by omega) (by omega);refine⟨v,?_,hv⟩;simp only[aEt,aLu,qJ,RaK.S,zZ,hd,ix,e163,bG,hwr];exact e
theorem aSj (k L:Nat){t:Nat}{s:List UInt8}:
 ∀(d m:Nat) (h:H) (pos:Nat),s.length<pos+d→d<m→h.get t=some (.siter ⟨⟨s⟩⟩ pos)→t<h.next→∃h' v,aCl (aI prog 3 Q (k+10)) L (fun x4 h=>some (x4,h)) (fun h=>aLt (aI prog 3 Q (k+10)) L h (fun x4 h=>some (x4,h))) m (aB t) (str PM) h=some (.int .i64 v,h')∧decide ((0:Int)≤v)=uF s d pos∧ExtBut (fun i=>i=t) h h':=by
 have b0:A.zB 0 (.tuple ⟨[.bool false]⟩)=some (.bool false):=rfl;intro d
 induction d with
 |zero=>
  intro m h pos hi hm g lt;obtain⟨m,rfl⟩:∃r,m=r+1:=⟨m-1,by omega⟩;have e:=fN g (tW (s:=s) (by omega));refine⟨h,-1,?_,rfl,⟨kF _,fun _ _ _=>rfl⟩⟩;simp only[aCl,aIk,e,RaK.S,b0,aLt]
 |succ d ih=>
  intro m h pos hi hm g lt;obtain⟨m,rfl⟩:∃r,m=r+1:=⟨m-1,by omega⟩
  cases hc:A.zQ ⟨⟨s⟩⟩ pos with
  |none=>
   have e:=fN g hc;refine⟨h,-1,?_,?_,⟨kF _,fun _ _ _=>rfl⟩⟩
   ·simp only[aCl,aIk,e,RaK.S,b0,aLt]
   ·show _=(match A.zQ ⟨⟨s⟩⟩ pos with|none=>false|some (c,w)=>pmC c||uF s d (pos+w))
    rw[hc];rfl
  |some cw=>
   obtain⟨c,w⟩:=cw;obtain⟨_,hc2,hw⟩:=aDm hc;have e:=iL g hc;obtain⟨h1,hh1⟩:∃h1,h1=h.put t (.siter ⟨⟨s⟩⟩ (pos+w)):=⟨_,rfl⟩;rw[←hh1]at e;have g1:h1.get t=some (.siter ⟨⟨s⟩⟩ (pos+w)):=by rw[hh1,H.get_put,kB rfl]
   have x1:ExtBut (fun i=>i=t) h h1:=by rw[hh1];exact ExtBut.put ⟨kF _,fun _ _ _=>rfl⟩ t _ rfl
   obtain⟨h2,v,e2,hv,x2⟩:=bOd kb (h:=h1) k hc2;have a0:A.zB 0 (.tuple ⟨[.bool true,.int .i64 (pos:Int),.int .i32 (c:Int)]⟩)=some (.bool true):=rfl;have a1:A.zB 1 (.tuple ⟨[.bool true,.int .i64 (pos:Int),.int .i32 (c:Int)]⟩)=some (.int .i64 (pos:Int)):=rfl;have a2:A.zB 2 (.tuple ⟨[.bool true,.int .i64 (pos:Int),.int .i32 (c:Int)]⟩)=some (.int .i32 (c:Int)):=rfl;have hr:uF s (d+1) pos=(pmC c||uF s d (pos+w)):=by
    show(match A.zQ ⟨⟨s⟩⟩ pos with|none=>false|some (c,w)=>pmC c||uF s d (pos+w))=_
    rw[hc]
   rw[hr]
   cases hp:pmC c with
   |true=>
    rw[hp]at hv;refine⟨h2,(pos:Int),?_,kC (by omega),x1.trans x2.but⟩;simp only[aCl,aIk,e,RaK.S,a0,a1,a2,e2,gD,hv]
   |false=>
    rw[hp]at hv;have lt1:t<h1.next:=by rw[hh1];exact lt
    obtain⟨h3,v3,e3,hv3,x3⟩:=ih m h2 (pos+w) (by omega) (by omega) (by rw[x2.get _ lt1];exact g1) (kH lt1 x2.next);refine⟨h3,v3,?_,hv3,(x1.trans x2.but).trans x3⟩;simp only[aCl,aIk,e,RaK.S,a0,a1,a2,e2,gD,hv];exact e3
theorem bOe (k:Nat){s:List UInt8}(hl:s.length≤1000300):∃h' v,aI prog 3 Q (k+1000320) 88 [str s,str PM] h=some (.int .i64 v,h')∧decide ((0:Int)≤v)=aJn s∧Ext h h':=by
 rw[bEc Q (k+1000319) _ _ h (kb.fr 88 _ (by decide))];have st:A.zA prog .eql 9 (str PM) (.string ⟨⟨[]⟩⟩)=some (.bool false):=by kernel_rfl
 have lPM:A.zG (str PM)=some (.int .i64 2):=rfl;have d2:decide ((2:Int)=1)=false:=rfl;have e161:=bOc kb (h:=h) (k+1000318) s.length;have e161:aI prog 3 Q (k+1000319) 103 [.int .i64 (s.length:Int)] h=_:=e161;unfold aJn;by_cases h8:8<s.length
 ·rw[kC h8]at e161;have e162:=qB kb.qa (k+1000318) h;have e162:aI prog 3 Q (k+1000319) 104 [str PM] h=_:=e162;have t0:A.zB 0 (.tuple ⟨[.agg ⟨asciiPM⟩,.bool true]⟩)=some (.agg ⟨asciiPM⟩):=rfl;have t1:A.zB 1 (.tuple ⟨[.agg ⟨asciiPM⟩,.bool true]⟩)=some (.bool true):=rfl;obtain⟨h1,hh1⟩:∃h1,h1=h.push (.cells RaA.Z157L (some 0)):=⟨_,rfl⟩;have e1:A.box 256 RaA.Z157 h=some (aB h.next,h1):=by rw[hh1];rfl
  have g1:h1.get h.next=some (.cells RaA.Z157L (some 0)):=by rw[hh1,H.get_push,kB rfl]
  obtain⟨h2,hh2⟩:∃h2,h2=h1.put h.next (.cells asciiPM (some 0)):=⟨_,rfl⟩;have la:Nat.beq asciiPM.length 256=true:=by kernel_rfl
  have lb:Nat.ble (0+256) RaA.Z157L.length=true:=by kernel_rfl
  have ls:RaA.Z157L.length=256:=by kernel_rfl
  have sp:splice RaA.Z157L 0 asciiPM=asciiPM:=by
   have la':asciiPM.length=256:=by kernel_rfl
   simp only[splice,List.take_zero,List.nil_append,Nat.zero_add];rw[pM (by omega),List.append_nil]
  have e2:A.store 256 (aB h.next) (.agg ⟨asciiPM⟩) h1=some h2:=by
   rw[qU,g1];simp only[aBx,la,lb,Bool.and_self,cond_true,sp];rw[hh2]
  have x2:Ext h h2:=by rw[hh2,hh1];exact(Ext.push h _).put _ _ (kF _)
  have g2:h2.get h.next=some (.cells asciiPM (some 0)):=by rw[hh2,H.get_put,kB rfl]
  obtain⟨v,e,hv⟩:=aSk kb (h:=h2) (k+1000318) (k+1000319) hl g2 s.length 0 (k+1000319) (by omega) (by omega);refine⟨h2,v,?_,by rw[kB h8,hv];rfl,x2⟩;obtain⟨M,hM⟩:∃M,M=k+1000319:=⟨_,rfl⟩;rw[←hM]at e161 e162 e⊢;have e:aEt (aI prog 3 Q M) M (fun x4 h=>some (x4,h)) (fun h=>aOs (aI prog 3 Q M) M h (fun x4 h=>some (x4,h))) M (.int .i64 0) (aB h.next) (str s) h2=some (.int .i64 v,h2):=e;simp only[F88,aNl,aTs,st,RaK.S,lPM,zQ,d2,aNh,aTr,qJ,e161,bGq,e162,t0,t1,e1,e2,aQl,bGp];exact e
 ·rw[kD h8]at e161;obtain⟨h1,hh1⟩:∃h1,h1=h.push (.siter ⟨⟨s⟩⟩ 0):=⟨_,rfl⟩;have e1:A.zZ (str s) h=some (aB h.next,h1):=by rw[hh1];rfl
  have x1:Ext h h1:=by rw[hh1];exact Ext.push h _
  have g1:h1.get h.next=some (.siter ⟨⟨s⟩⟩ 0):=by rw[hh1,H.get_push,kB rfl]
  obtain⟨h2,v,e,hv,x2⟩:=aSj kb (k+1000309) (k+1000319) (s.length+1) (k+1000319) h1 0 (by omega) (by omega) g1 (by rw[hh1];exact Nat.lt_succ_self _);refine⟨h2,v,?_,by rw[kA h8,hv],⟨kG x1.next x2.next,fun i hi=>by rw[x2.get i (kH hi x1.next) (by omega)];exact x1.get i hi⟩⟩;have e:aCl (aI prog 3 Q (k+1000319)) (k+1000319) (fun x4 h=>some (x4,h)) (fun h=>aLt (aI prog 3 Q (k+1000319)) (k+1000319) h (fun x4 h=>some (x4,h))) (k+1000319) (aB h.next) (str PM) h1=some (.int .i64 v,h2):=e;obtain⟨M,hM⟩:∃M,M=k+1000319:=⟨_,rfl⟩;rw[←hM]at e161 e⊢;simp only[F88,aNl,aTs,st,RaK.S,lPM,zQ,d2,aNh,aTr,qJ,e161,bGr,aQo,bGo,e1];exact e
theorem bOh (k:Nat){s:List UInt8}(hl:s.length≤1000300):∃h',aI prog 3 Q (k+1000321) 69 [str s,str PM] h=some (.bool (aJn s),h')∧Ext h h':=by
 rw[bEi Q (k+1000320) _ _ h (kb.fr 69 _ (by decide))];obtain⟨h',v,e,hv,x⟩:=bOe kb (h:=h) k hl;refine⟨h',?_,x⟩;simp only[F69,aWd,e,RaK.S,gD,hv]
end
end Go.Proofs.YtpanfoafajepcaaGreatDoor.Ra

set_option maxRecDepth 100000
namespace Go.Proofs.YtpanfoafajepcaaGreatDoor.Ra
open Tryz (prog)
open Go Go.AM RaA
theorem aSh (a b:Int):A.zS prog .min ⟨[3,3]⟩ 3 [.int .i64 a,.int .i64 b]=some (.int .i64 (if b<a then b else a)):=by
 have e:A.zS prog .min ⟨[3,3]⟩ 3 [.int .i64 a,.int .i64 b]=(match ev prog (Builtin.min2 (Value.int IntKind.i64 a) (Value.int IntKind.i64 b))with
  |some v=>bif aJ v then some v else none
  |none=>none):=by simp[A.zS,Builtin.min_,cS,aJ];rfl
 rw[e];rfl
theorem slT {l:List UInt8}{m:Nat}(h:m≤l.length):A.zO (str l) none (some (.int .i64 (m:Int)))=some (str (l.take m)):=by
 show(match(bif Nat.ble m l.length then some (some m)else none)with|none=>none|some h=>match A.zR (h.getD l.length) none with|none=>none|some q=>some (Value.string ⟨⟨(l.drop (q.getD 0)).take (h.getD l.length-q.getD 0)⟩⟩))=_
 rw[show Nat.ble m l.length=true from ble_iff.2 h];rfl
theorem aIc:∀{l:List UInt8} {c:UInt8},0≤Lib.indexByte l c→∃m:Nat,Lib.indexByte l c=(m:Int)∧m<l.length
 |[],c,h=>by simp[Lib.indexByte]at h
 |b::l,c,h=>by
  unfold Lib.indexByte at h⊢;by_cases hb:(b==c)=true
  ·rw[kB hb];exact⟨0,rfl,by simp⟩
  ·rw[kA hb]at h⊢;by_cases hn:(Lib.indexByte l c== -1)=true
   ·rw[kB hn]at h;exact absurd h (by decide)
   ·rw[kA hn]at h⊢;have hge:=Lib.indexByte_ge l c;have hne:Lib.indexByte l c≠ -1:=fun e=>hn (by rw[e];rfl);obtain⟨m,hm,hlt⟩:=aIc (l:=l) (c:=c) (by omega);exact⟨m+1,by rw[hm];omega,by rw[kM];omega⟩
section
variable {Q:Orc}(kb:KnA Q){h:H}
include kb
theorem bNx (k:Nat)(s:List UInt8):aI prog 3 Q (k+1) 118 [str s,u8 47] h=some (.int .i64 (Lib.countByte s 47:Nat),h):=by
 have hq:Q 118 [str s,u8 47]=none:=kb.fr 118 _ (by decide);have hb:((prog.funcs[118]?).map fun fn=>(fn.body.isNone,oS fn))=some (true,3):=by kernel_rfl
 obtain⟨fn,hf,hfb⟩:∃fn,prog.funcs[118]?=some fn∧(fn.body.isNone,oS fn)=(true,3):=by
  cases hf:prog.funcs[118]? with
  |none=>rw[hf]at hb;cases hb
  |some fn=>rw[hf]at hb;exact⟨fn,rfl,kP hb⟩
 have h1:fn.body=none:=Option.isNone_iff_eq_none.1 (congrArg Prod.fst hfb);have h2:oS fn=3:=congrArg Prod.snd hfb;simp only[aI,hq,hf,h1,h2];have e:(((47:UInt8).toNat:Int).toNat).toUInt8=(47:UInt8):=rfl;show some (Value.int .i64 ((⟨⟨s⟩⟩:ByteArray).foldl (fun(n:Int) x=>if x==(((47:UInt8).toNat:Int).toNat).toUInt8 then n+1 else n) ((0:Nat):Int)),h)=_
 rw[e,Lib.foldl_data,Lib.count_foldl];simp
theorem bNw (k:Nat)(s:List UInt8):aI prog 3 Q (k+3) 119 [str s,str SL] h=some (.int .i64 (Lib.indexByte s 47),h):=by
 rw[aTd Q (k+2) _ _ h (kb.fr 119 _ (by decide))];have ln:A.zG (str SL)=some (.int .i64 1):=rfl;have d0:decide ((1:Int)=0)=false:=rfl;have d1:decide ((1:Int)=1)=true:=rfl;have ix:A.zC (str SL) (.int .i64 0)=some (.int .u8 ((47:Nat):Int)):=rfl;have e251:=bKd kb (h:=h) k s (show 47<256 by omega);have st:=dK SL s;by_cases hs:SL=s
 ·rw[kC hs]at st;subst hs;simp only[aXk,aCd,aVl,ln,RaK.S,aNb,aVk,zQ,d0,st,bIr];rfl
 ·rw[kD hs]at st;simp only[aXk,aCd,aVl,ln,RaK.S,aNb,aVk,zQ,d0,st,bIt,d1,bIs,ix,e251];rfl
theorem bOa (k:Nat)(s:List UInt8):aI prog 3 Q (k+4) 101 [str s,str SL] h=some (.int .i64 (Lib.indexByte s 47),h):=by
 rw[aTi Q (k+3) _ _ h (kb.fr 101 _ (by decide))];simp only[bKm,aJv,bNw kb k s,RaK.S]
theorem bEa (k:Nat)(s:List UInt8):aI prog 3 Q (k+2) 100 [str s,str SL] h=some (.int .i64 (Lib.countByte s 47:Nat),h):=by
 rw[aTj Q (k+1) _ _ h (kb.fr 100 _ (by decide))];have ln:A.zG (str SL)=some (.int .i64 1):=rfl;have d0:decide ((1:Int)=0)=false:=rfl;have d1:decide ((1:Int)=1)=true:=rfl;have ix:A.zC (str SL) (.int .i64 0)=some (u8 47):=rfl;simp only[bKn,aFf,bJe,ln,RaK.S,zQ,d0,d1,ix,bNx kb k s];rfl
theorem aYc (k L:Nat){β:Type}(kx:Value→Value→Value→H→Option β){N r:Nat}(hN:N≤1000300):
 ∀(d m:Nat) (h:H) (s:List UInt8) (pre:List (List UInt8)) (cs:List Value),pre.length+d=N→d<m→s.length≤1000300→h.get r=some (.cells cs (some 1))→cs.length=N+1→cs.take pre.length=pre.map str→r<h.next→
  ∃h' ps last cs',aCm (aI prog 3 Q (k+4)) L kx m (.int .i64 (N:Int)) (str SL) (.int .i64 0) (str s) (.slice (some ⟨r,0,none⟩) (N+1) (2*(N+1)+1)) (.int .i64 (pre.length:Int)) h=kx (str last) (.slice (some ⟨r,0,none⟩) (N+1) (2*(N+1)+1)) (.int .i64 (ps.length:Int)) h'∧
   pre++pW d s=ps++[last]∧ps.length≤N∧h'.get r=some (.cells cs' (some 1))∧cs'.length=N+1∧cs'.take ps.length=ps.map str∧ExtBut (fun i=>i=r) h h':=by
 intro d
 induction d with
 |zero=>
  intro m h s pre cs hi hm hs g hl ht lt;obtain⟨m,rfl⟩:∃r,m=r+1:=⟨m-1,by omega⟩;have hd:decide ((pre.length:Int)<(N:Int))=false:=by rw[kI];omega
  refine⟨h,pre,s,cs,?_,rfl,by omega,g,hl,ht,⟨kF _,fun _ _ _=>rfl⟩⟩;simp only[aCm,aLv,zZ,hd,RaK.S]
 |succ d ih=>
  intro m h s pre cs hi hm hs g hl ht lt;obtain⟨m,rfl⟩:∃r,m=r+1:=⟨m-1,by omega⟩;have hd:decide ((pre.length:Int)<(N:Int))=true:=by rw[kJ];omega
  have e166:=bOa kb (h:=h) k s;by_cases hneg:Lib.indexByte s 47<0
  ·have dn:decide (Lib.indexByte s 47<0)=true:=kC hneg;refine⟨h,pre,s,cs,?_,by unfold pW;rw[kB hneg],by omega,g,hl,ht,⟨kF _,fun _ _ _=>rfl⟩⟩;simp only[aCm,aLv,zZ,hd,RaK.S,e166,dn]
  ·have dn:decide (Lib.indexByte s 47<0)=false:=kD hneg;obtain⟨q,hq,hlt⟩:=aIc (l:=s) (c:=47) (by omega);have w1:IntKind.i64.wrap ((q:Int)+0)=(q:Int):=by rw[lT (by omega) (by omega)];omega
   have w2:IntKind.i64.wrap ((q:Int)+1)=((q+1:Nat):Int):=aS (by omega);have w3:IntKind.i64.wrap ((pre.length:Int)+1)=((pre.length+1:Nat):Int):=aS (by omega);have sl1:=slT (l:=s) (m:=q) (by omega);have sl2:=slS (l:=s) (k:=q+1) (by omega);have ln:A.zG (str SL)=some (.int .i64 1):=rfl;have ix:=rU 1 r 0 (N+1) (2*(N+1)+1) pre.length .i64 (by omega);obtain⟨h1,hh1⟩:∃h1,h1=h.put r (.cells (cs.set pre.length (str (s.take q))) (some 1)):=⟨_,rfl⟩;have e1:A.store 1 (.pointer (some ⟨r,0+pre.length*1,none⟩)) (str (s.take q)) h=some h1:=by
    have c1:aN (str (s.take q))=some [str (s.take q)]:=rfl;have c2:Nat.beq [str (s.take q)].length 1=true:=rfl;have c3:Nat.ble (0+pre.length*1+1) cs.length=true:=ble_iff.2 (by omega);rw[qU,g,c1];simp only[c2,c3,Bool.and_self,cond_true,lZ (by omega:0+pre.length*1<cs.length)];rw[hh1];simp only[Nat.zero_add,Nat.mul_one]
   have g1:h1.get r=some (.cells (cs.set pre.length (str (s.take q))) (some 1)):=by rw[hh1,H.get_put,kB rfl]
   have x1:ExtBut (fun i=>i=r) h h1:=by rw[hh1];exact ExtBut.put ⟨kF _,fun _ _ _=>rfl⟩ r _ rfl
   have hpl:(pre++[s.take q]).length=pre.length+1:=by simp
   obtain⟨h',ps,last,cs',e,r1,r2,r3,r4,r5,r6⟩:=ih m h1 (s.drop (q+1)) (pre++[s.take q]) (cs.set pre.length (str (s.take q))) (by omega) (by omega) (by rw[kU];omega) g1 (by rw[List.length_set];exact hl) (by
    rw[hpl,List.map_append,←ht];have:pre.length<(cs.set pre.length (str (s.take q))).length:=by rw[List.length_set];omega
    rw[List.take_add_one,List.getElem?_set_self (by omega),List.take_set_of_le (kF _)];rfl) (by rw[hh1];exact lt)
   rw[hpl]at e;refine⟨h',ps,last,cs',?_,?_,r2,r3,r4,r5,x1.trans r6⟩
   ·simp only[aCm,aLv,zZ,hd,RaK.S,e166,dn];rw[hq];simp only[bG,w1,RaK.S,sl1,ix,e1,ln,w2,sl2,w3];exact e
   ·have es:pW (d+1) s=s.take q::pW d (s.drop (q+1)):=by
     show(if Lib.indexByte s 47<0 then[s]else s.take (Lib.indexByte s 47).toNat::pW d (s.drop ((Lib.indexByte s 47).toNat+1)))=_
     rw[kA hneg,hq];rfl
    rw[es,←r1];simp
theorem bOg (k:Nat){s:List UInt8}(hl:s.length≤1000300):∃h' v,aI prog 3 Q (k+1000320) 68 [str s,str SL] h=some (v,h')∧SliceE 1 h' v ((cF s).map fun x=>[str x])∧Ext h h':=by
 rw[bEj Q (k+1000319) _ _ h (kb.fr 68 _ (by decide))];have hc:Lib.countByte s 47≤s.length:=List.count_le_length;obtain⟨N,hN⟩:∃N,N=(if s.length<Lib.countByte s 47 then s.length else Lib.countByte s 47):=⟨_,rfl⟩
 have hN':N=Lib.countByte s 47:=by rw[hN,kA (by omega)]
 have e133:∃h' v,aI prog 3 Q (k+1000319) 87 [str s,str SL,.int .i64 0,.int .i64 (-1)] h=some (v,h')∧SliceE 1 h' v ((cF s).map fun x=>[str x])∧Ext h h':=by
  rw[bEd Q (k+1000318) _ _ _ _ h (kb.fr 87 _ (by decide))];have d0:decide ((-1:Int)=0)=false:=rfl;have d1:decide ((-1:Int)<0)=true:=rfl;have st:A.zA prog .eql 9 (str SL) (.string ⟨⟨[]⟩⟩)=some (.bool false):=by kernel_rfl
  have e165:=bEa kb (h:=h) (k+1000316) s;have e165:aI prog 3 Q (k+1000318) 100 [str s,str SL] h=_:=e165;rw[←hN']at e165;have w1:IntKind.i64.wrap ((N:Int)+1)=((N+1:Nat):Int):=aS (by omega);have w2:IntKind.i64.wrap ((s.length:Int)+1)=((s.length+1:Nat):Int):=aS (by omega);have mn:A.zS prog .min ⟨[3,3]⟩ 3 [.int .i64 ((N+1:Nat):Int),.int .i64 ((s.length+1:Nat):Int)]=some (.int .i64 ((N+1:Nat):Int)):=by
   rw[aSh,kA (by omega)]
  obtain⟨h1,hh1⟩:∃h1,h1=h.push (.cells (A.zeros RaA.Z9L (N+1)) (some 1)):=⟨_,rfl⟩;have zl:∀n,(A.zeros RaA.Z9L n).length=n:=fun n=>by
   have hz:RaA.Z9L.length=1:=rfl
   induction n with
   |zero=>rfl
   |succ n ih=>simp only[A.zeros,kL,hz]at ih⊢;omega
  have mk:A.zP 1 16 RaA.Z9L (.int .i64 ((N+1:Nat):Int)) (.int .i64 ((N+1:Nat):Int)) h=some (.slice (some ⟨h.next,0,none⟩) (N+1) (2*(N+1)+1),h1):=by
   have e1:Nat.ble (16*(N+1)) (2^47)=true:=ble_iff.2 (by omega);have e2:Nat.ble (N+1) (2^47)=true:=ble_iff.2 (by omega);show(bif Nat.ble (N+1) (N+1)&&Nat.ble (16*(N+1)) (2^47)&&Nat.ble (N+1) (2^47)then some (Value.slice (some ⟨h.next,0,none⟩) (N+1) (2*(N+1)+1),h.push (.cells (A.zeros RaA.Z9L (N+1)) (some 1)))else none)=_
   rw[e1,e2,←hh1,show Nat.ble (N+1) (N+1)=true from ble_iff.2 (kF _)];rfl
  have x1:Ext h h1:=by rw[hh1];exact Ext.push h _
  have g1:h1.get h.next=some (.cells (A.zeros RaA.Z9L (N+1)) (some 1)):=by rw[hh1,H.get_push,kB rfl]
  have w3:IntKind.i64.wrap (((N+1:Nat):Int)-1)=(N:Int):=by rw[lT (by omega) (by omega)];omega
  obtain⟨h2,ps,last,cs,e,r1,r2,r3,r4,r5,r6⟩:=aYc kb (k+1000314) (k+1000318) (fun x0 x9 x10 h=>aOt (aI prog 3 Q (k+1000318)) (k+1000318) x0 x9 x10 h (fun x8 h=>some (x8,h))) (N:=N) (r:=h.next) (by omega) N (k+1000318) h1 s [] _ (by simp) (by omega) hl g1 (zl _) rfl (by rw[hh1];exact Nat.lt_succ_self _);have ix:=rU 1 h.next 0 (N+1) (2*(N+1)+1) ps.length .i64 (by omega);obtain⟨h3,hh3⟩:∃h3,h3=h2.put h.next (.cells (cs.set ps.length (str last)) (some 1)):=⟨_,rfl⟩;have e3:A.store 1 (.pointer (some ⟨h.next,0+ps.length*1,none⟩)) (str last) h2=some h3:=by
   have c1:aN (str last)=some [str last]:=rfl;have c2:Nat.beq [str last].length 1=true:=rfl;have c3:Nat.ble (0+ps.length*1+1) cs.length=true:=ble_iff.2 (by omega);rw[qU,r3,c1];simp only[c2,c3,Bool.and_self,cond_true,lZ (by omega:0+ps.length*1<cs.length)];rw[hh3];simp only[Nat.zero_add,Nat.mul_one]
  have g3:h3.get h.next=some (.cells (cs.set ps.length (str last)) (some 1)):=by rw[hh3,H.get_put,kB rfl]
  have w4:IntKind.i64.wrap ((ps.length:Int)+1)=((ps.length+1:Nat):Int):=aS (by omega);have sl:A.zM 1 (.slice (some ⟨h.next,0,none⟩) (N+1) (2*(N+1)+1)) none (some (.int .i64 ((ps.length+1:Nat):Int))) none h3=some (.slice (some ⟨h.next,0,none⟩) (ps.length+1) (2*(N+1)+1)):=by
   have b1:A.zR ((2*(N+1)+1) / 2) (some (.int .i64 ((ps.length+1:Nat):Int)))=some (some (ps.length+1)):=by
    show(bif Nat.ble (ps.length+1) ((2*(N+1)+1) / 2)then some (some (ps.length+1))else none)=_
    rw[ble_iff.2 (by omega)];rfl
   have b2:Nat.beq ((2*(N+1)+1)%2) 1=true:=by rw[show(2*(N+1)+1)%2=1 by omega];rfl
   show(match A.zR ((2*(N+1)+1) / 2) (some (.int .i64 ((ps.length+1:Nat):Int)))with
    |none=>none
    |some r=>match A.zR (r.getD (N+1)) none with
     |none=>none
     |some l=>bif Nat.beq ((2*(N+1)+1)%2) 1||(none:Option Nat).isSome||Nat.beq (l.getD 0) 0||A.yK 1 h.next h3 then some (Value.slice (some ⟨h.next,0+l.getD 0*1,none⟩) (r.getD (N+1)-l.getD 0) (2*(N+1)+1-2*l.getD 0))else none)=_
   rw[b1,b2];rfl
  have e:aCm (aI prog 3 Q (k+1000318)) (k+1000318) (fun x0 x9 x10 h=>aOt (aI prog 3 Q (k+1000318)) (k+1000318) x0 x9 x10 h (fun x8 h=>some (x8,h))) (k+1000318) (.int .i64 (N:Int)) (str SL) (.int .i64 0) (str s) (.slice (some ⟨h.next,0,none⟩) (N+1) (2*(N+1)+1)) (.int .i64 0) h1=some (.slice (some ⟨h.next,0,none⟩) (ps.length+1) (2*(N+1)+1),h3):=by
   refine e.trans ?_;simp only[aOt,ix,RaK.S,e3,bG,w4,sl]
  refine⟨h3,.slice (some ⟨h.next,0,none⟩) (ps.length+1) (2*(N+1)+1),?_,⟨?_,.inr ⟨h.next,0,2*(N+1)+1,?_,?_,?_,fun _=>⟨_,_,g3,?_,?_⟩⟩⟩,?_⟩
  ·obtain⟨M,hM⟩:∃M,M=k+1000318:=⟨_,rfl⟩;rw[←hM]at e165 e⊢;simp only[F87,aRb,bGt,zQ,d0,RaK.S,st,zZ,d1,e165,bG,w1,bGs,qJ,w2,mn,mk,nG,w3];exact e
  ·intro x hx;obtain⟨y,_,rfl⟩:=List.mem_map.1 hx;rfl
  ·have hsp:cF s=ps++[last]:=by rw[←r1];unfold cF;rw[←hN];rfl
   rw[hsp,pA,kL];rfl
  ·have hsp:cF s=ps++[last]:=by rw[←r1];unfold cF;rw[←hN];rfl
   rw[hsp,pA,kL];show ps.length+1≤_;omega
  ·rw[hh3];exact kH (show h.next<h1.next by rw[hh1];exact Nat.lt_succ_self _) r6.next
  ·have hsp:cF s=ps++[last]:=by rw[←r1];unfold cF;rw[←hN];rfl
   rw[hsp,pA,kL,List.length_set];show 0+(ps.length+1)*1≤_;omega
  ·have hsp:cF s=ps++[last]:=by rw[←r1];unfold cF;rw[←hN];rfl
   have fl:∀l:List (List UInt8),(l.map fun x=>[str x]).flatten=l.map str:=fun l=>by induction l with|nil=>rfl|cons a l ih=>simp[ih]
   rw[hsp,pA,kL,fl,List.map_append,←r5,List.drop_zero];show(cs.set ps.length (str last)).take ((ps.length+1)*1)=_;rw[Nat.mul_one,List.take_add_one,List.getElem?_set_self (by omega),List.take_set_of_le (kF _)];rfl
  ·refine⟨?_,fun i hi=>?_⟩
   ·rw[hh3];exact kG x1.next r6.next
   ·rw[hh3,H.get_put,kA (by omega),r6.get i (kH hi x1.next) (by omega)];exact x1.get i hi
 obtain⟨h',v,e,sl,x⟩:=e133;refine⟨h',v,?_,sl,x⟩;simp only[F68,aWe,e,RaK.S]
end
end Go.Proofs.YtpanfoafajepcaaGreatDoor.Ra

set_option maxRecDepth 100000
namespace Go.Proofs.YtpanfoafajepcaaGreatDoor.Ra
open Tryz (prog)
open Go Go.AM RaA
structure aCj (B:H)(A:List Nat):Prop where
 n4:3≤B.next
 g0:B.get 1=some (.cells (cV Go.Pinned.utf8FirstZ) none)
 g1:B.get 2=some (.cells (cV A) none)
 lA:A.length=32
theorem aSn {c:Nat}(h1:128≤c)(h2:c<256):∃x,Go.Pinned.utf8FirstZ[c]?=some x∧x<256∧(240≤x∨(2≤x%8∧x%8≤4)):=by
 have all:((List.range 256).all fun c=>Nat.blt c 128||(match Go.Pinned.utf8FirstZ[c]? with|some x=>Nat.blt x 256&&(Nat.ble 240 x||(Nat.ble 2 (x%8)&&Nat.ble (x%8) 4))|none=>false))=true:=by kernel_rfl
 have:=List.all_eq_true.1 all c (List.mem_range.2 h2);rw[Bool.or_eq_true,blt_iff]at this;rcases this with h|h
 ·omega
 ·cases e:Go.Pinned.utf8FirstZ[c]? with
  |none=>rw[e]at h;cases h
  |some x=>
   rw[e]at h;simp only[kO,Bool.or_eq_true,blt_iff,ble_iff]at h;exact⟨x,rfl,h.1,h.2⟩
def xV (k:IntKind)(x y:Int):Int:=k.wrap (BitVec.ofInt k.bits x&&& BitVec.ofInt k.bits y).toNat
def orI (k:IntKind)(x y:Int):Int:=k.wrap (BitVec.ofInt k.bits x|||BitVec.ofInt k.bits y).toNat
def aOh (k:IntKind)(x y:Int):Int:=k.wrap (BitVec.ofInt k.bits x&&& ~~~ BitVec.ofInt k.bits y).toNat
theorem rX (t:TypeId)(k:IntKind)(x y:Int):A.zA prog .and t (.int k x) (.int k y)=some (.int k (xV k x y)):=dM prog .and t k x y (by simp) (by simp)
theorem vY (t:TypeId)(k:IntKind)(x y:Int):A.zA prog .or t (.int k x) (.int k y)=some (.int k (orI k x y)):=dM prog .or t k x y (by simp) (by simp)
theorem aHv (t:TypeId)(k:IntKind)(x y:Int):A.zA prog .andNot t (.int k x) (.int k y)=some (.int k (aOh k x y)):=dM prog .andNot t k x y (by simp) (by simp)
def vF (n:Nat)(x:Int):Int:=IntKind.i32.wrap (x*2^(min n IntKind.i32.bits))
def aTo (n:Nat)(x:Int):Int:=x.fdiv (2^(min n IntKind.i32.bits))
theorem aTp (x:Int):A.zA prog .shl 21 (.int .i32 x) (.int .u64 6)=some (.int .i32 (vF 6 x)):=rfl
theorem aOb (x:Int):A.zA prog .shl 21 (.int .i32 x) (.int .u64 12)=some (.int .i32 (vF 12 x)):=rfl
theorem aXt (x:Int):A.zA prog .shl 21 (.int .i32 x) (.int .u64 18)=some (.int .i32 (vF 18 x)):=rfl
theorem aXs (x:Int):A.zA prog .shl 21 (.int .i32 x) (.int .u64 31)=some (.int .i32 (vF 31 x)):=rfl
theorem aXr (x:Int):A.zA prog .shr 21 (.int .i32 x) (.int .u64 31)=some (.int .i32 (aTo 31 x)):=rfl
theorem rW (x:Int):A.conv prog 5 21 (.int .u8 x)=some (.int .i32 (IntKind.i32.wrap x)):=by kernel_rfl
theorem bNt {x:Nat}(hx:x<256):A.zA prog .and 5 (.int .u8 (x:Int)) (.int .u8 7)=some (.int .u8 ((x%8:Nat):Int)):=by
 have all:((List.range 256).all fun x=>match A.zA prog .and 5 (.int .u8 (x:Int)) (.int .u8 7)with|some v=>AM.same v (.int .u8 ((x%8:Nat):Int))|none=>false)=true:=by kernel_rfl
 have:=List.all_eq_true.1 all x (List.mem_range.2 hx);split at this
 ·rename_i v hv;rw[hv,gB _ _ this]
 ·cases this
section
variable {Q:Orc}{B:H}{A':List Nat}(kb:KnA Q)(bt:aCj B A'){h:H}
include kb bt
theorem bKt (k:Nat){c:UInt8}{t:List UInt8}{z lo hi o:Nat}{h2:H}(hsz:2≤z∧z≤4)(ll:A.load false 1 (.pointer (some ⟨o,0,none⟩)) h2=some (.int .u8 (lo:Int)))(lh:A.load false 1 (.pointer (some ⟨o,1,none⟩)) h2=some (.int .u8 (hi:Int))):
 ∃r n,xS (aI prog 3 Q k) k (.int .i64 ((c::t).length:Int)) (aB o) (.int .i64 (z:Int)) (str (c::t)) (u8 c) h2 (fun x2 x3 h=>some (Value.tuple ⟨[x2,x3]⟩,h))=some (Value.tuple ⟨[.int .i32 r,.int .i64 n]⟩,h2)∧decide ((1:Int)<n)=whG z lo hi t:=by
 have _:=kb;have _:=bt;have lw:(c::t).length=t.length+1:=rfl;unfold whG;by_cases hs:t.length+1<z
 ·have ds:decide (((c::t).length:Int)<(z:Int))=true:=kC (by omega);rw[kB hs];refine⟨65533,1,?_,rfl⟩;simp only[xS,aIw,zZ,ds,RaK.S]
 have ds:decide (((c::t).length:Int)<(z:Int))=false:=kD (by omega);rw[kA hs]
 match t,hs,ds with
 |[],hs,_=>exact absurd (show 0+1<z by omega) hs
 |b::t2,hs,ds=>
  have i1:A.zC (str (c::b::t2)) (.int .i64 1)=some (u8 b):=ixS (i:=1) rfl;by_cases c1:b.toNat<lo
  ·have dc:decide ((b.toNat:Int)<(lo:Int))=true:=kC (by omega);simp only[kB c1];refine⟨65533,1,?_,rfl⟩;simp only[xS,aIw,zZ,ds,RaK.S,i1,RaK.n0,ll,dc]
  have dc:decide ((b.toNat:Int)<(lo:Int))=false:=kD (by omega);by_cases c2:hi<b.toNat
  ·have dd:decide ((hi:Int)<(b.toNat:Int))=true:=kC (by omega);simp only[kA c1,kB c2];refine⟨65533,1,?_,rfl⟩;simp only[xS,aIw,zZ,ds,RaK.S,i1,RaK.n0,ll,dc,lh,dd]
  have dd:decide ((hi:Int)<(b.toNat:Int))=false:=kD (by omega);by_cases z2:z≤2
  ·have dz:decide ((z:Int)≤2)=true:=kC (by omega);simp only[kA c1,kA c2,kB z2];refine⟨(orI .i32 (vF 6 (IntKind.i32.wrap (xV .u8 (c.toNat:Int) 31))) (IntKind.i32.wrap (xV .u8 (b.toNat:Int) 63))),2,?_,rfl⟩;simp only[xS,aIw,zZ,ds,RaK.S,i1,RaK.n0,ll,dc,lh,dd,aVm,dL,dz,rX,rW,aTp,vY]
  have dz:decide ((z:Int)≤2)=false:=kD (by omega)
  match t2,hs,ds,i1 with
  |[],hs,_,_=>exact absurd (show 0+1+1<z by omega) hs
  |d::t3,hs,ds,i1=>
   have i2:A.zC (str (c::b::d::t3)) (.int .i64 2)=some (u8 d):=ixS (i:=2) rfl;have hd2:∀(kr:Value→Value→H→Option (Value×H)),xS (aI prog 3 Q k) k (.int .i64 ((c::b::d::t3).length:Int)) (aB o) (.int .i64 (z:Int)) (str (c::b::d::t3)) (u8 c) h2 kr=aAw (aI prog 3 Q k) k (.int .i64 (z:Int)) (str (c::b::d::t3)) (u8 c) (u8 b) (u8 d) h2 kr:=by
    intro kr;simp only[xS,aIw,zZ,ds,RaK.S,i1,RaK.n0,ll,dc,lh,dd,aVm,dL,dz,i2]
   rw[hd2];simp only[kA c1,kA c2,kA z2];by_cases c3:d.toNat<128
   ·have de:decide ((d.toNat:Int)<128)=true:=kC (by omega);simp only[kB c3];refine⟨65533,1,?_,rfl⟩;simp only[aAw,aFx,zZ,de,RaK.S]
   have de:decide ((d.toNat:Int)<128)=false:=kD (by omega);by_cases c4:191<d.toNat
   ·have df:decide ((191:Int)<(d.toNat:Int))=true:=kC (by omega);simp only[kA c3,kB c4];refine⟨65533,1,?_,rfl⟩;simp only[aAw,aFx,zZ,de,RaK.S,df]
   have df:decide ((191:Int)<(d.toNat:Int))=false:=kD (by omega);by_cases z3:z≤3
   ·have dz3:decide ((z:Int)≤3)=true:=kC (by omega);simp only[kA c3,kA c4,kB z3];refine⟨(orI .i32 (orI .i32 (vF 12 (IntKind.i32.wrap (xV .u8 (c.toNat:Int) 15))) (vF 6 (IntKind.i32.wrap (xV .u8 (b.toNat:Int) 63)))) (IntKind.i32.wrap (xV .u8 (d.toNat:Int) 63))),3,?_,rfl⟩;simp only[aAw,aFx,zZ,de,RaK.S,df,aMw,dL,dz3,rX,rW,aOb,aTp,vY]
   have dz3:decide ((z:Int)≤3)=false:=kD (by omega)
   match t3,hs,i2 with
   |[],hs,_=>exact absurd (show 0+1+1+1<z by omega) hs
   |e::t4,hs,i2=>
    have i3:A.zC (str (c::b::d::e::t4)) (.int .i64 3)=some (u8 e):=ixS (i:=3) rfl;simp only[kA c3,kA c4,kA z3];by_cases c5:e.toNat<128
    ·have dh:decide ((e.toNat:Int)<128)=true:=kC (by omega);simp only[kB c5];refine⟨65533,1,?_,rfl⟩;simp only[aAw,aFx,zZ,de,RaK.S,df,aMw,dL,dz3,aPz,i3,dh]
    have dh:decide ((e.toNat:Int)<128)=false:=kD (by omega);by_cases c6:191<e.toNat
    ·have di:decide ((191:Int)<(e.toNat:Int))=true:=kC (by omega);simp only[kA c5,kB c6];refine⟨65533,1,?_,rfl⟩;simp only[aAw,aFx,zZ,de,RaK.S,df,aMw,dL,dz3,aPz,i3,dh,di]
    have di:decide ((191:Int)<(e.toNat:Int))=false:=kD (by omega);simp only[kA c5,kA c6];refine⟨(orI .i32 (orI .i32 (orI .i32 (vF 18 (IntKind.i32.wrap (xV .u8 (c.toNat:Int) 7))) (vF 12 (IntKind.i32.wrap (xV .u8 (b.toNat:Int) 63)))) (vF 6 (IntKind.i32.wrap (xV .u8 (d.toNat:Int) 63)))) (IntKind.i32.wrap (xV .u8 (e.toNat:Int) 63))),4,?_,rfl⟩;simp only[aAw,aFx,zZ,de,RaK.S,df,aMw,dL,dz3,aPz,i3,dh,di,rX,rW,aXt,aOb,aTp,vY]
theorem bNz (k:Nat){c:UInt8}{t:List UInt8}(hB:Ext B h)(hc:128≤c.toNat)(hl:t.length≤1000300):
 ∃h' r n,aI prog 3 Q (k+1) 116 [str (c::t)] h=some (.tuple ⟨[.int .i32 r,.int .i64 n]⟩,h')∧decide ((1:Int)<n)=whB A' (c::t)∧Ext h h':=by
 rw[aTe Q k _ h (kb.fr 116 _ (by decide))];obtain⟨x,hx,hx256,hx2⟩:=aSn hc c.toNat_lt;have hfn:fZ c.toNat=x:=by unfold fZ;rw[hx];rfl
 have ln:=qJ (c::t);have d1:decide (((c::t).length:Int)<1)=false:=by rw[kI,kM];omega
 have i0:A.zC (str (c::t)) (.int .i64 0)=some (u8 c):=ixS (i:=0) rfl;have g0:h.get 1=some (.cells (cV Go.Pinned.utf8FirstZ) none):=by rw[hB.get 1 (by have:=bt.n4;omega)];exact bt.g0
 have g1:h.get 2=some (.cells (cV A') none):=by rw[hB.get 2 (by have:=bt.n4;omega)];exact bt.g1
 have ix0:A.yM 256 1 (.pointer (some ⟨1,0,none⟩)) (u8 c)=some (.pointer (some ⟨1,0+c.toNat*1,none⟩)):=by
  show(bif Nat.blt c.toNat 256 then _ else none)=_
  rw[blt_iff.2 c.toNat_lt];rfl
 have l0:A.load false 1 (.pointer (some ⟨1,0+c.toNat*1,none⟩)) h=some (.int .u8 (x:Int)):=by
  rw[qK,g0,Nat.zero_add,Nat.mul_one];show(cV Go.Pinned.utf8FirstZ)[c.toNat]?=_;unfold cV;rw[kX,hx];rfl
 by_cases h240:240≤x
 ·have dg:decide ((240:Int)≤(x:Int))=true:=kC (by omega);have hw:whB A' (c::t)=false:=by
   show(if 240≤fZ c.toNat then false else _)=_
   rw[hfn,kB h240]
  refine⟨h,orI .i32 (aOh .i32 (IntKind.i32.wrap (c.toNat:Int)) (aTo 31 (vF 31 (IntKind.i32.wrap (x:Int))))) (xV .i32 65533 (aTo 31 (vF 31 (IntKind.i32.wrap (x:Int))))),1,?_,by rw[hw];rfl,Ext.refl h⟩;simp only[aXl,wC,aVo,ln,RaK.S,zZ,d1,i0,ix0,l0,aVn,gD,dg,rW,aXs,aXr,aHv,rX,vY]
 have dg:decide ((240:Int)≤(x:Int))=false:=kD (by omega);have hsz:2≤x%8∧x%8≤4:=by rcases hx2 with h|h;exact absurd h h240;exact h
 obtain⟨z,hz⟩:∃z,z=x%8:=⟨_,rfl⟩;obtain⟨q,hq⟩:∃q,q=x / 16:=⟨_,rfl⟩;have hq16:q<16:=by omega
 have a7:=bNt hx256;rw[←hz]at a7 hsz;have cz:=aIf z (by omega:z<256);have s4:=(bKv hx256).1;rw[←hq]at s4;have ix1:A.yM 16 2 (.pointer (some ⟨2,0,none⟩)) (.int .u8 (q:Int))=some (.pointer (some ⟨2,0+q*2,none⟩)):=by
  show(bif Nat.blt q 16 then _ else none)=_
  rw[blt_iff.2 hq16];rfl
 obtain⟨lo,hlo⟩:∃lo,A'[2*q]?=some lo:=⟨_,kN (by rw[bt.lA];omega)⟩;obtain⟨hi,hhi⟩:∃hi,A'[2*q+1]?=some hi:=⟨_,kN (by rw[bt.lA];omega)⟩;have l1:A.load true 2 (.pointer (some ⟨2,0+q*2,none⟩)) h=some (.agg ⟨[.int .u8 (lo:Int),.int .u8 (hi:Int)]⟩):=by
  rw[aV,g1];have bl:(cV A').length=32:=by unfold cV;rw[pA,bt.lA]
  have e1:Nat.ble (0+q*2+2) (cV A').length=true:=ble_iff.2 (by omega);simp only[e1,cond_true];have e2:((cV A').drop (0+q*2)).take 2=[.int .u8 (lo:Int),.int .u8 (hi:Int)]:=by
   have b1:(cV A')[0+q*2]?=some (.int .u8 (lo:Int)):=by unfold cV;rw[kX,show 0+q*2=2*q by omega,hlo];rfl
   have b2:(cV A')[0+q*2+1]?=some (.int .u8 (hi:Int)):=by unfold cV;rw[kX,show 0+q*2+1=2*q+1 by omega,hhi];rfl
   rw[bT b1,bT b2];rfl
  rw[e2]
 obtain⟨h1,hh1⟩:∃h1,h1=h.push (.cells RaA.Z177L (some 0)):=⟨_,rfl⟩;have e1:A.box 2 RaA.Z177 h=some (aB h.next,h1):=by rw[hh1];rfl
 obtain⟨h2,hh2⟩:∃h2,h2=h1.put h.next (.cells [.int .u8 (lo:Int),.int .u8 (hi:Int)] (some 0)):=⟨_,rfl⟩;have gz:h1.get h.next=some (.cells RaA.Z177L (some 0)):=by rw[hh1,H.get_push,kB rfl]
 have e2:A.store 2 (aB h.next) (.agg ⟨[.int .u8 (lo:Int),.int .u8 (hi:Int)]⟩) h1=some h2:=by
  rw[qU,gz,hh2];rfl
 have x2:Ext h h2:=by rw[hh2];exact(hh1▸Ext.push h _:Ext h h1).put _ _ (kF _)
 have g2:h2.get h.next=some (.cells [.int .u8 (lo:Int),.int .u8 (hi:Int)] (some 0)):=by rw[hh2,H.get_put,kB rfl]
 have ll:A.load false 1 (.pointer (some ⟨h.next,0,none⟩)) h2=some (.int .u8 (lo:Int)):=by rw[qK,g2];rfl
 have lh:A.load false 1 (.pointer (some ⟨h.next,1,none⟩)) h2=some (.int .u8 (hi:Int)):=by rw[qK,g2];rfl
 have wh:whB A' (c::t)=whG z lo hi t:=by
  show(if 240≤fZ c.toNat then false else whG (fZ c.toNat%8) ((A'[2*(fZ c.toNat / 16)]?).getD 0) ((A'[2*(fZ c.toNat / 16)+1]?).getD 0) t)=_
  rw[hfn,kA h240,←hz,←hq,hlo,hhi];rfl
 rw[wh];have hd:∀(kr:Value→Value→H→Option (Value×H)),wC (aI prog 3 Q k) k (str (c::t)) h kr=xS (aI prog 3 Q k) k (.int .i64 ((c::t).length:Int)) (aB h.next) (.int .i64 (z:Int)) (str (c::t)) (u8 c) h2 kr:=by
  intro kr;simp only[wC,aVo,ln,RaK.S,zZ,d1,i0,ix0,l0,aVn,gD,dg,a7,cz,s4,ix1,l1,e1,e2]
 simp only[aXl,RaK.S];rw[hd];obtain⟨r,n,e,hn⟩:=bKt kb bt k (t:=t) hsz ll lh;exact⟨h2,r,n,e,hn,x2⟩
end
end Go.Proofs.YtpanfoafajepcaaGreatDoor.Ra

set_option maxRecDepth 100000
namespace Go.Proofs.YtpanfoafajepcaaGreatDoor.Ra
open Tryz (prog)
open Go Go.AM RaA
theorem aHq {s:List UInt8}{pos w:Nat}(e:A.zQ ⟨⟨s⟩⟩ pos=some (65533,w)):∃b,s[pos]?=some b∧128≤b.toNat:=by
 unfold A.zQ at e
 cases hb:s[pos]? with
 |none=>
  have hb:(⟨⟨s⟩⟩:ByteArray).data.toList[pos]?=none:=hb;rw[hb]at e;cases e
 |some b=>
  have hb:(⟨⟨s⟩⟩:ByteArray).data.toList[pos]?=some b:=hb;rw[hb]at e;simp only at e;refine⟨b,rfl,?_⟩
  cases hq:Nat.blt b.toNat 128 with
  |true=>
   rw[hq]at e;simp only[cond_true,kE,kK]at e;have:=b.toNat_lt;omega
  |false=>
   have:¬b.toNat<128:=fun h=>by rw[blt_iff.2 h]at hq;cases hq
   omega
section
variable {Q:Orc}{B:H}{A':List Nat}(kb:KnA Q)(bt:aCj B A'){h:H}
include kb bt
theorem bOf (k:Nat){c:UInt8}{t:List UInt8}(hB:Ext B h)(hc:128≤c.toNat)(hl:t.length≤1000300):
 ∃h',aI prog 3 Q (k+3) 86 [str (c::t)] h=some (.bool (whB A' (c::t)),h')∧Ext h h':=by
 rw[bEe Q (k+2) _ h (kb.fr 86 _ (by decide))];obtain⟨h',r,n,e,hn,x⟩:=bNz kb bt (h:=h) k (c:=c) (t:=t) hB hc hl;have e159:aI prog 3 Q (k+2) 98 [str (c::t)] h=some (.tuple ⟨[.int .i32 r,.int .i64 n]⟩,h'):=by
  rw[bEb Q (k+1) _ h (kb.fr 98 _ (by decide))];have ne:=rS (c::t) [];rw[kD (by simp)]at ne;have ne:A.zA prog .neq 9 (str (c::t)) (.string ⟨⟨[]⟩⟩)=some (.bool true):=ne;have i0:A.zC (str (c::t)) (.int .i64 0)=some (u8 c):=ixS (i:=0) rfl;have d:decide ((c.toNat:Int)<128)=false:=kD (by omega);have t0:A.zB 0 (.tuple ⟨[.int .i32 r,.int .i64 n]⟩)=some (.int .i32 r):=rfl;have t1:A.zB 1 (.tuple ⟨[.int .i32 r,.int .i64 n]⟩)=some (.int .i64 n):=rfl;simp only[F98,aVy,ne,RaK.S,i0,zZ,d,e,t0,t1]
 have t0:A.zB 0 (.tuple ⟨[.int .i32 r,.int .i64 n]⟩)=some (.int .i32 r):=rfl;have t1:A.zB 1 (.tuple ⟨[.int .i32 r,.int .i64 n]⟩)=some (.int .i64 n):=rfl;refine⟨h',?_,x⟩;simp only[F86,aVz,e159,RaK.S,t0,t1,zY,hn]
theorem aYd (k L:Nat){t:Nat}{s:List UInt8}(hl:s.length≤1000300)(hbt:B.next≤t):
 ∀(d m:Nat) (h:H) (pos x3:Nat),s.length<pos+d→d<m→x3+d≤1001000→h.get t=some (.siter ⟨⟨s⟩⟩ pos)→t<h.next→Ext B h→
  ∃h' v,xQ (aI prog 3 Q (k+3)) L (fun x2 h=>some (x2,h)) (fun x3 h=>aLx (aI prog 3 Q (k+3)) L x3 h (fun x2 h=>some (x2,h))) m (aB t) (str s) (.int .i64 (x3:Int)) h=some (.int .i64 v,h')∧decide ((0:Int)≤v)=sZ A' s d pos∧ExtBut (fun i=>i=t) h h':=by
 have b0:A.zB 0 (.tuple ⟨[.bool false]⟩)=some (.bool false):=rfl;intro d
 induction d with
 |zero=>
  intro m h pos x3 hi hm hx g lt hB;obtain⟨m,rfl⟩:∃r,m=r+1:=⟨m-1,by omega⟩;have e:=fN g (tW (s:=s) (by omega));refine⟨h,(x3:Int),?_,kC (by omega),⟨kF _,fun _ _ _=>rfl⟩⟩;simp only[xQ,aEo,e,RaK.S,b0,aLx]
 |succ d ih=>
  intro m h pos x3 hi hm hx g lt hB;obtain⟨m,rfl⟩:∃r,m=r+1:=⟨m-1,by omega⟩
  cases hc:A.zQ ⟨⟨s⟩⟩ pos with
  |none=>
   have e:=fN g hc;have hr:sZ A' s (d+1) pos=true:=by
    show(match A.zQ ⟨⟨s⟩⟩ pos with|none=>true|some (c,w)=>if c=0 then false else if c=65533 then(if whB A' (s.drop pos)then sZ A' s d (pos+w)else false)else sZ A' s d (pos+w))=_
    rw[hc]
   refine⟨h,(x3:Int),?_,by rw[hr];exact kC (by omega),⟨kF _,fun _ _ _=>rfl⟩⟩;simp only[xQ,aEo,e,RaK.S,b0,aLx]
  |some cw=>
   obtain⟨c,w⟩:=cw;obtain⟨_,hc2,hw⟩:=aDm hc;have e:=iL g hc;obtain⟨h1,hh1⟩:∃h1,h1=h.put t (.siter ⟨⟨s⟩⟩ (pos+w)):=⟨_,rfl⟩;rw[←hh1]at e;have g1:h1.get t=some (.siter ⟨⟨s⟩⟩ (pos+w)):=by rw[hh1,H.get_put,kB rfl]
   have x1:ExtBut (fun i=>i=t) h h1:=by rw[hh1];exact ExtBut.put ⟨kF _,fun _ _ _=>rfl⟩ t _ rfl
   have lt1:t<h1.next:=by rw[hh1];exact lt
   have hB1:Ext B h1:=aHw hB x1 hbt;have a0:A.zB 0 (.tuple ⟨[.bool true,.int .i64 (pos:Int),.int .i32 (c:Int)]⟩)=some (.bool true):=rfl;have a1:A.zB 1 (.tuple ⟨[.bool true,.int .i64 (pos:Int),.int .i32 (c:Int)]⟩)=some (.int .i64 (pos:Int)):=rfl;have a2:A.zB 2 (.tuple ⟨[.bool true,.int .i64 (pos:Int),.int .i32 (c:Int)]⟩)=some (.int .i32 (c:Int)):=rfl;have hr:sZ A' s (d+1) pos=(if c=0 then false else if c=65533 then(if whB A' (s.drop pos)then sZ A' s d (pos+w)else false)else sZ A' s d (pos+w)):=by
    show(match A.zQ ⟨⟨s⟩⟩ pos with|none=>true|some (c,w)=>if c=0 then false else if c=65533 then(if whB A' (s.drop pos)then sZ A' s d (pos+w)else false)else sZ A' s d (pos+w))=_
    rw[hc]
   rw[hr];have hwr:IntKind.i64.wrap ((x3:Int)+1)=((x3+1:Nat):Int):=aS (by omega);by_cases c0:c=0
   ·have d0:decide ((c:Int)=0)=true:=kC (by omega);rw[kB c0];refine⟨h1,-1,?_,rfl,x1⟩;simp only[xQ,aEo,e,RaK.S,a0,aIl,a1,a2,aEx,aLz,zQ,d0,aLy]
   have d0:decide ((c:Int)=0)=false:=kD (by omega);rw[kA c0];by_cases cE:c=65533
   ·have dE:decide ((c:Int)=65533)=true:=kC (by omega);rw[kB cE];obtain⟨b,hb,hb8⟩:=aHq (by rw[cE]at hc;exact hc);have hpl:=(List.getElem?_eq_some_iff.1 hb).1;have sl:=slS (l:=s) (k:=pos) (by omega);rw[bT hb]at sl;obtain⟨h2,e2,x2⟩:=bOf kb bt (h:=h1) k (c:=b) (t:=s.drop (pos+1)) hB1 hb8 (by rw[kU];omega);rw[bT hb]
    cases hwh:whB A' (b::s.drop (pos+1))with
    |false=>
     rw[hwh]at e2;refine⟨h2,-1,?_,rfl,x1.trans x2.but⟩;simp only[xQ,aEo,e,RaK.S,a0,aIl,a1,a2,aEx,aLz,zQ,d0,dE,sl,e2,aLy]
    |true=>
     rw[hwh]at e2;obtain⟨h3,v,e3,hv,x3'⟩:=ih m h2 (pos+w) (x3+1) (by omega) (by omega) (by omega) (by rw[x2.get _ lt1];exact g1) (kH lt1 x2.next) (hB1.trans x2);refine⟨h3,v,?_,hv,(x1.trans x2.but).trans x3'⟩;simp only[xQ,aEo,e,RaK.S,a0,aIl,a1,a2,aEx,aLz,zQ,d0,dE,sl,e2,aLy,aOw,bG,hwr];exact e3
   ·have dE:decide ((c:Int)=65533)=false:=kD (by omega);rw[kA cE];obtain⟨h3,v,e3,hv,x3'⟩:=ih m h1 (pos+w) (x3+1) (by omega) (by omega) (by omega) g1 lt1 hB1;refine⟨h3,v,?_,hv,x1.trans x3'⟩;simp only[xQ,aEo,e,RaK.S,a0,aIl,a1,a2,aEx,aLz,zQ,d0,dE,aLy,aOw,bG,hwr];exact e3
theorem T77 (k:Nat){s:List UInt8}(hB:Ext B h):∃h',aI prog 3 Q (k+1000400) 52 [str s] h=some (.bool (aFl A' s),h')∧Ext h h':=by
 cases hq:Q 52 [str s]with
 |some v=>exact absurd hq (by rw[kb.fr 52 _ (by decide)];intro c;cases c)
 |none=>
  rw[bEu Q (k+1000399) _ h hq];have e101:∃h' v,aI prog 3 Q (k+1000399) 67 [str s] h=some (.int .i64 v,h')∧decide ((0:Int)≤v)=aFl A' s∧Ext h h':=by
   rw[bEk Q (k+1000398) _ h (kb.fr 67 _ (by decide))];by_cases hlong:65535<s.length
   ·have d:decide ((65535:Int)<(s.length:Int))=true:=kC (by omega);refine⟨h,-1,?_,by unfold aFl;rw[kB hlong];rfl,Ext.refl h⟩;simp only[F67,aNm,aTv,qJ,RaK.S,zY,d]
   have hl:s.length≤1000300:=by omega
   have d:decide ((65535:Int)<(s.length:Int))=false:=kD (by omega);have hvb:aFl A' s=sZ A' s (s.length+1) 0:=by unfold aFl;exact kA hlong
   rw[hvb];obtain⟨h1,hh1⟩:∃h1,h1=h.push (.siter ⟨⟨s⟩⟩ 0):=⟨_,rfl⟩;have e1:A.zZ (str s) h=some (aB h.next,h1):=by rw[hh1];rfl
   have x1:Ext h h1:=by rw[hh1];exact Ext.push h _
   have g1:h1.get h.next=some (.siter ⟨⟨s⟩⟩ 0):=by rw[hh1,H.get_push,kB rfl]
   obtain⟨h2,v,e,hv,x2⟩:=aYd kb bt (k+1000395) (k+1000398) hl hB.next (s.length+1) (k+1000398) h1 0 0 (by omega) (by omega) (by omega) g1 (by rw[hh1];exact Nat.lt_succ_self _) (hB.trans x1);refine⟨h2,v,?_,hv,⟨kG x1.next x2.next,fun i hi=>by rw[x2.get i (kH hi x1.next) (by omega)];exact x1.get i hi⟩⟩;have e:xQ (aI prog 3 Q (k+1000398)) (k+1000398) (fun x2 h=>some (x2,h)) (fun x3 h=>aLx (aI prog 3 Q (k+1000398)) (k+1000398) x3 h (fun x2 h=>some (x2,h))) (k+1000398) (aB h.next) (str s) (.int .i64 0) h1=_:=e;obtain⟨M,hM⟩:∃M,M=k+1000398:=⟨_,rfl⟩;rw[←hM]at e⊢;simp only[F67,aNm,aTv,qJ,RaK.S,zY,d,aQy,bGv,e1];exact e
  obtain⟨h',v,e,hv,x⟩:=e101;refine⟨h',?_,x⟩;simp only[F52,aWk,e,RaK.S,gD,hv]
end
end Go.Proofs.YtpanfoafajepcaaGreatDoor.Ra
