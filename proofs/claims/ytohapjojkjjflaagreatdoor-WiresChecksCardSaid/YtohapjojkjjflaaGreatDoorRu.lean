import Derived.Test.YtohapjojkjjflaaGreatDoorRi
import Derived.Test.YtohapjojkjjflaaGreatDoorRr
import Derived.Lib.Bytealg
set_option maxRecDepth 100000
namespace Go.Proofs.YtohapjojkjjflaaGreatDoor.Wz
open Tryz (prog)
open Go Go.AM WzA
theorem aDc {s:ByteArray}{b:UInt8}:(match(List.range s.size).find? fun i=>s[i]! ==b with|some i=>(i:Int)|none=> -1)=Lib.indexByte s.data.toList b:=Lib.firstIdx_eq s b
theorem iN {h:H}{id pos c w:Nat}{s:ByteArray}(g:h.get id=some (.siter s pos))(e:A.zL s pos=some (c,w)):A.zY (.pointer (some ⟨id,0,none⟩)) h=some (.tuple ⟨[.bool true,.int .i64 (pos:Int),.int .i32 (c:Int)]⟩,h.put id (.siter s (pos+w))):=by
 show(match h.get id with|some (.siter s pos)=>_|_=>none)=_
 rw[g];simp only[e]
theorem gB {h:H}{id pos:Nat}{s:ByteArray}(g:h.get id=some (.siter s pos))(e:A.zL s pos=none):A.zY (.pointer (some ⟨id,0,none⟩)) h=some (.tuple ⟨[.bool false]⟩,h):=by
 show(match h.get id with|some (.siter s pos)=>_|_=>none)=_
 rw[g];simp only[e]
def enc (c:Nat):List UInt8:=(Utf8.encode (c:Int)).data.toList
theorem aOn {c:Nat}(h1:128≤c)(h2:c<2048):∃a b:UInt8,enc c=[a,b]∧128≤b.toNat:=by
 have hv:Utf8.valid (c:Int)=true:=by unfold Utf8.valid;simp;omega
 refine⟨UInt8.ofNat (0xC0+c / 64),UInt8.ofNat (0x80+c%64),?_,?_⟩
 ·unfold enc Utf8.encode;simp only[hv,if_true,Int.toNat_natCast];rw[kA (by omega),kB (by omega)]
 ·rw[UInt8.toNat_ofNat'];omega
theorem aIe {c:Nat}(h2:2048≤c):3≤(enc c).length∧(enc c).length≤4:=by
 unfold enc Utf8.encode;simp only;by_cases hv:Utf8.valid (c:Int)=true
 ·simp only[hv,if_true,Int.toNat_natCast];rw[kA (by omega),kA (by omega)];split
  ·exact⟨by show 3≤3;omega,by show 3≤4;omega⟩
  ·exact⟨by show 3≤4;omega,by show 4≤4;omega⟩
 ·have hv:Utf8.valid (c:Int)=false:=by simpa using hv
  simp only[hv,pB,if_false];exact⟨by decide,by decide⟩
section
variable {Q:Orc}(kb:KnA Q){h:H}
include kb
theorem cJy (k:Nat)(s:List UInt8){c:Nat}(hc:c<256):aA prog 2 Q (k+1) 115 [str s,.int .u8 (c:Int)] h=some (.int .i64 (Lib.indexByte s (UInt8.ofNat c)),h):=by
 have hq:Q 115 [str s,.int .u8 (c:Int)]=none:=kb.fr 115 _ (by decide);have hb:((prog.funcs[115]?).map fun fn=>(fn.body.isNone,tY fn))=some (true,1):=by kernel_rfl
 obtain⟨fn,hf,hfb⟩:∃fn,prog.funcs[115]?=some fn∧(fn.body.isNone,tY fn)=(true,1):=by
  cases hf:prog.funcs[115]? with
  |none=>rw[hf]at hb;cases hb
  |some fn=>rw[hf]at hb;exact⟨fn,rfl,kP hb⟩
 have h1:fn.body=none:=Option.isNone_iff_eq_none.1 (congrArg Prod.fst hfb);have h2:tY fn=1:=congrArg Prod.snd hfb;simp only[aA,hq,hf,h1,h2];have e:(((c:Int).toNat).toUInt8)=UInt8.ofNat c:=rfl;show some (Value.int .i64 (match(List.range (⟨⟨s⟩⟩:ByteArray).size).find? fun i=>(⟨⟨s⟩⟩:ByteArray)[i]! ==((c:Int).toNat).toUInt8 with|some i=>(i:Int)|none=> -1),h)=_
 rw[e,aDc]
theorem cFb (k:Nat)(s:List UInt8){c:Nat}(hc:c<256):aA prog 2 Q (k+2) 113 [str s,.int .u8 (c:Int)] h=some (.int .i64 (Lib.indexByte s (UInt8.ofNat c)),h):=by
 rw[bCp Q (k+1) _ _ h (kb.fr 113 _ (by decide))];simp only[cFe,aMx,cJy kb k s hc,WzO.S]
theorem cFc (k:Nat)(s:List UInt8){c:Nat}(hc:c<256):aA prog 2 Q (k+3) 106 [str s,.int .u8 (c:Int)] h=some (.int .i64 (Lib.indexByte s (UInt8.ofNat c)),h):=by
 rw[bCs Q (k+2) _ _ h (kb.fr 106 _ (by decide))];simp only[cFf,aMy,cFb kb k s hc,WzO.S]
theorem cKb (k:Nat){c:Nat}:∃b,aA prog 2 Q (k+1) 107 [.int .i32 (c:Int)] h=some (.bool b,h):=by
 rw[bCr Q k _ h (kb.fr 107 _ (by decide))];have d0:decide ((0:Int)≤(c:Int))=true:=kC (by omega)
 cases d1:decide ((c:Int)<55296)with
 |true=>
  refine⟨true,?_⟩;simp only[aUc,tD,aSe,aGv,aSd,bK,d0,WzO.S,zZ,d1,cCy]
 |false=>
  cases d2:decide ((57343:Int)<(c:Int))with
  |false=>
   refine⟨false,?_⟩;simp only[aUc,tD,aSe,aGv,aSd,bK,d0,WzO.S,zZ,d1,aYc,d2,bGy]
  |true=>
   cases d3:decide ((c:Int)≤1114111)with
   |false=>
    refine⟨false,?_⟩;simp only[aUc,tD,aSe,aGv,aSd,bK,d0,WzO.S,zZ,d1,aYc,d2,d3,bGy]
   |true=>
    refine⟨true,?_⟩;simp only[aUc,tD,aSe,aGv,aSd,bK,d0,WzO.S,zZ,d1,aYc,d2,d3]
omit kb in
theorem aOt {c:Nat}(hc:c<128):A.conv prog 21 5 (.int .i32 (c:Int))=some (.int .u8 (c:Int)):=by
 have all:((List.range 128).all fun c=>match A.conv prog 21 5 (.int .i32 (c:Int))with|some v=>AM.same v (.int .u8 (c:Int))|none=>false)=true:=by kernel_rfl
 have:=List.all_eq_true.1 all c (List.mem_range.2 hc);split at this
 ·rename_i v hv;rw[hv,same_eq _ _ this]
 ·cases this
omit kb in
theorem cGx {c:Nat}(hc:c<128):decide ((0:Int)≤Lib.indexByte PM (UInt8.ofNat c))=pmC c:=by
 have all:((List.range 128).all fun c=>decide ((0:Int)≤Lib.indexByte PM (UInt8.ofNat c))==pmC c)=true:=by kernel_rfl
 have:=List.all_eq_true.1 all c (List.mem_range.2 hc);simpa using this
omit kb in
theorem aOs (c:Nat):A.conv prog 21 9 (.int .i32 (c:Int))=some (str (enc c)):=by kernel_rfl
theorem cKi (k:Nat){c:Nat}(hc:c≤1114111):∃h' v,aA prog 2 Q (k+10) 98 [str PM,.int .i32 (c:Int)] h=some (.int .i64 v,h')∧decide ((0:Int)≤v)=pmC c∧Ext h h':=by
 rw[bUd Q (k+9) _ _ h (kb.fr 98 _ (by decide))];have d0:decide ((0:Int)≤(c:Int))=true:=kC (by omega);by_cases h128:c<128
 ·have d1:decide ((c:Int)<128)=true:=kC (by omega);refine⟨h,Lib.indexByte PM (UInt8.ofNat c),?_,cGx h128,Ext.refl h⟩;simp only[F98,aTf,bDh,aLs,bDg,bK,d0,WzO.S,zZ,d1,cDl,aOt h128,cFc kb (h:=h) (k+6) PM (show c<256 by omega)]
 have d1:decide ((c:Int)<128)=false:=kD (by omega);have hp:pmC c=false:=kD (by omega);have fin:decide ((0:Int)≤ -1)=pmC c:=by rw[hp];rfl
 have go:∀K:Value→H→Option (Value×H),aLs (aA prog 2 Q (k+9)) (k+9) (.int .i32 (c:Int)) (str PM) h K=aFc (aA prog 2 Q (k+9)) (k+9) (.bool false) (.int .i32 (c:Int)) (str PM) h K:=by
  intro K;simp only[aLs,bDg,bK,d0,WzO.S,zZ,d1]
 simp only[F98,aTf,bDh,WzO.S];rw[go];by_cases hE:c=65533
 ·have dE:decide ((c:Int)=65533)=true:=kC (by omega);obtain⟨h1,hh1⟩:∃h1,h1=h.push (.siter ⟨⟨PM⟩⟩ 0):=⟨_,rfl⟩;have e1:A.zU (str PM) h=some (aB h.next,h1):=by rw[hh1];rfl
  have x1:Ext h h1:=by rw[hh1];exact Ext.push h _
  have g1:h1.get h.next=some (.siter ⟨⟨PM⟩⟩ 0):=by rw[hh1,H.get_push,kB rfl]
  have n1:=iN (c:=43) (w:=1) g1 rfl;obtain⟨h2,hh2⟩:∃h2,h2=h1.put h.next (.siter ⟨⟨PM⟩⟩ (0+1)):=⟨_,rfl⟩;rw[←hh2]at n1;have g2:h2.get h.next=some (.siter ⟨⟨PM⟩⟩ (0+1)):=by rw[hh2,H.get_put,kB rfl]
  have x2:Ext h h2:=by rw[hh2];exact x1.put _ _ (kF _)
  have n2:=iN (c:=35) (w:=1) g2 rfl;obtain⟨h3,hh3⟩:∃h3,h3=h2.put h.next (.siter ⟨⟨PM⟩⟩ (0+1+1)):=⟨_,rfl⟩;rw[←hh3]at n2;have g3:h3.get h.next=some (.siter ⟨⟨PM⟩⟩ (0+1+1)):=by rw[hh3,H.get_put,kB rfl]
  have x3:Ext h h3:=by rw[hh3];exact x2.put _ _ (kF _)
  have n3:=gB g3 rfl;refine⟨h3,-1,?_,fin,x3⟩;have a0:∀(p r:Value),A.z 0 (.tuple ⟨[.bool true,p,r]⟩)=some (.bool true):=fun _ _=>rfl;have a1:∀(p r:Value),A.z 1 (.tuple ⟨[.bool true,p,r]⟩)=some p:=fun _ _=>rfl;have a2:∀(p r:Value),A.z 2 (.tuple ⟨[.bool true,p,r]⟩)=some r:=fun _ _=>rfl;have b0:A.z 0 (.tuple ⟨[.bool false]⟩)=some (.bool false):=rfl;have c1:decide (((43:Nat):Int)=65533)=false:=rfl;have c2:decide (((35:Nat):Int)=65533)=false:=rfl;have lp:∀(m L:Nat) (C:CF) (kr kx:_),aKx C L (β:=Value×H) kr kx (m+3) (aB h.next) h1=kx h3:=by
   intro m L C kr kx;simp only[aKx,bDd,n1,WzO.S,a0,a1,a2,zQ,c1,n2,c2,n3,b0]
  have lp:=lp (k+6) (k+9) (aA prog 2 Q (k+9));generalize k+9=M at lp⊢;simp only[aFc,aUu,zQ,dE,WzO.S,aYj,cDm,e1];have lp':∀kr kx,aKx (aA prog 2 Q M) M (β:=Value×H) kr kx M (aB h.next) h1=kx h3:=lp;rw[lp'];rfl
 ·have dE:decide ((c:Int)=65533)=false:=kD (by omega);obtain⟨b,eb⟩:=cKb kb (h:=h) (k+8) (c:=c);have eb:aA prog 2 Q (k+9) 107 [.int .i32 (c:Int)] h=some (.bool b,h):=eb;refine⟨h,-1,?_,fin,Ext.refl h⟩
  cases b with
  |false=>simp only[aFc,aUu,zQ,dE,WzO.S,bDf,eb,cDn]
  |true=>
   have st:aFc (aA prog 2 Q (k+9)) (k+9) (.bool false) (.int .i32 (c:Int)) (str PM) h (fun x4 h=>some (x4,h))=aLp (aA prog 2 Q (k+9)) (k+9) (str PM) (str (enc c)) h (fun x4 h=>some (x4,h)):=by
    simp only[aFc,aUu,zQ,dE,WzO.S,bDf,eb,cDt,aOs]
   rw[st];have lPM:A.zC (str PM)=some (.int .i64 2):=rfl;by_cases h2:c<2048
   ·obtain⟨a,b,e,hb⟩:=aOn (by omega) h2;rw[e];have l2:A.zC (str [a,b])=some (.int .i64 2):=rfl;have w1:A.zA prog .sub 3 (.int .i64 2) (.int .i64 1)=some (.int .i64 1):=by rw[bP];rfl
    have dl:decide ((1:Int)<2)=true:=rfl;have i1:A.zB (str PM) (.int .i64 1)=some (.int .u8 35):=rfl;have i2:A.zB (str [a,b]) (.int .i64 1)=some (u8 b):=rfl;have dn:decide ((35:Int)=(b.toNat:Int))=false:=kD (by omega);have w2:A.zA prog .add 3 (.int .i64 1) (.int .i64 1)=some (.int .i64 2):=by rw[aG];rfl
    have sl:A.zE (str PM) (some (.int .i64 2)) none=some (str []):=rfl;have e213:=cFc kb (h:=h) (k+6) [] b.toNat_lt;have e213:aA prog 2 Q (k+9) 106 [str [],u8 b] h=some (.int .i64 (-1),h):=e213;have dm:decide ((-1:Int)<0)=true:=rfl;have lp:∀(m L:Nat) (kr:Value→H→Option (Value×H)) (kx),aAw (aA prog 2 Q (k+9)) L kr kx (m+1) (.int .i64 1) (.int .i64 1) (str PM) (str [a,b]) h=kr (.int .i64 (-1)) h:=by
     intro m L kr kx;simp only[aAw,aUt,lPM,WzO.S,zZ,dl,aSi,cDs,i1,i2,aK,dn,cDr,w2,sl,e213,dm]
    have lp:=lp (k+8) (k+9);generalize k+9=M at lp⊢;have lp':∀(kr:Value→H→Option (Value×H)) (kx),aAw (aA prog 2 Q M) M kr kx M (.int .i64 1) (.int .i64 1) (str PM) (str [a,b]) h=kr (.int .i64 (-1)) h:=lp;simp only[aLp,bDe,l2,WzO.S,w1,lp']
   ·obtain⟨l3,l4⟩:=aIe (c:=c) (by omega);obtain⟨n,hn⟩:∃n,n=(enc c).length:=⟨_,rfl⟩;have ln:A.zC (str (enc c))=some (.int .i64 (n:Int)):=by rw[hn];exact qJ _
    have w1:A.zA prog .sub 3 (.int .i64 (n:Int)) (.int .i64 1)=some (.int .i64 ((n-1:Nat):Int)):=by
     rw[bP,aS (by omega) (by omega)];congr 2;omega
    have dl:decide (((n-1:Nat):Int)<2)=false:=kD (by omega);have lp:∀(m L:Nat) (C:CF) (kr:Value→H→Option (Value×H)) (kx),aAw C L kr kx (m+1) (.int .i64 ((n-1:Nat):Int)) (.int .i64 ((n-1:Nat):Int)) (str PM) (str (enc c)) h=kx h:=by
     intro m L C kr kx;simp only[aAw,aUt,lPM,WzO.S,zZ,dl]
    have lp:=lp (k+8) (k+9) (aA prog 2 Q (k+9));generalize k+9=M at lp⊢;have lp':∀(kr:Value→H→Option (Value×H)) (kx),aAw (aA prog 2 Q M) M kr kx M (.int .i64 ((n-1:Nat):Int)) (.int .i64 ((n-1:Nat):Int)) (str PM) (str (enc c)) h=kx h:=lp;simp only[aLp,bDe,ln,WzO.S,w1,lp',cDo]
end
end Go.Proofs.YtohapjojkjjflaaGreatDoor.Wz

set_option maxRecDepth 100000
namespace Go.Proofs.YtohapjojkjjflaaGreatDoor.Wz
open Tryz (prog)
open Go Go.AM WzA
theorem aOp (s:ByteArray)(pos:Nat):(Utf8.decode s pos).1≤1114111:=by
 have hb:∀k,(s.get! (pos+k)).toNat<256:=fun k=>(s.get! (pos+k)).toNat_lt;have h0:=hb 0;have h1:=hb 1;have h2:=hb 2;have h3:=hb 3;simp only[Utf8.decode]
 repeat' split
 all_goals simp_all [Utf8.runeError,Utf8.valid]
 all_goals omega
theorem aOo (s:ByteArray)(pos:Nat):1≤(Utf8.decode s pos).2:=by
 simp only[Utf8.decode]
 repeat' split
 all_goals simp
theorem aCn {s:ByteArray}{pos c w:Nat}(e:A.zL s pos=some (c,w)):pos<s.size∧c≤1114111∧1≤w:=by
 obtain⟨h,d⟩:=oB e;have h1:=aOp s pos;have h2:=aOo s pos;rw[d]at h1 h2;exact⟨h,h1,h2⟩
theorem sV {s:List UInt8}{pos:Nat}(h:s.length≤pos):A.zL ⟨⟨s⟩⟩ pos=none:=by
 unfold A.zL;rw[show(⟨⟨s⟩⟩:ByteArray).data.toList[pos]?=none from List.getElem?_eq_none_iff.2 h]
section
variable {Q:Orc}(kb:KnA Q){h:H}
include kb
theorem cKh (k:Nat)(n:Nat):aA prog 2 Q (k+1) 99 [.int .i64 (n:Int)] h=some (.bool (decide (8<n)),h):=by
 rw[bUc Q k _ h (kb.fr 99 _ (by decide))];have d:decide ((8:Int)<(n:Int))=decide (8<n):=decide_eq_decide.2 (by omega);simp only[F99,bHg,zY,d,WzO.S]
theorem cKg (k:Nat){t:Nat}{b:UInt8}(g:h.get t=some (.cells asciiPM (some 0))):aA prog 2 Q (k+1) 101 [aB t,u8 b] h=some (.bool (pmC b.toNat),h):=by
 rw[bCw Q k _ _ h (kb.fr 101 _ (by decide))];have hb:=b.toNat_lt;have ix:A.yG 256 1 (aB t) (u8 b)=some (.pointer (some ⟨t,0+b.toNat*1,none⟩)):=by
  show(bif Nat.blt b.toNat 256 then _ else none)=_
  rw[blt_iff.2 hb];rfl
 have l:A.load false 1 (.pointer (some ⟨t,0+b.toNat*1,none⟩)) h=some (.bool (pmC b.toNat)):=by
  rw[qK,g,Nat.zero_add,Nat.mul_one];show(asciiPM[b.toNat]?)=_;unfold asciiPM;rw[kX,List.getElem?_range hb];rfl
 simp only[cFi,aNa,WzO.S,ix,l]
theorem bBx (k L:Nat){t:Nat}{s:List UInt8}(hl:s.length≤1000300)(g:h.get t=some (.cells asciiPM (some 0))):
 ∀(d i m:Nat),i+d=s.length→d<m→∃v,aEd (aA prog 2 Q (k+1)) L (fun x4 h=>some (x4,h)) (fun h=>aUw (aA prog 2 Q (k+1)) L h (fun x4 h=>some (x4,h))) m (.int .i64 (i:Int)) (aB t) (str s) h=some (.int .i64 v,h)∧decide ((0:Int)≤v)=(s.drop i).any (fun b=>pmC b.toNat):=by
 intro d
 induction d with
 |zero=>
  intro i m hi hm;obtain⟨m,rfl⟩:∃r,m=r+1:=⟨m-1,by omega⟩;have hd:decide ((i:Int)<(s.length:Int))=false:=by rw[kI];omega
  refine⟨-1,?_,by rw[pL (by omega:s.length≤i)];rfl⟩;simp only[aEd,aPe,qJ,WzO.S,zZ,hd,aUw]
 |succ d ih=>
  intro i m hi hm;obtain⟨m,rfl⟩:∃r,m=r+1:=⟨m-1,by omega⟩;have hd:decide ((i:Int)<(s.length:Int))=true:=by rw[kJ];omega
  obtain⟨b,hb⟩:∃b,s[i]?=some b:=⟨_,kN (by omega)⟩;have ix:=ixS hb;have e163:=cKg kb k g (b:=b);have hwr:IntKind.i64.wrap ((i:Int)+1)=((i+1:Nat):Int):=aI (by omega);rw[aQ hb,List.any_cons]
  cases hp:pmC b.toNat with
  |true=>
   rw[hp]at e163;refine⟨(i:Int),?_,kC (by omega)⟩;simp only[aEd,aPe,qJ,WzO.S,zZ,hd,ix,e163]
  |false=>
   rw[hp]at e163;obtain⟨v,e,hv⟩:=ih (i+1) m (by omega) (by omega);refine⟨v,?_,hv⟩;simp only[aEd,aPe,qJ,WzO.S,zZ,hd,ix,e163,aG,hwr];exact e
theorem bBw (k L:Nat){t:Nat}{s:List UInt8}:
 ∀(d m:Nat) (h:H) (pos:Nat),s.length<pos+d→d<m→h.get t=some (.siter ⟨⟨s⟩⟩ pos)→t<h.next→∃h' v,aAy (aA prog 2 Q (k+10)) L (fun x4 h=>some (x4,h)) (fun h=>aPd (aA prog 2 Q (k+10)) L h (fun x4 h=>some (x4,h))) m (aB t) (str PM) h=some (.int .i64 v,h')∧decide ((0:Int)≤v)=nJ s d pos∧ExtBut (fun i=>i=t) h h':=by
 have b0:A.z 0 (.tuple ⟨[.bool false]⟩)=some (.bool false):=rfl;intro d
 induction d with
 |zero=>
  intro m h pos hi hm g lt;obtain⟨m,rfl⟩:∃r,m=r+1:=⟨m-1,by omega⟩;have e:=gB g (sV (s:=s) (by omega));refine⟨h,-1,?_,rfl,⟨kF _,fun _ _ _=>rfl⟩⟩;simp only[aAy,aJp,e,WzO.S,b0,aPd]
 |succ d ih=>
  intro m h pos hi hm g lt;obtain⟨m,rfl⟩:∃r,m=r+1:=⟨m-1,by omega⟩
  cases hc:A.zL ⟨⟨s⟩⟩ pos with
  |none=>
   have e:=gB g hc;refine⟨h,-1,?_,?_,⟨kF _,fun _ _ _=>rfl⟩⟩
   ·simp only[aAy,aJp,e,WzO.S,b0,aPd]
   ·show _=(match A.zL ⟨⟨s⟩⟩ pos with|none=>false|some (c,w)=>pmC c||nJ s d (pos+w))
    rw[hc];rfl
  |some cw=>
   obtain⟨c,w⟩:=cw;obtain⟨_,hc2,hw⟩:=aCn hc;have e:=iN g hc;obtain⟨h1,hh1⟩:∃h1,h1=h.put t (.siter ⟨⟨s⟩⟩ (pos+w)):=⟨_,rfl⟩;rw[←hh1]at e;have g1:h1.get t=some (.siter ⟨⟨s⟩⟩ (pos+w)):=by rw[hh1,H.get_put,kB rfl]
   have x1:ExtBut (fun i=>i=t) h h1:=by rw[hh1];exact ExtBut.put ⟨kF _,fun _ _ _=>rfl⟩ t _ rfl
   obtain⟨h2,v,e2,hv,x2⟩:=cKi kb (h:=h1) k hc2;have a0:A.z 0 (.tuple ⟨[.bool true,.int .i64 (pos:Int),.int .i32 (c:Int)]⟩)=some (.bool true):=rfl;have a1:A.z 1 (.tuple ⟨[.bool true,.int .i64 (pos:Int),.int .i32 (c:Int)]⟩)=some (.int .i64 (pos:Int)):=rfl;have a2:A.z 2 (.tuple ⟨[.bool true,.int .i64 (pos:Int),.int .i32 (c:Int)]⟩)=some (.int .i32 (c:Int)):=rfl;have hr:nJ s (d+1) pos=(pmC c||nJ s d (pos+w)):=by
    show(match A.zL ⟨⟨s⟩⟩ pos with|none=>false|some (c,w)=>pmC c||nJ s d (pos+w))=_
    rw[hc]
   rw[hr]
   cases hp:pmC c with
   |true=>
    rw[hp]at hv;refine⟨h2,(pos:Int),?_,kC (by omega),x1.trans x2.but⟩;simp only[aAy,aJp,e,WzO.S,a0,a1,a2,e2,bA,hv]
   |false=>
    rw[hp]at hv;have lt1:t<h1.next:=by rw[hh1];exact lt
    obtain⟨h3,v3,e3,hv3,x3⟩:=ih m h2 (pos+w) (by omega) (by omega) (by rw[x2.get _ lt1];exact g1) (kH lt1 x2.next);refine⟨h3,v3,?_,hv3,(x1.trans x2.but).trans x3⟩;simp only[aAy,aJp,e,WzO.S,a0,a1,a2,e2,bA,hv];exact e3
theorem cKj (k:Nat){s:List UInt8}(hl:s.length≤1000300):∃h' v,aA prog 2 Q (k+1000320) 93 [str s,str PM] h=some (.int .i64 v,h')∧decide ((0:Int)≤v)=sD s∧Ext h h':=by
 rw[bUg Q (k+1000319) _ _ h (kb.fr 93 _ (by decide))];have st:A.zA prog .eql 9 (str PM) (.string ⟨⟨[]⟩⟩)=some (.bool false):=by kernel_rfl
 have lPM:A.zC (str PM)=some (.int .i64 2):=rfl;have d2:decide ((2:Int)=1)=false:=rfl;have e161:=cKh kb (h:=h) (k+1000318) s.length;have e161:aA prog 2 Q (k+1000319) 99 [.int .i64 (s.length:Int)] h=_:=e161;unfold sD;by_cases h8:8<s.length
 ·rw[kC h8]at e161;have e162:=qB kb.qa (k+1000318) h;have e162:aA prog 2 Q (k+1000319) 100 [str PM] h=_:=e162;have t0:A.z 0 (.tuple ⟨[.agg ⟨asciiPM⟩,.bool true]⟩)=some (.agg ⟨asciiPM⟩):=rfl;have t1:A.z 1 (.tuple ⟨[.agg ⟨asciiPM⟩,.bool true]⟩)=some (.bool true):=rfl;obtain⟨h1,hh1⟩:∃h1,h1=h.push (.cells WzA.Z126L (some 0)):=⟨_,rfl⟩;have e1:A.zJ 256 WzA.Z126 h=some (aB h.next,h1):=by rw[hh1];rfl
  have g1:h1.get h.next=some (.cells WzA.Z126L (some 0)):=by rw[hh1,H.get_push,kB rfl]
  obtain⟨h2,hh2⟩:∃h2,h2=h1.put h.next (.cells asciiPM (some 0)):=⟨_,rfl⟩;have la:Nat.beq asciiPM.length 256=true:=by kernel_rfl
  have lb:Nat.ble (0+256) WzA.Z126L.length=true:=by kernel_rfl
  have ls:WzA.Z126L.length=256:=by kernel_rfl
  have sp:splice WzA.Z126L 0 asciiPM=asciiPM:=by
   have la':asciiPM.length=256:=by kernel_rfl
   simp only[splice,List.take_zero,List.nil_append,Nat.zero_add];rw[pL (by omega),List.append_nil]
  have e2:A.store 256 (aB h.next) (.agg ⟨asciiPM⟩) h1=some h2:=by
   rw[qU,g1];simp only[qP,la,lb,Bool.and_self,cond_true,sp];rw[hh2]
  have x2:Ext h h2:=by rw[hh2,hh1];exact(Ext.push h _).put _ _ (kF _)
  have g2:h2.get h.next=some (.cells asciiPM (some 0)):=by rw[hh2,H.get_put,kB rfl]
  obtain⟨v,e,hv⟩:=bBx kb (h:=h2) (k+1000318) (k+1000319) hl g2 s.length 0 (k+1000319) (by omega) (by omega);refine⟨h2,v,?_,by rw[kB h8,hv];rfl,x2⟩;obtain⟨M,hM⟩:∃M,M=k+1000319:=⟨_,rfl⟩;rw[←hM]at e161 e162 e⊢;have e:aEd (aA prog 2 Q M) M (fun x4 h=>some (x4,h)) (fun h=>aUw (aA prog 2 Q M) M h (fun x4 h=>some (x4,h))) M (.int .i64 0) (aB h.next) (str s) h2=some (.int .i64 v,h2):=e;simp only[F93,aTg,bDj,st,WzO.S,lPM,zQ,d2,aTd,bDi,qJ,e161,cDy,e162,t0,t1,e1,e2,aYr,cDx];exact e
 ·rw[kD h8]at e161;obtain⟨h1,hh1⟩:∃h1,h1=h.push (.siter ⟨⟨s⟩⟩ 0):=⟨_,rfl⟩;have e1:A.zU (str s) h=some (aB h.next,h1):=by rw[hh1];rfl
  have x1:Ext h h1:=by rw[hh1];exact Ext.push h _
  have g1:h1.get h.next=some (.siter ⟨⟨s⟩⟩ 0):=by rw[hh1,H.get_push,kB rfl]
  obtain⟨h2,v,e,hv,x2⟩:=bBw kb (k+1000309) (k+1000319) (s.length+1) (k+1000319) h1 0 (by omega) (by omega) g1 (by rw[hh1];exact Nat.lt_succ_self _);refine⟨h2,v,?_,by rw[kA h8,hv],⟨kG x1.next x2.next,fun i hi=>by rw[x2.get i (kH hi x1.next) (by omega)];exact x1.get i hi⟩⟩;have e:aAy (aA prog 2 Q (k+1000319)) (k+1000319) (fun x4 h=>some (x4,h)) (fun h=>aPd (aA prog 2 Q (k+1000319)) (k+1000319) h (fun x4 h=>some (x4,h))) (k+1000319) (aB h.next) (str PM) h1=some (.int .i64 v,h2):=e;obtain⟨M,hM⟩:∃M,M=k+1000319:=⟨_,rfl⟩;rw[←hM]at e161 e⊢;simp only[F93,aTg,bDj,st,WzO.S,lPM,zQ,d2,aTd,bDi,qJ,e161,cDz,aYv,cDw,e1];exact e
theorem cFd (k:Nat){s:List UInt8}(hl:s.length≤1000300):∃h',aA prog 2 Q (k+1000321) 89 [str s,str PM] h=some (.bool (sD s),h')∧Ext h h':=by
 rw[bUk Q (k+1000320) _ _ h (kb.fr 89 _ (by decide))];obtain⟨h',v,e,hv,x⟩:=cKj kb (h:=h) k hl;refine⟨h',?_,x⟩;simp only[F89,bHk,e,WzO.S,bA,hv]
end
end Go.Proofs.YtohapjojkjjflaaGreatDoor.Wz

set_option maxRecDepth 100000
namespace Go.Proofs.YtohapjojkjjflaaGreatDoor.Wz
open Tryz (prog)
open Go Go.AM WzA
theorem bBv (a b:Int):A.zX prog .min ⟨[3,3]⟩ 3 [.int .i64 a,.int .i64 b]=some (.int .i64 (if b<a then b else a)):=by
 have e:A.zX prog .min ⟨[3,3]⟩ 3 [.int .i64 a,.int .i64 b]=(match ev prog (Builtin.min2 (Value.int IntKind.i64 a) (Value.int IntKind.i64 b))with
  |some v=>bif aR v then some v else none
  |none=>none):=by simp[A.zX,Builtin.min_,fD,aR];rfl
 rw[e];rfl
theorem slT {l:List UInt8}{m:Nat}(h:m≤l.length):A.zE (str l) none (some (.int .i64 (m:Int)))=some (str (l.take m)):=by
 show(match(bif Nat.ble m l.length then some (some m)else none)with|none=>none|some h=>match A.zM (h.getD l.length) none with|none=>none|some q=>some (Value.string ⟨⟨(l.drop (q.getD 0)).take (h.getD l.length-q.getD 0)⟩⟩))=_
 rw[show Nat.ble m l.length=true from ble_iff.2 h];rfl
theorem aJf:∀{l:List UInt8} {c:UInt8},0≤Lib.indexByte l c→∃m:Nat,Lib.indexByte l c=(m:Int)∧m<l.length
 |[],c,h=>by simp[Lib.indexByte]at h
 |b::l,c,h=>by
  unfold Lib.indexByte at h⊢;by_cases hb:(b==c)=true
  ·rw[kB hb];exact⟨0,rfl,by simp⟩
  ·rw[kA hb]at h⊢;by_cases hn:(Lib.indexByte l c== -1)=true
   ·rw[kB hn]at h;exact absurd h (by decide)
   ·rw[kA hn]at h⊢;have hge:=Lib.indexByte_ge l c;have hne:Lib.indexByte l c≠ -1:=fun e=>hn (by rw[e];rfl);obtain⟨m,hm,hlt⟩:=aJf (l:=l) (c:=c) (by omega);exact⟨m+1,by rw[hm];omega,by rw[kM];omega⟩
theorem aHr (n:Nat):∀s,(jY n s).length≤n+1:=by
 induction n with
 |zero=>intro s;exact kF _
 |succ n ih=>
  intro s;unfold jY;split
  ·simp
  ·rw[kM];exact Nat.succ_le_succ (ih _)
theorem xY {B:Nat}(n:Nat):∀s:List UInt8,s.length≤B→∀x∈jY n s,x.length≤B:=by
 induction n with
 |zero=>intro s hs x hx;rw[List.mem_singleton.1 hx];exact hs
 |succ n ih=>
  intro s hs x hx;unfold jY at hx;split at hx
  ·rw[List.mem_singleton.1 hx];exact hs
  ·rcases List.mem_cons.1 hx with rfl|hx
   ·rw[kT];omega
   ·exact ih _ (by rw[kU];omega) x hx
section
variable {Q:Orc}(kb:KnA Q){h:H}
include kb
theorem cKa (k:Nat)(s:List UInt8):aA prog 2 Q (k+1) 111 [str s,u8 47] h=some (.int .i64 (Lib.countByte s 47:Nat),h):=by
 have hq:Q 111 [str s,u8 47]=none:=kb.fr 111 _ (by decide);have hb:((prog.funcs[111]?).map fun fn=>(fn.body.isNone,tY fn))=some (true,3):=by kernel_rfl
 obtain⟨fn,hf,hfb⟩:∃fn,prog.funcs[111]?=some fn∧(fn.body.isNone,tY fn)=(true,3):=by
  cases hf:prog.funcs[111]? with
  |none=>rw[hf]at hb;cases hb
  |some fn=>rw[hf]at hb;exact⟨fn,rfl,kP hb⟩
 have h1:fn.body=none:=Option.isNone_iff_eq_none.1 (congrArg Prod.fst hfb);have h2:tY fn=3:=congrArg Prod.snd hfb;simp only[aA,hq,hf,h1,h2];have e:(((47:UInt8).toNat:Int).toNat).toUInt8=(47:UInt8):=rfl;show some (Value.int .i64 ((⟨⟨s⟩⟩:ByteArray).foldl (fun(n:Int) x=>if x==(((47:UInt8).toNat:Int).toNat).toUInt8 then n+1 else n) ((0:Nat):Int)),h)=_
 rw[e,Lib.foldl_data,Lib.count_foldl];simp
theorem cJz (k:Nat)(s:List UInt8):aA prog 2 Q (k+3) 112 [str s,str SL] h=some (.int .i64 (Lib.indexByte s 47),h):=by
 rw[bCq Q (k+2) _ _ h (kb.fr 112 _ (by decide))];have ln:A.zC (str SL)=some (.int .i64 1):=rfl;have d0:decide ((1:Int)=0)=false:=rfl;have d1:decide ((1:Int)=1)=true:=rfl;have ix:A.zB (str SL) (.int .i64 0)=some (.int .u8 ((47:Nat):Int)):=rfl;have e251:=cFb kb (h:=h) k s (show 47<256 by omega);have st:=cV SL s;by_cases hs:SL=s
 ·rw[kC hs]at st;subst hs;simp only[bIk,aAj,bGx,ln,WzO.S,aSt,bGw,zQ,d0,st,cCs];rfl
 ·rw[kD hs]at st;simp only[bIk,aAj,bGx,ln,WzO.S,aSt,bGw,zQ,d0,st,cCu,d1,cCt,ix,e251];rfl
theorem cKf (k:Nat)(s:List UInt8):aA prog 2 Q (k+4) 104 [str s,str SL] h=some (.int .i64 (Lib.indexByte s 47),h):=by
 rw[bCu Q (k+3) _ _ h (kb.fr 104 _ (by decide))];simp only[cFg,aMz,cJz kb k s,WzO.S]
theorem bUb (k:Nat)(s:List UInt8):aA prog 2 Q (k+2) 103 [str s,str SL] h=some (.int .i64 (Lib.countByte s 47:Nat),h):=by
 rw[bCv Q (k+1) _ _ h (kb.fr 103 _ (by decide))];have ln:A.zC (str SL)=some (.int .i64 1):=rfl;have d0:decide ((1:Int)=0)=false:=rfl;have d1:decide ((1:Int)=1)=true:=rfl;have ix:A.zB (str SL) (.int .i64 0)=some (u8 47):=rfl;simp only[cFh,aFj,cDa,ln,WzO.S,zQ,d0,d1,ix,cKa kb k s];rfl
theorem bJn (k L:Nat){β:Type}(kx:Value→Value→Value→H→Option β){N r:Nat}(hN:N≤1000300):
 ∀(d m:Nat) (h:H) (s:List UInt8) (pre:List (List UInt8)) (cs:List Value),pre.length+d=N→d<m→s.length≤1000300→h.get r=some (.cells cs (some 1))→cs.length=N+1→cs.take pre.length=pre.map str→r<h.next→
  ∃h' ps last cs',aAx (aA prog 2 Q (k+4)) L kx m (.int .i64 (N:Int)) (str SL) (.int .i64 0) (str s) (.slice (some ⟨r,0,none⟩) (N+1) (2*(N+1)+1)) (.int .i64 (pre.length:Int)) h=kx (str last) (.slice (some ⟨r,0,none⟩) (N+1) (2*(N+1)+1)) (.int .i64 (ps.length:Int)) h'∧
   pre++jY d s=ps++[last]∧ps.length≤N∧h'.get r=some (.cells cs' (some 1))∧cs'.length=N+1∧cs'.take ps.length=ps.map str∧ExtBut (fun i=>i=r) h h':=by
 intro d
 induction d with
 |zero=>
  intro m h s pre cs hi hm hs g hl ht lt;obtain⟨m,rfl⟩:∃r,m=r+1:=⟨m-1,by omega⟩;have hd:decide ((pre.length:Int)<(N:Int))=false:=by rw[kI];omega
  refine⟨h,pre,s,cs,?_,rfl,by omega,g,hl,ht,⟨kF _,fun _ _ _=>rfl⟩⟩;simp only[aAx,aPc,zZ,hd,WzO.S]
 |succ d ih=>
  intro m h s pre cs hi hm hs g hl ht lt;obtain⟨m,rfl⟩:∃r,m=r+1:=⟨m-1,by omega⟩;have hd:decide ((pre.length:Int)<(N:Int))=true:=by rw[kJ];omega
  have e166:=cKf kb (h:=h) k s;by_cases hneg:Lib.indexByte s 47<0
  ·have dn:decide (Lib.indexByte s 47<0)=true:=kC hneg;refine⟨h,pre,s,cs,?_,by unfold jY;rw[kB hneg],by omega,g,hl,ht,⟨kF _,fun _ _ _=>rfl⟩⟩;simp only[aAx,aPc,zZ,hd,WzO.S,e166,dn]
  ·have dn:decide (Lib.indexByte s 47<0)=false:=kD hneg;obtain⟨q,hq,hlt⟩:=aJf (l:=s) (c:=47) (by omega);have w1:IntKind.i64.wrap ((q:Int)+0)=(q:Int):=by rw[aS (by omega) (by omega)];omega
   have w2:IntKind.i64.wrap ((q:Int)+1)=((q+1:Nat):Int):=aI (by omega);have w3:IntKind.i64.wrap ((pre.length:Int)+1)=((pre.length+1:Nat):Int):=aI (by omega);have sl1:=slT (l:=s) (m:=q) (by omega);have sl2:=slS (l:=s) (k:=q+1) (by omega);have ln:A.zC (str SL)=some (.int .i64 1):=rfl;have ix:=lP 1 r 0 (N+1) (2*(N+1)+1) pre.length .i64 (by omega);obtain⟨h1,hh1⟩:∃h1,h1=h.put r (.cells (cs.set pre.length (str (s.take q))) (some 1)):=⟨_,rfl⟩;have e1:A.store 1 (.pointer (some ⟨r,0+pre.length*1,none⟩)) (str (s.take q)) h=some h1:=by
    have c1:aJ (str (s.take q))=some [str (s.take q)]:=rfl;have c2:Nat.beq [str (s.take q)].length 1=true:=rfl;have c3:Nat.ble (0+pre.length*1+1) cs.length=true:=ble_iff.2 (by omega);rw[qU,g,c1];simp only[c2,c3,Bool.and_self,cond_true,fZ (by omega:0+pre.length*1<cs.length)];rw[hh1];simp only[Nat.zero_add,Nat.mul_one]
   have g1:h1.get r=some (.cells (cs.set pre.length (str (s.take q))) (some 1)):=by rw[hh1,H.get_put,kB rfl]
   have x1:ExtBut (fun i=>i=r) h h1:=by rw[hh1];exact ExtBut.put ⟨kF _,fun _ _ _=>rfl⟩ r _ rfl
   have hpl:(pre++[s.take q]).length=pre.length+1:=by simp
   obtain⟨h',ps,last,cs',e,r1,r2,r3,r4,r5,r6⟩:=ih m h1 (s.drop (q+1)) (pre++[s.take q]) (cs.set pre.length (str (s.take q))) (by omega) (by omega) (by rw[kU];omega) g1 (by rw[List.length_set];exact hl) (by
    rw[hpl,List.map_append,←ht];have:pre.length<(cs.set pre.length (str (s.take q))).length:=by rw[List.length_set];omega
    rw[List.take_add_one,List.getElem?_set_self (by omega),List.take_set_of_le (kF _)];rfl) (by rw[hh1];exact lt)
   rw[hpl]at e;refine⟨h',ps,last,cs',?_,?_,r2,r3,r4,r5,x1.trans r6⟩
   ·simp only[aAx,aPc,zZ,hd,WzO.S,e166,dn];rw[hq];simp only[aG,w1,WzO.S,sl1,ix,e1,ln,w2,sl2,w3];exact e
   ·have es:jY (d+1) s=s.take q::jY d (s.drop (q+1)):=by
     show(if Lib.indexByte s 47<0 then[s]else s.take (Lib.indexByte s 47).toNat::jY d (s.drop ((Lib.indexByte s 47).toNat+1)))=_
     rw[kA hneg,hq];rfl
    rw[es,←r1];simp
theorem cKl (k:Nat){s:List UInt8}(hl:s.length≤1000300):∃h' v,aA prog 2 Q (k+1000320) 90 [str s,str SL] h=some (v,h')∧SliceE 1 h' v ((cZ s).map fun x=>[str x])∧Ext h h':=by
 rw[bUj Q (k+1000319) _ _ h (kb.fr 90 _ (by decide))];have hc:Lib.countByte s 47≤s.length:=List.count_le_length;obtain⟨N,hN⟩:∃N,N=(if s.length<Lib.countByte s 47 then s.length else Lib.countByte s 47):=⟨_,rfl⟩
 have hN':N=Lib.countByte s 47:=by rw[hN,kA (by omega)]
 have e133:∃h' v,aA prog 2 Q (k+1000319) 94 [str s,str SL,.int .i64 0,.int .i64 (-1)] h=some (v,h')∧SliceE 1 h' v ((cZ s).map fun x=>[str x])∧Ext h h':=by
  rw[bUf Q (k+1000318) _ _ _ _ h (kb.fr 94 _ (by decide))];have d0:decide ((-1:Int)=0)=false:=rfl;have d1:decide ((-1:Int)<0)=true:=rfl;have st:A.zA prog .eql 9 (str SL) (.string ⟨⟨[]⟩⟩)=some (.bool false):=by kernel_rfl
  have e165:=bUb kb (h:=h) (k+1000316) s;have e165:aA prog 2 Q (k+1000318) 103 [str s,str SL] h=_:=e165;rw[←hN']at e165;have w1:IntKind.i64.wrap ((N:Int)+1)=((N+1:Nat):Int):=aI (by omega);have w2:IntKind.i64.wrap ((s.length:Int)+1)=((s.length+1:Nat):Int):=aI (by omega);have mn:A.zX prog .min ⟨[3,3]⟩ 3 [.int .i64 ((N+1:Nat):Int),.int .i64 ((s.length+1:Nat):Int)]=some (.int .i64 ((N+1:Nat):Int)):=by
   rw[bBv,kA (by omega)]
  obtain⟨h1,hh1⟩:∃h1,h1=h.push (.cells (A.zeros WzA.Z9L (N+1)) (some 1)):=⟨_,rfl⟩;have zl:∀n,(A.zeros WzA.Z9L n).length=n:=fun n=>by
   have hz:WzA.Z9L.length=1:=rfl
   induction n with
   |zero=>rfl
   |succ n ih=>simp only[A.zeros,kL,hz]at ih⊢;omega
  have mk:A.zO 1 16 WzA.Z9L (.int .i64 ((N+1:Nat):Int)) (.int .i64 ((N+1:Nat):Int)) h=some (.slice (some ⟨h.next,0,none⟩) (N+1) (2*(N+1)+1),h1):=by
   have e1:Nat.ble (16*(N+1)) (2^47)=true:=ble_iff.2 (by omega);have e2:Nat.ble (N+1) (2^47)=true:=ble_iff.2 (by omega);show(bif Nat.ble (N+1) (N+1)&&Nat.ble (16*(N+1)) (2^47)&&Nat.ble (N+1) (2^47)then some (Value.slice (some ⟨h.next,0,none⟩) (N+1) (2*(N+1)+1),h.push (.cells (A.zeros WzA.Z9L (N+1)) (some 1)))else none)=_
   rw[e1,e2,←hh1,show Nat.ble (N+1) (N+1)=true from ble_iff.2 (kF _)];rfl
  have x1:Ext h h1:=by rw[hh1];exact Ext.push h _
  have g1:h1.get h.next=some (.cells (A.zeros WzA.Z9L (N+1)) (some 1)):=by rw[hh1,H.get_push,kB rfl]
  have w3:IntKind.i64.wrap (((N+1:Nat):Int)-1)=(N:Int):=by rw[aS (by omega) (by omega)];omega
  obtain⟨h2,ps,last,cs,e,r1,r2,r3,r4,r5,r6⟩:=bJn kb (k+1000314) (k+1000318) (fun x0 x9 x10 h=>aUv (aA prog 2 Q (k+1000318)) (k+1000318) x0 x9 x10 h (fun x8 h=>some (x8,h))) (N:=N) (r:=h.next) (by omega) N (k+1000318) h1 s [] _ (by simp) (by omega) hl g1 (zl _) rfl (by rw[hh1];exact Nat.lt_succ_self _);have ix:=lP 1 h.next 0 (N+1) (2*(N+1)+1) ps.length .i64 (by omega);obtain⟨h3,hh3⟩:∃h3,h3=h2.put h.next (.cells (cs.set ps.length (str last)) (some 1)):=⟨_,rfl⟩;have e3:A.store 1 (.pointer (some ⟨h.next,0+ps.length*1,none⟩)) (str last) h2=some h3:=by
   have c1:aJ (str last)=some [str last]:=rfl;have c2:Nat.beq [str last].length 1=true:=rfl;have c3:Nat.ble (0+ps.length*1+1) cs.length=true:=ble_iff.2 (by omega);rw[qU,r3,c1];simp only[c2,c3,Bool.and_self,cond_true,fZ (by omega:0+ps.length*1<cs.length)];rw[hh3];simp only[Nat.zero_add,Nat.mul_one]
  have g3:h3.get h.next=some (.cells (cs.set ps.length (str last)) (some 1)):=by rw[hh3,H.get_put,kB rfl]
  have w4:IntKind.i64.wrap ((ps.length:Int)+1)=((ps.length+1:Nat):Int):=aI (by omega);have sl:A.zQ 1 (.slice (some ⟨h.next,0,none⟩) (N+1) (2*(N+1)+1)) none (some (.int .i64 ((ps.length+1:Nat):Int))) none h3=some (.slice (some ⟨h.next,0,none⟩) (ps.length+1) (2*(N+1)+1)):=by
   have b1:A.zM ((2*(N+1)+1) / 2) (some (.int .i64 ((ps.length+1:Nat):Int)))=some (some (ps.length+1)):=by
    show(bif Nat.ble (ps.length+1) ((2*(N+1)+1) / 2)then some (some (ps.length+1))else none)=_
    rw[ble_iff.2 (by omega)];rfl
   have b2:Nat.beq ((2*(N+1)+1)%2) 1=true:=by rw[show(2*(N+1)+1)%2=1 by omega];rfl
   show(match A.zM ((2*(N+1)+1) / 2) (some (.int .i64 ((ps.length+1:Nat):Int)))with
    |none=>none
    |some r=>match A.zM (r.getD (N+1)) none with
     |none=>none
     |some l=>bif Nat.beq ((2*(N+1)+1)%2) 1||(none:Option Nat).isSome||Nat.beq (l.getD 0) 0||A.zZ 1 h.next h3 then some (Value.slice (some ⟨h.next,0+l.getD 0*1,none⟩) (r.getD (N+1)-l.getD 0) (2*(N+1)+1-2*l.getD 0))else none)=_
   rw[b1,b2];rfl
  have e:aAx (aA prog 2 Q (k+1000318)) (k+1000318) (fun x0 x9 x10 h=>aUv (aA prog 2 Q (k+1000318)) (k+1000318) x0 x9 x10 h (fun x8 h=>some (x8,h))) (k+1000318) (.int .i64 (N:Int)) (str SL) (.int .i64 0) (str s) (.slice (some ⟨h.next,0,none⟩) (N+1) (2*(N+1)+1)) (.int .i64 0) h1=some (.slice (some ⟨h.next,0,none⟩) (ps.length+1) (2*(N+1)+1),h3):=by
   refine e.trans ?_;simp only[aUv,ix,WzO.S,e3,aG,w4,sl]
  refine⟨h3,.slice (some ⟨h.next,0,none⟩) (ps.length+1) (2*(N+1)+1),?_,⟨?_,.inr ⟨h.next,0,2*(N+1)+1,?_,?_,?_,fun _=>⟨_,_,g3,?_,?_⟩⟩⟩,?_⟩
  ·obtain⟨M,hM⟩:∃M,M=k+1000318:=⟨_,rfl⟩;rw[←hM]at e165 e⊢;simp only[F94,aZt,cDv,zQ,d0,WzO.S,st,zZ,d1,e165,aG,w1,cDu,qJ,w2,mn,mk,bP,w3];exact e
  ·intro x hx;obtain⟨y,_,rfl⟩:=List.mem_map.1 hx;rfl
  ·have hsp:cZ s=ps++[last]:=by rw[←r1];unfold cZ;rw[←hN];rfl
   rw[hsp,pA,kL];rfl
  ·have hsp:cZ s=ps++[last]:=by rw[←r1];unfold cZ;rw[←hN];rfl
   rw[hsp,pA,kL];show ps.length+1≤_;omega
  ·rw[hh3];exact kH (show h.next<h1.next by rw[hh1];exact Nat.lt_succ_self _) r6.next
  ·have hsp:cZ s=ps++[last]:=by rw[←r1];unfold cZ;rw[←hN];rfl
   rw[hsp,pA,kL,List.length_set];show 0+(ps.length+1)*1≤_;omega
  ·have hsp:cZ s=ps++[last]:=by rw[←r1];unfold cZ;rw[←hN];rfl
   have fl:∀l:List (List UInt8),(l.map fun x=>[str x]).flatten=l.map str:=fun l=>by induction l with|nil=>rfl|cons a l ih=>simp[ih]
   rw[hsp,pA,kL,fl,List.map_append,←r5,List.drop_zero];show(cs.set ps.length (str last)).take ((ps.length+1)*1)=_;rw[Nat.mul_one,List.take_add_one,List.getElem?_set_self (by omega),List.take_set_of_le (kF _)];rfl
  ·refine⟨?_,fun i hi=>?_⟩
   ·rw[hh3];exact kG x1.next r6.next
   ·rw[hh3,H.get_put,kA (by omega),r6.get i (kH hi x1.next) (by omega)];exact x1.get i hi
 obtain⟨h',v,e,sl,x⟩:=e133;refine⟨h',v,?_,sl,x⟩;simp only[F90,bHj,e,WzO.S]
end
end Go.Proofs.YtohapjojkjjflaaGreatDoor.Wz

set_option maxRecDepth 100000
namespace Go.Proofs.YtohapjojkjjflaaGreatDoor.Wz
open Tryz (prog)
open Go Go.AM WzA
section
variable {Q:Orc}{B:H}{val:List UInt8→Bool}(kb:KnA Q)(va:VA Q B val){h:H}
include kb va
theorem T78 (k:Nat){s:List UInt8}(hl:s.length≤1000300)(hB:Ext B h):∃h',aA prog 2 Q (k+1000900) 85 [str s] h=some (.bool (nmB val s),h')∧Ext h h':=by
 cases hq:Q 85 [str s]with
 |some v=>exact absurd hq (by rw[kb.fr 85 _ (by decide)];intro c;cases c)
 |none=>
  rw[bUo Q (k+1000899) _ h hq];have ne:=dS s [];have ne:A.zA prog .neq 9 (str s) (.string ⟨⟨[]⟩⟩)=_:=ne;unfold nmB;by_cases hz:s=[]
  ·rw[kC hz]at ne;rw[kB hz];refine⟨h,?_,Ext.refl h⟩;simp only[F85,aTi,ne,WzO.S]
  ·rw[kD hz]at ne;rw[kA hz];obtain⟨h1,e1,x1⟩:=va.va (k+499) h s hB hl;have e1:=(congrArg (fun n=>aA prog 2 Q n 84 [str s] h) (show k+1000899=k+499+1000400 by omega)).trans e1
   cases hv:val s with
   |false=>
    rw[hv]at e1;refine⟨h1,?_,x1⟩;simp only[F85,aTi,ne,WzO.S,e1,pB,if_false]
   |true=>
    rw[hv]at e1;obtain⟨h2,e2,x2⟩:=cFd kb (h:=h1) (k+578) hl;have e2:=(congrArg (fun n=>aA prog 2 Q n 89 [str s,.string ⟨⟨[43,35]⟩⟩] h1) (show k+1000899=k+578+1000321 by omega)).trans e2;refine⟨h2,?_,x1.trans x2⟩;simp only[F85,aTi,ne,WzO.S,e1,e2,if_true]
theorem cGj (k L:Nat){n:Nat}{v:Value}{ps:List (List UInt8)}(hn:n=ps.length)(hps:ps.length≤1000400)(hsm:∀x∈ps,x.length≤1000300):
 ∀(d i m:Nat) (h:H),i+d=n→d<m→SliceE 1 h v (ps.map fun x=>[str x])→
  ∃h',aBa (aA prog 2 Q (k+1000321)) L (fun x2 h=>some (x2,h)) (fun h=>aUz (aA prog 2 Q (k+1000321)) L h (fun x2 h=>some (x2,h))) m (.int .i64 (n:Int)) (.int .i64 (i:Int)) v v h=some (.bool (fiL n i (ps.drop i)),h')∧Ext h h':=by
 have _:=va;intro d
 induction d with
 |zero=>
  intro i m h hi hm sl;obtain⟨m,rfl⟩:∃r,m=r+1:=⟨m-1,by omega⟩;have hd:decide ((i:Int)<(n:Int))=false:=by rw[kI];omega
  refine⟨h,?_,Ext.refl h⟩;rw[pL (by omega:ps.length≤i)];simp only[aBa,aJx,zZ,hd,WzO.S,aUz];rfl
 |succ d ih=>
  intro i m h hi hm sl;obtain⟨m,rfl⟩:∃r,m=r+1:=⟨m-1,by omega⟩;have hd:decide ((i:Int)<(n:Int))=true:=by rw[kJ];omega
  obtain⟨x,hx⟩:∃x,ps[i]?=some x:=⟨_,kN (by omega)⟩;have hxl:=hsm x (List.mem_of_getElem? hx);obtain⟨id,off,cells,own,ix,_,hg,h4,h5,hce⟩:=sl.at (i:=i) (e:=[str x]) (by rw[kX,hx];rfl) .i64;have ld:A.load false 1 (.pointer (some ⟨id,off,none⟩)) h=some (str x):=by
   rw[qK,hg];have:=hce 0 (by omega);exact this
  have hlen:A.zG v=some (.int .i64 (n:Int)):=by have:=sl.len.1;rw[pA]at this;rw[hn];exact this
  have hwr:IntKind.i64.wrap ((i:Int)+1)=((i+1:Nat):Int):=aI (by omega);have w1:IntKind.i64.wrap ((n:Int)-1)=((n-1:Nat):Int):=by rw[aS (by omega) (by omega)];omega
  have s35:=cV x [35];have s35:A.zA prog .eql 9 (str x) (.string ⟨⟨[35]⟩⟩)=_:=s35;have s43:=cV x [43];have s43:A.zA prog .eql 9 (str x) (.string ⟨⟨[43]⟩⟩)=_:=s43;have di:decide ((i:Int)=((n-1:Nat):Int))=decide (i+1=n):=decide_eq_decide.2 (by omega);rw[aQ hx];have st:∀(K:Value→Value→Value→Value→Value→Value→H→Option (Value×H)),aJw (aA prog 2 Q (k+1000321)) L (.int .i64 (i:Int)) (str x) (.int .i64 (i:Int)) (.int .i64 (n:Int)) v v h K=K (.bool (decide ((x=[35]∧i+1=n)∨x=[43]))) (str x) (.int .i64 (i:Int)) (.int .i64 (n:Int)) v v h:=by
   intro K;by_cases c1:x=[35]
   ·rw[kC c1]at s35;by_cases c2:i+1=n
    ·rw[kC c2]at di;simp only[aJw,s35,WzO.S,hlen,bP,w1,zQ,di,kC (show(x=[35]∧i+1=n)∨x=[43]from .inl ⟨c1,c2⟩)]
    ·rw[kD c2]at di;have c3:¬x=[43]:=by rw[c1];decide
     rw[kD c3]at s43;simp only[aJw,s35,WzO.S,hlen,bP,w1,zQ,di,s43,kD (show¬((x=[35]∧i+1=n)∨x=[43])from fun h=>h.elim (fun h=>c2 h.2) c3)]
   ·rw[kD c1]at s35;by_cases c3:x=[43]
    ·rw[kC c3]at s43;simp only[aJw,s35,WzO.S,s43,kC (show(x=[35]∧i+1=n)∨x=[43]from .inr c3)]
    ·rw[kD c3]at s43;simp only[aJw,s35,WzO.S,s43,kD (show¬((x=[35]∧i+1=n)∨x=[43])from fun h=>h.elim (fun h=>c1 h.1) c3)]
  by_cases hc:(x=[35]∧i+1=n)∨x=[43]
  ·rw[kC hc]at st;obtain⟨h',e,y⟩:=ih (i+1) m h (by omega) (by omega) sl;refine⟨h',?_,y⟩;have hr:fiL n i (x::ps.drop (i+1))=fiL n (i+1) (ps.drop (i+1)):=kB hc;rw[hr];simp only[aBa,aJx,zZ,hd,WzO.S,aGw,aVc,ix,ld,st,aVb,aVa,aG,hwr];exact e
  ·rw[kD hc]at st;obtain⟨h1,e1,x1⟩:=cFd kb (h:=h) k hxl;have e1:aA prog 2 Q (k+1000321) 89 [str x,.string ⟨⟨[43,35]⟩⟩] h=_:=e1
   cases hcon:sD x with
   |true=>
    rw[hcon]at e1;refine⟨h1,?_,x1⟩;have hr:fiL n i (x::ps.drop (i+1))=false:=by
     show(if(x=[35]∧i+1=n)∨x=[43]then _ else if sD x then false else _)=false
     rw[kA hc,hcon];rfl
    rw[hr];simp only[aBa,aJx,zZ,hd,WzO.S,aGw,aVc,ix,ld,st,aVb,e1]
   |false=>
    rw[hcon]at e1;obtain⟨h',e,y⟩:=ih (i+1) m h1 (by omega) (by omega) (sl.ext x1);refine⟨h',?_,x1.trans y⟩;have hr:fiL n i (x::ps.drop (i+1))=fiL n (i+1) (ps.drop (i+1)):=by
     show(if(x=[35]∧i+1=n)∨x=[43]then _ else if sD x then false else fiL n (i+1) (ps.drop (i+1)))=_
     rw[kA hc,hcon];rfl
    rw[hr];simp only[aBa,aJx,zZ,hd,WzO.S,aGw,aVc,ix,ld,st,aVb,e1,aVa,aG,hwr];exact e
theorem T79 (k:Nat){s:List UInt8}(hl:s.length≤1000300)(hB:Ext B h):∃h',aA prog 2 Q (k+1000900) 86 [str s] h=some (.bool (fiB val s),h')∧Ext h h':=by
 cases hq:Q 86 [str s]with
 |some v=>exact absurd hq (by rw[kb.fr 86 _ (by decide)];intro c;cases c)
 |none=>
  rw[bUn Q (k+1000899) _ h hq];have st:=cV s [];have st:A.zA prog .eql 9 (str s) (.string ⟨⟨[]⟩⟩)=_:=st;unfold fiB;by_cases hz:s=[]
  ·rw[kC hz]at st;rw[kB hz];refine⟨h,?_,Ext.refl h⟩;simp only[F86,aLu,aVd,st,WzO.S]
  ·rw[kD hz]at st;rw[kA hz];obtain⟨h1,e1,x1⟩:=va.va (k+499) h s hB hl;have e1:=(congrArg (fun n=>aA prog 2 Q n 84 [str s] h) (show k+1000899=k+499+1000400 by omega)).trans e1
   cases hvs:val s with
   |false=>
    rw[hvs]at e1;refine⟨h1,?_,x1⟩;simp only[F86,aLu,aVd,st,WzO.S,e1,pB,if_false]
   |true=>
    rw[hvs]at e1;obtain⟨h2,v,e2,sl,x2⟩:=cKl kb (h:=h1) (k+579) hl;have e2:=(congrArg (fun n=>aA prog 2 Q n 90 [str s,.string ⟨⟨[47]⟩⟩] h1) (show k+1000899=k+579+1000320 by omega)).trans e2;have hps:(cZ s).length≤1000400:=by
     have:=aHr (if s.length<Lib.countByte s 47 then s.length else Lib.countByte s 47) s
     have hc:Lib.countByte s 47≤s.length:=List.count_le_length;unfold cZ;split at this<;>rename_i c<;>simp only[c,if_true,if_false]<;>omega
    have hlen:A.zG v=some (.int .i64 ((cZ s).length:Int)):=by have:=sl.len.1;rw[pA]at this;exact this
    obtain⟨h3,e3,x3⟩:=cGj kb va (k+578) (k+1000899) rfl hps (xY _ s hl) (cZ s).length 0 (k+1000899) h2 (by omega) (by omega) sl;rw[List.drop_zero,show k+578+1000321=k+1000899 by omega]at e3;refine⟨h3,?_,(x1.trans x2).trans x3⟩;rw[kB rfl];have e3:aBa (aA prog 2 Q (k+1000899)) (k+1000899) (fun x2 h=>some (x2,h)) (fun h=>aUz (aA prog 2 Q (k+1000899)) (k+1000899) h (fun x2 h=>some (x2,h))) (k+1000899) (.int .i64 ((cZ s).length:Int)) (.int .i64 0) v v h2=_:=e3;obtain⟨M,hM⟩:∃M,M=k+1000899:=⟨_,rfl⟩;rw[←hM]at e1 e2 e3⊢;simp only[F86,aLu,aVd,st,WzO.S,e1,cEd,e2,aZh,cEc,hlen];exact e3
theorem bIy:OK3 Q B (nmB val) (fiB val):=⟨fun k h s hB hl=>T78 kb va k hl hB,fun k h s hB hl=>T79 kb va k hl hB⟩
end
end Go.Proofs.YtohapjojkjjflaaGreatDoor.Wz

set_option maxRecDepth 100000
namespace Go.Proofs.YtohapjojkjjflaaGreatDoor.Wz
open Tryz (prog)
open Go Go.AM WzA
structure aNi (B:H)(A:List Nat):Prop where
 n4:2≤B.next
 g0:B.get 0=some (.cells (cK Go.Pinned.utf8FirstZ) none)
 g1:B.get 1=some (.cells (cK A) none)
 lA:A.length=32
theorem bCb {c:Nat}(h1:128≤c)(h2:c<256):∃x,Go.Pinned.utf8FirstZ[c]?=some x∧x<256∧(240≤x∨(2≤x%8∧x%8≤4)):=by
 have all:((List.range 256).all fun c=>Nat.blt c 128||(match Go.Pinned.utf8FirstZ[c]? with|some x=>Nat.blt x 256&&(Nat.ble 240 x||(Nat.ble 2 (x%8)&&Nat.ble (x%8) 4))|none=>false))=true:=by kernel_rfl
 have:=List.all_eq_true.1 all c (List.mem_range.2 h2);rw[Bool.or_eq_true,blt_iff]at this;rcases this with h|h
 ·omega
 ·cases e:Go.Pinned.utf8FirstZ[c]? with
  |none=>rw[e]at h;cases h
  |some x=>
   rw[e]at h;simp only[kO,Bool.or_eq_true,blt_iff,ble_iff]at h;exact⟨x,rfl,h.1,h.2⟩
def vZ (k:IntKind)(x y:Int):Int:=k.wrap (BitVec.ofInt k.bits x&&& BitVec.ofInt k.bits y).toNat
def orI (k:IntKind)(x y:Int):Int:=k.wrap (BitVec.ofInt k.bits x|||BitVec.ofInt k.bits y).toNat
def aUq (k:IntKind)(x y:Int):Int:=k.wrap (BitVec.ofInt k.bits x&&& ~~~ BitVec.ofInt k.bits y).toNat
theorem rE (t:TypeId)(k:IntKind)(x y:Int):A.zA prog .and t (.int k x) (.int k y)=some (.int k (vZ k x y)):=dL prog .and t k x y (by simp) (by simp)
theorem uR (t:TypeId)(k:IntKind)(x y:Int):A.zA prog .or t (.int k x) (.int k y)=some (.int k (orI k x y)):=dL prog .or t k x y (by simp) (by simp)
theorem aIs (t:TypeId)(k:IntKind)(x y:Int):A.zA prog .andNot t (.int k x) (.int k y)=some (.int k (aUq k x y)):=dL prog .andNot t k x y (by simp) (by simp)
def tU (n:Nat)(x:Int):Int:=IntKind.i32.wrap (x*2^(min n IntKind.i32.bits))
def bDa (n:Nat)(x:Int):Int:=x.fdiv (2^(min n IntKind.i32.bits))
theorem bDb (x:Int):A.zA prog .shl 21 (.int .i32 x) (.int .u64 6)=some (.int .i32 (tU 6 x)):=rfl
theorem aUj (x:Int):A.zA prog .shl 21 (.int .i32 x) (.int .u64 12)=some (.int .i32 (tU 12 x)):=rfl
theorem bIs (x:Int):A.zA prog .shl 21 (.int .i32 x) (.int .u64 18)=some (.int .i32 (tU 18 x)):=rfl
theorem bIr (x:Int):A.zA prog .shl 21 (.int .i32 x) (.int .u64 31)=some (.int .i32 (tU 31 x)):=rfl
theorem bIq (x:Int):A.zA prog .shr 21 (.int .i32 x) (.int .u64 31)=some (.int .i32 (bDa 31 x)):=rfl
theorem rB (x:Int):A.conv prog 5 21 (.int .u8 x)=some (.int .i32 (IntKind.i32.wrap x)):=by kernel_rfl
theorem cJo {x:Nat}(hx:x<256):A.zA prog .and 5 (.int .u8 (x:Int)) (.int .u8 7)=some (.int .u8 ((x%8:Nat):Int)):=by
 have all:((List.range 256).all fun x=>match A.zA prog .and 5 (.int .u8 (x:Int)) (.int .u8 7)with|some v=>AM.same v (.int .u8 ((x%8:Nat):Int))|none=>false)=true:=by kernel_rfl
 have:=List.all_eq_true.1 all x (List.mem_range.2 hx);split at this
 ·rename_i v hv;rw[hv,same_eq _ _ this]
 ·cases this
section
variable {Q:Orc}{B:H}{A':List Nat}(kb:KnA Q)(bt:aNi B A'){h:H}
include kb bt
theorem cFo (k:Nat){c:UInt8}{t:List UInt8}{z lo hi o:Nat}{h2:H}(hsz:2≤z∧z≤4)(ll:A.load false 1 (.pointer (some ⟨o,0,none⟩)) h2=some (.int .u8 (lo:Int)))(lh:A.load false 1 (.pointer (some ⟨o,1,none⟩)) h2=some (.int .u8 (hi:Int))):
 ∃r n,vV (aA prog 2 Q k) k (.int .i64 ((c::t).length:Int)) (aB o) (.int .i64 (z:Int)) (str (c::t)) (u8 c) h2 (fun x2 x3 h=>some (Value.tuple ⟨[x2,x3]⟩,h))=some (Value.tuple ⟨[.int .i32 r,.int .i64 n]⟩,h2)∧decide ((1:Int)<n)=whG z lo hi t:=by
 have _:=kb;have _:=bt;have lw:(c::t).length=t.length+1:=rfl;unfold whG;by_cases hs:t.length+1<z
 ·have ds:decide (((c::t).length:Int)<(z:Int))=true:=kC (by omega);rw[kB hs];refine⟨65533,1,?_,rfl⟩;simp only[vV,aKv,zZ,ds,WzO.S]
 have ds:decide (((c::t).length:Int)<(z:Int))=false:=kD (by omega);rw[kA hs]
 match t,hs,ds with
 |[],hs,_=>exact absurd (show 0+1<z by omega) hs
 |b::t2,hs,ds=>
  have i1:A.zB (str (c::b::t2)) (.int .i64 1)=some (u8 b):=ixS (i:=1) rfl;by_cases c1:b.toNat<lo
  ·have dc:decide ((b.toNat:Int)<(lo:Int))=true:=kC (by omega);simp only[kB c1];refine⟨65533,1,?_,rfl⟩;simp only[vV,aKv,zZ,ds,WzO.S,i1,WzO.n0,ll,dc]
  have dc:decide ((b.toNat:Int)<(lo:Int))=false:=kD (by omega);by_cases c2:hi<b.toNat
  ·have dd:decide ((hi:Int)<(b.toNat:Int))=true:=kC (by omega);simp only[kA c1,kB c2];refine⟨65533,1,?_,rfl⟩;simp only[vV,aKv,zZ,ds,WzO.S,i1,WzO.n0,ll,dc,lh,dd]
  have dd:decide ((hi:Int)<(b.toNat:Int))=false:=kD (by omega);by_cases z2:z≤2
  ·have dz:decide ((z:Int)≤2)=true:=kC (by omega);simp only[kA c1,kA c2,kB z2];refine⟨(orI .i32 (tU 6 (IntKind.i32.wrap (vZ .u8 (c.toNat:Int) 31))) (IntKind.i32.wrap (vZ .u8 (b.toNat:Int) 63))),2,?_,rfl⟩;simp only[vV,aKv,zZ,ds,WzO.S,i1,WzO.n0,ll,dc,lh,dd,bGz,bK,dz,rE,rB,bDb,uR]
  have dz:decide ((z:Int)≤2)=false:=kD (by omega)
  match t2,hs,ds,i1 with
  |[],hs,_,_=>exact absurd (show 0+1+1<z by omega) hs
  |d::t3,hs,ds,i1=>
   have i2:A.zB (str (c::b::d::t3)) (.int .i64 2)=some (u8 d):=ixS (i:=2) rfl;have hd2:∀(kr:Value→Value→H→Option (Value×H)),vV (aA prog 2 Q k) k (.int .i64 ((c::b::d::t3).length:Int)) (aB o) (.int .i64 (z:Int)) (str (c::b::d::t3)) (u8 c) h2 kr=xQ (aA prog 2 Q k) k (.int .i64 (z:Int)) (str (c::b::d::t3)) (u8 c) (u8 b) (u8 d) h2 kr:=by
    intro kr;simp only[vV,aKv,zZ,ds,WzO.S,i1,WzO.n0,ll,dc,lh,dd,bGz,bK,dz,i2]
   rw[hd2];simp only[kA c1,kA c2,kA z2];by_cases c3:d.toNat<128
   ·have de:decide ((d.toNat:Int)<128)=true:=kC (by omega);simp only[kB c3];refine⟨65533,1,?_,rfl⟩;simp only[xQ,aFw,zZ,de,WzO.S]
   have de:decide ((d.toNat:Int)<128)=false:=kD (by omega);by_cases c4:191<d.toNat
   ·have df:decide ((191:Int)<(d.toNat:Int))=true:=kC (by omega);simp only[kA c3,kB c4];refine⟨65533,1,?_,rfl⟩;simp only[xQ,aFw,zZ,de,WzO.S,df]
   have df:decide ((191:Int)<(d.toNat:Int))=false:=kD (by omega);by_cases z3:z≤3
   ·have dz3:decide ((z:Int)≤3)=true:=kC (by omega);simp only[kA c3,kA c4,kB z3];refine⟨(orI .i32 (orI .i32 (tU 12 (IntKind.i32.wrap (vZ .u8 (c.toNat:Int) 15))) (tU 6 (IntKind.i32.wrap (vZ .u8 (b.toNat:Int) 63)))) (IntKind.i32.wrap (vZ .u8 (d.toNat:Int) 63))),3,?_,rfl⟩;simp only[xQ,aFw,zZ,de,WzO.S,df,aSf,bK,dz3,rE,rB,aUj,bDb,uR]
   have dz3:decide ((z:Int)≤3)=false:=kD (by omega)
   match t3,hs,i2 with
   |[],hs,_=>exact absurd (show 0+1+1+1<z by omega) hs
   |e::t4,hs,i2=>
    have i3:A.zB (str (c::b::d::e::t4)) (.int .i64 3)=some (u8 e):=ixS (i:=3) rfl;simp only[kA c3,kA c4,kA z3];by_cases c5:e.toNat<128
    ·have dh:decide ((e.toNat:Int)<128)=true:=kC (by omega);simp only[kB c5];refine⟨65533,1,?_,rfl⟩;simp only[xQ,aFw,zZ,de,WzO.S,df,aSf,bK,dz3,aYd,i3,dh]
    have dh:decide ((e.toNat:Int)<128)=false:=kD (by omega);by_cases c6:191<e.toNat
    ·have di:decide ((191:Int)<(e.toNat:Int))=true:=kC (by omega);simp only[kA c5,kB c6];refine⟨65533,1,?_,rfl⟩;simp only[xQ,aFw,zZ,de,WzO.S,df,aSf,bK,dz3,aYd,i3,dh,di]
    have di:decide ((191:Int)<(e.toNat:Int))=false:=kD (by omega);simp only[kA c5,kA c6];refine⟨(orI .i32 (orI .i32 (orI .i32 (tU 18 (IntKind.i32.wrap (vZ .u8 (c.toNat:Int) 7))) (tU 12 (IntKind.i32.wrap (vZ .u8 (b.toNat:Int) 63)))) (tU 6 (IntKind.i32.wrap (vZ .u8 (d.toNat:Int) 63)))) (IntKind.i32.wrap (vZ .u8 (e.toNat:Int) 63))),4,?_,rfl⟩;simp only[xQ,aFw,zZ,de,WzO.S,df,aSf,bK,dz3,aYd,i3,dh,di,rE,rB,bIs,aUj,bDb,uR]
theorem cKc (k:Nat){c:UInt8}{t:List UInt8}(hB:Ext B h)(hc:128≤c.toNat)(hl:t.length≤1000300):
 ∃h' r n,aA prog 2 Q (k+1) 105 [str (c::t)] h=some (.tuple ⟨[.int .i32 r,.int .i64 n]⟩,h')∧decide ((1:Int)<n)=whB A' (c::t)∧Ext h h':=by
 rw[bCt Q k _ h (kb.fr 105 _ (by decide))];obtain⟨x,hx,hx256,hx2⟩:=bCb hc c.toNat_lt;have hfn:fO c.toNat=x:=by unfold fO;rw[hx];rfl
 have ln:=qJ (c::t);have d1:decide (((c::t).length:Int)<1)=false:=by rw[kI,kM];omega
 have i0:A.zB (str (c::t)) (.int .i64 0)=some (u8 c):=ixS (i:=0) rfl;have g0:h.get 0=some (.cells (cK Go.Pinned.utf8FirstZ) none):=by rw[hB.get 0 (by have:=bt.n4;omega)];exact bt.g0
 have g1:h.get 1=some (.cells (cK A') none):=by rw[hB.get 1 (by have:=bt.n4;omega)];exact bt.g1
 have ix0:A.yG 256 1 (.pointer (some ⟨0,0,none⟩)) (u8 c)=some (.pointer (some ⟨0,0+c.toNat*1,none⟩)):=by
  show(bif Nat.blt c.toNat 256 then _ else none)=_
  rw[blt_iff.2 c.toNat_lt];rfl
 have l0:A.load false 1 (.pointer (some ⟨0,0+c.toNat*1,none⟩)) h=some (.int .u8 (x:Int)):=by
  rw[qK,g0,Nat.zero_add,Nat.mul_one];show(cK Go.Pinned.utf8FirstZ)[c.toNat]?=_;unfold cK;rw[kX,hx];rfl
 by_cases h240:240≤x
 ·have dg:decide ((240:Int)≤(x:Int))=true:=kC (by omega);have hw:whB A' (c::t)=false:=by
   show(if 240≤fO c.toNat then false else _)=_
   rw[hfn,kB h240]
  refine⟨h,orI .i32 (aUq .i32 (IntKind.i32.wrap (c.toNat:Int)) (bDa 31 (tU 31 (IntKind.i32.wrap (x:Int))))) (vZ .i32 65533 (bDa 31 (tU 31 (IntKind.i32.wrap (x:Int))))),1,?_,by rw[hw];rfl,Ext.refl h⟩;simp only[bIl,uS,bHb,ln,WzO.S,zZ,d1,i0,ix0,l0,bHa,bA,dg,rB,bIr,bIq,aIs,rE,uR]
 have dg:decide ((240:Int)≤(x:Int))=false:=kD (by omega);have hsz:2≤x%8∧x%8≤4:=by rcases hx2 with h|h;exact absurd h h240;exact h
 obtain⟨z,hz⟩:∃z,z=x%8:=⟨_,rfl⟩;obtain⟨q,hq⟩:∃q,q=x / 16:=⟨_,rfl⟩;have hq16:q<16:=by omega
 have a7:=cJo hx256;rw[←hz]at a7 hsz;have cz:=dU z (by omega:z<256);have s4:=(bXh hx256).1;rw[←hq]at s4;have ix1:A.yG 16 2 (.pointer (some ⟨1,0,none⟩)) (.int .u8 (q:Int))=some (.pointer (some ⟨1,0+q*2,none⟩)):=by
  show(bif Nat.blt q 16 then _ else none)=_
  rw[blt_iff.2 hq16];rfl
 obtain⟨lo,hlo⟩:∃lo,A'[2*q]?=some lo:=⟨_,kN (by rw[bt.lA];omega)⟩;obtain⟨hi,hhi⟩:∃hi,A'[2*q+1]?=some hi:=⟨_,kN (by rw[bt.lA];omega)⟩;have l1:A.load true 2 (.pointer (some ⟨1,0+q*2,none⟩)) h=some (.agg ⟨[.int .u8 (lo:Int),.int .u8 (hi:Int)]⟩):=by
  rw[bJ,g1];have bl:(cK A').length=32:=by unfold cK;rw[pA,bt.lA]
  have e1:Nat.ble (0+q*2+2) (cK A').length=true:=ble_iff.2 (by omega);simp only[e1,cond_true];have e2:((cK A').drop (0+q*2)).take 2=[.int .u8 (lo:Int),.int .u8 (hi:Int)]:=by
   have b1:(cK A')[0+q*2]?=some (.int .u8 (lo:Int)):=by unfold cK;rw[kX,show 0+q*2=2*q by omega,hlo];rfl
   have b2:(cK A')[0+q*2+1]?=some (.int .u8 (hi:Int)):=by unfold cK;rw[kX,show 0+q*2+1=2*q+1 by omega,hhi];rfl
   rw[aQ b1,aQ b2];rfl
  rw[e2]
 obtain⟨h1,hh1⟩:∃h1,h1=h.push (.cells WzA.Z135L (some 0)):=⟨_,rfl⟩;have e1:A.zJ 2 WzA.Z135 h=some (aB h.next,h1):=by rw[hh1];rfl
 obtain⟨h2,hh2⟩:∃h2,h2=h1.put h.next (.cells [.int .u8 (lo:Int),.int .u8 (hi:Int)] (some 0)):=⟨_,rfl⟩;have gz:h1.get h.next=some (.cells WzA.Z135L (some 0)):=by rw[hh1,H.get_push,kB rfl]
 have e2:A.store 2 (aB h.next) (.agg ⟨[.int .u8 (lo:Int),.int .u8 (hi:Int)]⟩) h1=some h2:=by
  rw[qU,gz,hh2];rfl
 have x2:Ext h h2:=by rw[hh2];exact(hh1▸Ext.push h _:Ext h h1).put _ _ (kF _)
 have g2:h2.get h.next=some (.cells [.int .u8 (lo:Int),.int .u8 (hi:Int)] (some 0)):=by rw[hh2,H.get_put,kB rfl]
 have ll:A.load false 1 (.pointer (some ⟨h.next,0,none⟩)) h2=some (.int .u8 (lo:Int)):=by rw[qK,g2];rfl
 have lh:A.load false 1 (.pointer (some ⟨h.next,1,none⟩)) h2=some (.int .u8 (hi:Int)):=by rw[qK,g2];rfl
 have wh:whB A' (c::t)=whG z lo hi t:=by
  show(if 240≤fO c.toNat then false else whG (fO c.toNat%8) ((A'[2*(fO c.toNat / 16)]?).getD 0) ((A'[2*(fO c.toNat / 16)+1]?).getD 0) t)=_
  rw[hfn,kA h240,←hz,←hq,hlo,hhi];rfl
 rw[wh];have hd:∀(kr:Value→Value→H→Option (Value×H)),uS (aA prog 2 Q k) k (str (c::t)) h kr=vV (aA prog 2 Q k) k (.int .i64 ((c::t).length:Int)) (aB h.next) (.int .i64 (z:Int)) (str (c::t)) (u8 c) h2 kr:=by
  intro kr;simp only[uS,bHb,ln,WzO.S,zZ,d1,i0,ix0,l0,bHa,bA,dg,a7,cz,s4,ix1,l1,e1,e2]
 simp only[bIl,WzO.S];rw[hd];obtain⟨r,n,e,hn⟩:=cFo kb bt k (t:=t) hsz ll lh;exact⟨h2,r,n,e,hn,x2⟩
end
end Go.Proofs.YtohapjojkjjflaaGreatDoor.Wz

set_option maxRecDepth 100000
namespace Go.Proofs.YtohapjojkjjflaaGreatDoor.Wz
open Tryz (prog)
open Go Go.AM WzA
theorem aNo (T:List Nat):iX T MQTT=true:=by kernel_rfl
theorem aIp {s:List UInt8}{pos w:Nat}(e:A.zL ⟨⟨s⟩⟩ pos=some (65533,w)):∃b,s[pos]?=some b∧128≤b.toNat:=by
 unfold A.zL at e
 cases hb:s[pos]? with
 |none=>
  have hb:(⟨⟨s⟩⟩:ByteArray).data.toList[pos]?=none:=hb;rw[hb]at e;cases e
 |some b=>
  have hb:(⟨⟨s⟩⟩:ByteArray).data.toList[pos]?=some b:=hb;rw[hb]at e;simp only at e;refine⟨b,rfl,?_⟩
  cases hq:Nat.blt b.toNat 128 with
  |true=>
   rw[hq]at e;simp only[cond_true,kE,kK]at e;have:=b.toNat_lt;omega
  |false=>
   have:¬b.toNat<128:=fun h=>by rw[blt_iff.2 h]at hq;cases hq
   omega
section
variable {Q:Orc}{B:H}{A':List Nat}(kb:KnA Q)(bt:aNi B A'){h:H}
include kb bt
theorem cKk (k:Nat){c:UInt8}{t:List UInt8}(hB:Ext B h)(hc:128≤c.toNat)(hl:t.length≤1000300):
 ∃h',aA prog 2 Q (k+3) 92 [str (c::t)] h=some (.bool (whB A' (c::t)),h')∧Ext h h':=by
 rw[bUh Q (k+2) _ h (kb.fr 92 _ (by decide))];obtain⟨h',r,n,e,hn,x⟩:=cKc kb bt (h:=h) k (c:=c) (t:=t) hB hc hl;have e159:aA prog 2 Q (k+2) 97 [str (c::t)] h=some (.tuple ⟨[.int .i32 r,.int .i64 n]⟩,h'):=by
  rw[bUe Q (k+1) _ h (kb.fr 97 _ (by decide))];have ne:=dS (c::t) [];rw[kD (by simp)]at ne;have ne:A.zA prog .neq 9 (str (c::t)) (.string ⟨⟨[]⟩⟩)=some (.bool true):=ne;have i0:A.zB (str (c::t)) (.int .i64 0)=some (u8 c):=ixS (i:=0) rfl;have d:decide ((c.toNat:Int)<128)=false:=kD (by omega);have t0:A.z 0 (.tuple ⟨[.int .i32 r,.int .i64 n]⟩)=some (.int .i32 r):=rfl;have t1:A.z 1 (.tuple ⟨[.int .i32 r,.int .i64 n]⟩)=some (.int .i64 n):=rfl;simp only[F97,bHh,ne,WzO.S,i0,zZ,d,e,t0,t1]
 have t0:A.z 0 (.tuple ⟨[.int .i32 r,.int .i64 n]⟩)=some (.int .i32 r):=rfl;have t1:A.z 1 (.tuple ⟨[.int .i32 r,.int .i64 n]⟩)=some (.int .i64 n):=rfl;refine⟨h',?_,x⟩;simp only[F92,bHi,e159,WzO.S,t0,t1,zY,hn]
theorem bJo (k L:Nat){t:Nat}{s:List UInt8}(hl:s.length≤1000300)(hbt:B.next≤t):
 ∀(d m:Nat) (h:H) (pos x3:Nat),s.length<pos+d→d<m→x3+d≤1001000→h.get t=some (.siter ⟨⟨s⟩⟩ pos)→t<h.next→Ext B h→
  ∃h' v,vS (aA prog 2 Q (k+3)) L (fun x2 h=>some (x2,h)) (fun x3 h=>aPh (aA prog 2 Q (k+3)) L x3 h (fun x2 h=>some (x2,h))) m (aB t) (str s) (.int .i64 (x3:Int)) h=some (.int .i64 v,h')∧decide ((0:Int)≤v)=mF A' s d pos∧ExtBut (fun i=>i=t) h h':=by
 have b0:A.z 0 (.tuple ⟨[.bool false]⟩)=some (.bool false):=rfl;intro d
 induction d with
 |zero=>
  intro m h pos x3 hi hm hx g lt hB;obtain⟨m,rfl⟩:∃r,m=r+1:=⟨m-1,by omega⟩;have e:=gB g (sV (s:=s) (by omega));refine⟨h,(x3:Int),?_,kC (by omega),⟨kF _,fun _ _ _=>rfl⟩⟩;simp only[vS,aDu,e,WzO.S,b0,aPh]
 |succ d ih=>
  intro m h pos x3 hi hm hx g lt hB;obtain⟨m,rfl⟩:∃r,m=r+1:=⟨m-1,by omega⟩
  cases hc:A.zL ⟨⟨s⟩⟩ pos with
  |none=>
   have e:=gB g hc;have hr:mF A' s (d+1) pos=true:=by
    show(match A.zL ⟨⟨s⟩⟩ pos with|none=>true|some (c,w)=>if c=0 then false else if c=65533 then(if whB A' (s.drop pos)then mF A' s d (pos+w)else false)else mF A' s d (pos+w))=_
    rw[hc]
   refine⟨h,(x3:Int),?_,by rw[hr];exact kC (by omega),⟨kF _,fun _ _ _=>rfl⟩⟩;simp only[vS,aDu,e,WzO.S,b0,aPh]
  |some cw=>
   obtain⟨c,w⟩:=cw;obtain⟨_,hc2,hw⟩:=aCn hc;have e:=iN g hc;obtain⟨h1,hh1⟩:∃h1,h1=h.put t (.siter ⟨⟨s⟩⟩ (pos+w)):=⟨_,rfl⟩;rw[←hh1]at e;have g1:h1.get t=some (.siter ⟨⟨s⟩⟩ (pos+w)):=by rw[hh1,H.get_put,kB rfl]
   have x1:ExtBut (fun i=>i=t) h h1:=by rw[hh1];exact ExtBut.put ⟨kF _,fun _ _ _=>rfl⟩ t _ rfl
   have lt1:t<h1.next:=by rw[hh1];exact lt
   have hB1:Ext B h1:=aT hB x1 hbt;have a0:A.z 0 (.tuple ⟨[.bool true,.int .i64 (pos:Int),.int .i32 (c:Int)]⟩)=some (.bool true):=rfl;have a1:A.z 1 (.tuple ⟨[.bool true,.int .i64 (pos:Int),.int .i32 (c:Int)]⟩)=some (.int .i64 (pos:Int)):=rfl;have a2:A.z 2 (.tuple ⟨[.bool true,.int .i64 (pos:Int),.int .i32 (c:Int)]⟩)=some (.int .i32 (c:Int)):=rfl;have hr:mF A' s (d+1) pos=(if c=0 then false else if c=65533 then(if whB A' (s.drop pos)then mF A' s d (pos+w)else false)else mF A' s d (pos+w)):=by
    show(match A.zL ⟨⟨s⟩⟩ pos with|none=>true|some (c,w)=>if c=0 then false else if c=65533 then(if whB A' (s.drop pos)then mF A' s d (pos+w)else false)else mF A' s d (pos+w))=_
    rw[hc]
   rw[hr];have hwr:IntKind.i64.wrap ((x3:Int)+1)=((x3+1:Nat):Int):=aI (by omega);by_cases c0:c=0
   ·have d0:decide ((c:Int)=0)=true:=kC (by omega);rw[kB c0];refine⟨h1,-1,?_,rfl,x1⟩;simp only[vS,aDu,e,WzO.S,a0,aJv,a1,a2,aEr,aPj,zQ,d0,aPi]
   have d0:decide ((c:Int)=0)=false:=kD (by omega);rw[kA c0];by_cases cE:c=65533
   ·have dE:decide ((c:Int)=65533)=true:=kC (by omega);rw[kB cE];obtain⟨b,hb,hb8⟩:=aIp (by rw[cE]at hc;exact hc);have hpl:=(List.getElem?_eq_some_iff.1 hb).1;have sl:=slS (l:=s) (k:=pos) (by omega);rw[aQ hb]at sl;obtain⟨h2,e2,x2⟩:=cKk kb bt (h:=h1) k (c:=b) (t:=s.drop (pos+1)) hB1 hb8 (by rw[kU];omega);rw[aQ hb]
    cases hwh:whB A' (b::s.drop (pos+1))with
    |false=>
     rw[hwh]at e2;refine⟨h2,-1,?_,rfl,x1.trans x2.but⟩;simp only[vS,aDu,e,WzO.S,a0,aJv,a1,a2,aEr,aPj,zQ,d0,dE,sl,e2,aPi]
    |true=>
     rw[hwh]at e2;obtain⟨h3,v,e3,hv,x3'⟩:=ih m h2 (pos+w) (x3+1) (by omega) (by omega) (by omega) (by rw[x2.get _ lt1];exact g1) (kH lt1 x2.next) (hB1.trans x2);refine⟨h3,v,?_,hv,(x1.trans x2.but).trans x3'⟩;simp only[vS,aDu,e,WzO.S,a0,aJv,a1,a2,aEr,aPj,zQ,d0,dE,sl,e2,aPi,aUx,aG,hwr];exact e3
   ·have dE:decide ((c:Int)=65533)=false:=kD (by omega);rw[kA cE];obtain⟨h3,v,e3,hv,x3'⟩:=ih m h1 (pos+w) (x3+1) (by omega) (by omega) (by omega) g1 lt1 hB1;refine⟨h3,v,?_,hv,x1.trans x3'⟩;simp only[vS,aDu,e,WzO.S,a0,aJv,a1,a2,aEr,aPj,zQ,d0,dE,aPi,aUx,aG,hwr];exact e3
theorem T77 (k:Nat){s:List UInt8}(hl:s.length≤1000300)(hB:Ext B h):∃h',aA prog 2 Q (k+1000400) 84 [str s] h=some (.bool (iX A' s),h')∧Ext h h':=by
 cases hq:Q 84 [str s]with
 |some v=>exact absurd hq (by rw[kb.fr 84 _ (by decide)];intro c;cases c)
 |none=>
  rw[bUp Q (k+1000399) _ h hq];have e101:∃h' v,aA prog 2 Q (k+1000399) 88 [str s] h=some (.int .i64 v,h')∧decide ((0:Int)≤v)=iX A' s∧Ext h h':=by
   rw[bUl Q (k+1000398) _ h (kb.fr 88 _ (by decide))];by_cases hlong:65535<s.length
   ·have d:decide ((65535:Int)<(s.length:Int))=true:=kC (by omega);refine⟨h,-1,?_,by unfold iX;rw[kB hlong];rfl,Ext.refl h⟩;simp only[F88,aTh,bDm,qJ,WzO.S,zY,d]
   have d:decide ((65535:Int)<(s.length:Int))=false:=kD (by omega);have hvb:iX A' s=mF A' s (s.length+1) 0:=by unfold iX;exact kA hlong
   rw[hvb];obtain⟨h1,hh1⟩:∃h1,h1=h.push (.siter ⟨⟨s⟩⟩ 0):=⟨_,rfl⟩;have e1:A.zU (str s) h=some (aB h.next,h1):=by rw[hh1];rfl
   have x1:Ext h h1:=by rw[hh1];exact Ext.push h _
   have g1:h1.get h.next=some (.siter ⟨⟨s⟩⟩ 0):=by rw[hh1,H.get_push,kB rfl]
   obtain⟨h2,v,e,hv,x2⟩:=bJo kb bt (k+1000395) (k+1000398) hl hB.next (s.length+1) (k+1000398) h1 0 0 (by omega) (by omega) (by omega) g1 (by rw[hh1];exact Nat.lt_succ_self _) (hB.trans x1);refine⟨h2,v,?_,hv,⟨kG x1.next x2.next,fun i hi=>by rw[x2.get i (kH hi x1.next) (by omega)];exact x1.get i hi⟩⟩;have e:vS (aA prog 2 Q (k+1000398)) (k+1000398) (fun x2 h=>some (x2,h)) (fun x3 h=>aPh (aA prog 2 Q (k+1000398)) (k+1000398) x3 h (fun x2 h=>some (x2,h))) (k+1000398) (aB h.next) (str s) (.int .i64 0) h1=_:=e;obtain⟨M,hM⟩:∃M,M=k+1000398:=⟨_,rfl⟩;rw[←hM]at e⊢;simp only[F88,aTh,bDm,qJ,WzO.S,zY,d,aZi,cEb,e1];exact e
  obtain⟨h',v,e,hv,x⟩:=e101;refine⟨h',?_,x⟩;simp only[F84,bHl,e,WzO.S,bA,hv]
theorem aMt:VA Q B (iX A'):=⟨bt.n4,fun k h s hB hl=>T77 kb bt k hl hB⟩
theorem bUa (k:Nat){l:List UInt8}(hl:l.length≤1000300)(hB:Ext B h):D7 (aA prog 2 Q (k+1001001) 15 [str l] h) h (pO (iX A') (nmB (iX A')) (fiB (iX A')) l):=
 T7 kb (aMt kb bt) (bIt kb (aMt kb bt) (bIy kb (aMt kb bt))) k hl hB
theorem bIp:Vl (iX A') (nmB (iX A')) (fiB (iX A')):=by
 have _:=kb;have _:=bt;refine⟨fun s hs=>?_,fun s hs=>?_,fun s hs=>?_,aNo A'⟩
 ·unfold iX at hs;split at hs
  ·cases hs
  ·omega
 ·unfold nmB at hs;split at hs
  ·cases hs
  ·split at hs
   ·rename_i h;exact h
   ·cases hs
 ·unfold fiB at hs;split at hs
  ·cases hs
  ·split at hs
   ·rename_i h;exact h
   ·cases hs
end
end Go.Proofs.YtohapjojkjjflaaGreatDoor.Wz
