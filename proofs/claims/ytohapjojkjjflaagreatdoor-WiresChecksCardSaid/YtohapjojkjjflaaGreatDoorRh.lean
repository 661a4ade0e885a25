import Derived.Test.YtohapjojkjjflaaGreatDoorWzA
import Derived.Test.YtohapjojkjjflaaGreatDoorRf
import Derived.Test.YtohapjojkjjflaaGreatDoorRg
import Derived.Test.YtohapjojkjjflaaGreatDoorWzB
import Derived.Test.YtohapjojkjjflaaGreatDoorRv
namespace Go.Proofs.YtohapjojkjjflaaGreatDoor.Wz
open Tryz (prog)
open Go Go.AM
abbrev aB (p:Nat):Value:=.pointer (some ⟨p,0,none⟩)
abbrev u8 (b:UInt8):Value:=.int .u8 (b.toNat:Int)
abbrev str (l:List UInt8):Value:=.string ⟨⟨l⟩⟩
abbrev aF:Value:=.slice none 0 0
theorem lV:∀l:List UInt8,A.zP (l.map u8)=some l
 |[]=>rfl
 |b::l=>by
  show(A.zP (l.map u8)).map (fun r=>UInt8.ofNat ((b.toNat:Int).toNat)::r)=_;rw[lV l];simp
theorem qJ (l:List UInt8):A.zC (str l)=some (.int .i64 (l.length:Int)):=rfl
theorem qB {Q:Orc}{f:Nat}{args:List Value}{v:Value}(hq:Q f args=some v)(n:Nat)(h:H):aA prog 2 Q (n+1) f args h=some (v,h):=by
 simp only[aA,hq]
def frL:List Nat:=[3,4,6,7,8,9,10,11,14,15,16,17,18,19,22,23,24,26,27,28,29,30,31,32,33,34,35,36,38,39,40,41,42,43,44,45,46,47,48,49,50,51,53,54,55,57,58,59,60,61,62,63,64,66,67,68,69,70,71,72,73,74,75,76,77,78,79,80,81,82,83,84,85,86,87,88,89,90,91,92,93,94,97,98,99,101,103,104,105,106,107,111,112,113,115]
def asciiPM:List Value:=(List.range 256).map fun c=>Value.bool (pmC c)
structure KnA (Q:Orc):Prop where
 fr:∀f args,f∈frL→Q f args=none
 fq:∀c:Nat,c<256→Q 25 [.int .u8 (c:Int)]=some (.bool (bG c))
 qa:Q 100 [str PM]=some (.tuple ⟨[.agg ⟨asciiPM⟩,.bool true]⟩)
theorem dU (n:Nat)(hn:n<256):A.conv prog 5 3 (.int .u8 (n:Int))=some (.int .i64 (n:Int)):=by
 have u5:prog.underlying 5=some (.int .u8):=Tryz.underlying5;have u3:prog.underlying 3=some (.int .i64):=Tryz.underlying3;simp only[A.conv,u5,u3];rw[aS (by omega) (by omega)]
theorem aJk (n:Nat):A.conv prog 3 5 (.int .i64 (n:Int))=some (.int .u8 ((n%256:Nat):Int)):=by
 have u5:prog.underlying 5=some (.int .u8):=Tryz.underlying5;have u3:prog.underlying 3=some (.int .i64):=Tryz.underlying3;simp only[A.conv,u5,u3];have e:IntKind.u8.wrap (n:Int)=(n:Int)%256:=rfl;rw[e];rfl
theorem aOr (n:Nat)(hn:n<65536):A.conv prog 33 3 (.int .u16 (n:Int))=some (.int .i64 (n:Int)):=by
 have u5:prog.underlying 33=some (.int .u16):=Tryz.underlying33;have u3:prog.underlying 3=some (.int .i64):=Tryz.underlying3;simp only[A.conv,u5,u3];rw[aS (by omega) (by omega)]
theorem iU {n:Nat}(hn:n<65536):A.conv prog 3 33 (.int .i64 (n:Int))=some (.int .u16 (n:Int)):=by
 have u5:prog.underlying 33=some (.int .u16):=Tryz.underlying33;have u3:prog.underlying 3=some (.int .i64):=Tryz.underlying3;simp only[A.conv,u5,u3];have e:IntKind.u16.wrap (n:Int)=(n:Int)%65536:=rfl;rw[e,Int.emod_eq_of_lt (by omega) (by omega)]
theorem bBp {x y:Nat}(hx:x<2^62)(hy:y<2^62):A.zA prog .or 3 (.int .i64 (x:Int)) (.int .i64 (y:Int))=some (.int .i64 ((x|||y:Nat):Int)):=by
 show some (Value.int .i64 (IntKind.i64.wrap ((BitVec.ofInt 64 (x:Int)|||BitVec.ofInt 64 (y:Int)).toNat:Int)))=_;have e:(BitVec.ofInt 64 (x:Int)|||BitVec.ofInt 64 (y:Int)).toNat=x|||y:=by
  rw[BitVec.toNat_or];have f:∀{z:Nat},z<2^62→(BitVec.ofInt 64 (z:Int)).toNat=z:=fun{z} hz=>by
   rw[BitVec.ofInt_natCast,BitVec.toNat_ofNat,Nat.mod_eq_of_lt (by omega)]
  rw[f hx,f hy]
 have l:x|||y<2^62:=Nat.or_lt_two_pow hx hy;rw[e,aS (by omega) (by omega)]
theorem aOc (a b:UInt8):∃x,A.zA prog .shl 3 (.int .i64 (a.toNat:Int)) (.int .u64 8)=some (.int .i64 x)∧A.zA prog .or 3 (.int .i64 x) (.int .i64 (b.toNat:Int))=some (.int .i64 ((256*a.toNat+b.toNat:Nat):Int)):=by
 have ha:=a.toNat_lt;have hb:=b.toNat_lt;have sh:A.zA prog .shl 3 (.int .i64 (a.toNat:Int)) (.int .u64 8)=some (.int .i64 ((256*a.toNat:Nat):Int)):=by
  show some (Value.int .i64 (IntKind.i64.wrap ((a.toNat:Int)*(2^(min (8:Int).toNat IntKind.i64.bits)))))=_;have:(2:Int)^(min (8:Int).toNat IntKind.i64.bits)=256:=by decide
  rw[this,aS (by omega) (by omega)];congr 2;omega
 refine⟨_,sh,?_⟩;rw[bBp (by omega) (by omega)];have:=Nat.two_pow_add_eq_or_of_lt (i:=8) hb a.toNat;rw[show(2:Nat)^8=256 from rfl]at this;rw[this]
structure Buf (h:H)(v:Value)(q cap:Nat)(es:List UInt8):Prop where
 eq:v=.slice (some ⟨q,0,none⟩) es.length (2*cap+1)
 lt:q<h.next
 le:es.length≤cap
 get:∃cs,h.get q=some (.cells cs (some 1))∧cs.length=cap∧cs.take es.length=es.map u8
theorem Buf.but {S:Nat→Prop}{h h':H}{v:Value}{q cap:Nat}{es:List UInt8}(b:Buf h v q cap es)(x:ExtBut S h h')(s:¬S q):Buf h' v q cap es:=by
 obtain⟨cs,hg,r⟩:=b.get;exact⟨b.eq,kH b.lt x.next,b.le,cs,by rw[x.get q b.lt s];exact hg,r⟩
theorem Buf.ext {h h':H}{v:Value}{q cap:Nat}{es:List UInt8}(b:Buf h v q cap es)(x:Ext h h'):Buf h' v q cap es:=b.but (S:=fun _=>False) x.but (fun h=>h)
theorem Buf.make (h:H){z:List Value}(hz:z.length=1)(cap:Nat)(hc:cap≤1000000000000):∃h',A.zO 1 1 z (.int .i64 0) (.int .i64 (cap:Int)) h=some (.slice (some ⟨h.next,0,none⟩) 0 (2*cap+1),h')∧Buf h' (.slice (some ⟨h.next,0,none⟩) 0 (2*cap+1)) h.next cap []∧Ext h h'∧h'.next=h.next+1:=by
 obtain⟨h',hh⟩:∃h',h'=h.push (.cells (A.zeros z cap) (some 1)):=⟨_,rfl⟩;have hl:∀n,(A.zeros z n).length=n:=fun n=>by
  induction n with
  |zero=>rfl
  |succ n ih=>simp only[A.zeros,kL,hz]at ih⊢;omega
 refine⟨h',?_,⟨rfl,by rw[hh];exact Nat.lt_succ_self _,pQ _,_,by rw[hh,H.get_push,kB rfl],hl cap,by simp⟩,by rw[hh];exact Ext.push h _,by rw[hh];rfl⟩;have e1:Nat.ble (1*cap) (2^47)=true:=ble_iff.2 (by omega);have e2:Nat.ble cap (2^47)=true:=ble_iff.2 (by omega);show(bif Nat.ble 0 cap&&Nat.ble (1*cap) (2^47)&&Nat.ble cap (2^47)then some (Value.slice (some ⟨h.next,0,none⟩) 0 (2*cap+1),h.push (.cells (A.zeros z cap) (some 1)))else none)=_
 rw[e1,e2,←hh,show Nat.ble 0 cap=true from ble_iff.2 (pQ _)];rfl
theorem Buf.app {h:H}{v x:Value}{q cap:Nat}{es new:List UInt8}(b:Buf h v q cap es)(he:A.elems 1 x h=some (new.map u8))(hn:A.zI x=new.length)(hc:es.length+new.length≤cap):
 ∃v' h',A.zK 1 1 v x h=some (v',h')∧Buf h' v' q cap (es++new)∧ExtBut (fun i=>i=q) h h'∧h'.next=h.next:=by
 obtain⟨cs,hg,hl,ht⟩:=b.get;rw[b.eq];by_cases h0:new=[]
 ·subst h0;have:A.zK 1 1 (.slice (some ⟨q,0,none⟩) es.length (2*cap+1)) x h=some (.slice (some ⟨q,0,none⟩) es.length (2*cap+1),h):=by
   simp only[A.zK,he,hn];rfl
  exact⟨_,h,this,by rw[List.append_nil,←b.eq];exact b,⟨kF _,fun _ _ _=>rfl⟩,rfl⟩
 ·have hpos:0<new.length:=List.length_pos_iff.2 h0;have e0:Nat.beq new.length 0=false:=by rw[T.beq_dec,kI];omega
  have e1:Nat.ble (es.length+new.length) ((2*cap+1) / 2)=true:=ble_iff.2 (by omega);have e2:Nat.ble (0+(es.length+new.length)*1) cs.length=true:=ble_iff.2 (by omega);obtain⟨h',hh⟩:∃h',h'=h.put q (.cells (splice cs (0+es.length*1) (new.map u8)) (some 1)):=⟨_,rfl⟩;refine⟨.slice (some ⟨q,0,none⟩) (es++new).length (2*cap+1),h',?_,⟨rfl,by rw[hh];exact b.lt,by rw[kL];exact hc,_,by rw[hh,H.get_put,kB rfl],?_,?_⟩,by rw[hh];exact ExtBut.put ⟨kF _,fun _ _ _=>rfl⟩ q _ rfl,by rw[hh];rfl⟩
  ·simp only[A.zK,he,hn,e0,cond_false,hg,e1,cond_true,e2,kL];rw[←hh]
  ·rw[aY];exact hl;simp only[pA];omega
  ·have hle:es.length≤cs.length:=by omega
   simp only[splice,Nat.zero_add,Nat.mul_one];rw[List.take_append_of_le_length (by simp only[kL,kT,pA];omega),List.map_append,ht];rw[pM (by simp)]
theorem Buf.b2s {h:H}{v:Value}{q cap:Nat}{es:List UInt8}(b:Buf h v q cap es):A.b2s v h=some (str es):=by
 obtain⟨cs,hg,hl,ht⟩:=b.get;have hle:=b.le;have he:A.elems 1 v h=some (es.map u8):=by
  rw[b.eq];simp only[A.elems];by_cases h0:es.length=0
  ·have:es=[]:=List.length_eq_zero_iff.1 h0;subst this;rfl
  ·rw[show Nat.beq es.length 0=false by rw[T.beq_dec,kI];exact h0];simp only[cond_false,hg];rw[show Nat.ble (0+es.length*1) cs.length=true from ble_iff.2 (by omega)];simp only[cond_true,List.drop_zero,Nat.mul_one,ht]
 rw[b.eq]at he⊢;simp only[A.b2s,he,lV];rfl
theorem cGv (h:H){z:List Value}(hz:z.length=1)(a b:Int)(a' b':UInt8)(ha:a=(a'.toNat:Int))(hb:b=(b'.toNat:Int)):
 ∃h',A.zD 1 2 z [(0,1,.int .u8 a),(1,1,.int .u8 b)] h=some (.slice (some ⟨h.next,0,none⟩) 2 5,h')∧A.elems 1 (.slice (some ⟨h.next,0,none⟩) 2 5) h'=some ([a',b'].map u8)∧Ext h h'∧h'.next=h.next+1:=by
 subst ha;subst hb;obtain⟨h',hh⟩:∃h',h'=h.push (.cells [u8 a',u8 b'] (some 1)):=⟨_,rfl⟩;have hg:h'.get h.next=some (.cells [u8 a',u8 b'] (some 1)):=by rw[hh,H.get_push,kB rfl]
 refine⟨h',?_,?_,by rw[hh];exact Ext.push h _,by rw[hh];rfl⟩
 ·match z,hz with
  |[z0],_=>rw[hh];rfl
 ·simp only[A.elems,hg];rfl
theorem nG {a b:List UInt8}(h:a.length+b.length≤1000000000000):A.zA prog .add 9 (str a) (str b)=some (str (a++b)):=by
 have e:A.zA prog .add 9 (str a) (str b)=(bif Nat.ble (a.length+b.length) 9223372036854775807 then some (str (a++b))else none):=by rfl
 rw[e,show Nat.ble (a.length+b.length) 9223372036854775807=true from ble_iff.2 (by omega)];rfl
theorem bXj {a c:Nat}(ha:a<1000000000000)(hc:0<c):A.zA prog .quo 3 (.int .i64 (a:Int)) (.int .i64 (c:Int))=some (.int .i64 ((a / c:Nat):Int)):=by
 rw[uM prog 3 .i64 _ _ (by omega)];have e:(a:Int).tdiv (c:Int)=((a / c:Nat):Int):=by rw[Int.tdiv_eq_ediv_of_nonneg (by omega)];rfl
 obtain⟨z,hz⟩:∃z,z=a / c:=⟨_,rfl⟩;have hle:z≤a:=hz▸Nat.div_le_self a c;rw[e,←hz,aS (by omega) (by omega)]
theorem bDc {a c:Nat}(hc:0<c):A.zA prog .rem 3 (.int .i64 (a:Int)) (.int .i64 (c:Int))=some (.int .i64 ((a%c:Nat):Int)):=by
 rw[rD prog 3 .i64 _ _ (by omega)];rw[Int.tmod_eq_emod_of_nonneg (by omega)];rfl
theorem dne {k:Nat}{c:Int}(h:(k:Int)≠c):decide ((k:Int)=c)=false:=kD h
theorem deq {k:Nat}{c:Int}(h:(k:Int)=c):decide ((k:Int)=c)=true:=kC h
theorem sM {n:Nat}(hn:n<256):(n:Int)=((UInt8.ofNat n).toNat:Int):=by rw[UInt8.toNat_ofNat',Nat.mod_eq_of_lt hn]
def sbC (s:Sb):List Value:=[str s.1,.int .u8 (s.2:Int)]
def Pq.cells (p:Pq)(w:Value):List Value:=[.int .u8 (p.kind:Int),.bool p.dup,.int .u8 (p.qos:Int),.bool p.retain,.int .u16 (p.id:Int),str p.topic,str p.payload,.int .u8 (p.level:Int),.bool p.clean,.int .u16 (p.keep:Int),str p.client,.bool p.will,str p.wt,str p.wp,.int .u8 (p.wq:Int),.bool p.wr,.bool p.hu,.bool p.hp,str p.user,str p.pass,.bool p.present,.int .u8 (p.code:Int),w,str p.codes]
def BQ (h:H)(t:Nat)(p:Pq)(w:Value):Prop:=h.get t=some (.cells (p.cells w) (some 0))∧t<h.next
theorem BQ.ld {h:H}{t:Nat}{p:Pq}{w:Value}(b:BQ h t p w){i:Nat}{v:Value}(hv:(p.cells w)[i]?=some v):A.load false 1 (.pointer (some ⟨t,i,none⟩)) h=some v:=by
 rw[qK,b.1];exact hv
theorem BQ.all {h:H}{t:Nat}{p:Pq}{w:Value}(b:BQ h t p w):A.load true 24 (aB t) h=some (.agg ⟨p.cells w⟩):=by
 rw[bJ,b.1];rfl
theorem BQ.but {S:Nat→Prop}{h h':H}{t:Nat}{p:Pq}{w:Value}(b:BQ h t p w)(x:ExtBut S h h')(s:¬S t):BQ h' t p w:=⟨by rw[x.get t b.2 s];exact b.1,kH b.2 x.next⟩
theorem BQ.ext {h h':H}{t:Nat}{p:Pq}{w:Value}(b:BQ h t p w)(x:Ext h h'):BQ h' t p w:=b.but (S:=fun _=>False) x.but (fun h=>h)
theorem cB (p:Pq){w:Value}(hw:aJ w=some [w])(h:H):∃h',A.zJ 24 (.agg ⟨p.cells w⟩) h=some (aB h.next,h')∧BQ h' h.next p w∧Ext h h'∧h'.next=h.next+1:=by
 obtain⟨h',hh⟩:∃h',h'=h.push (.cells (p.cells w) (some 0)):=⟨_,rfl⟩;refine⟨h',?_,⟨by rw[hh,H.get_push,kB rfl],by rw[hh];exact Nat.lt_succ_self _⟩,by rw[hh];exact Ext.push h _,by rw[hh];rfl⟩;rw[aJm,hh];rfl
theorem aHg {v:Value}(hv:AM.same v v=true):chk (some v) v=true:=hv
theorem aBt (n:Int):chk (some (.int .u8 n)) (.int .u8 n)=true:=aHg (by simp[AM.same])
theorem aUm (b:Bool):chk (some (.bool b)) (.bool b)=true:=aHg (by cases b<;>rfl)
theorem aNe (l:List UInt8):chk (some (str l)) (str l)=true:=aHg (by simp[AM.same])
theorem aOw (n:Int):chk (some (.int .u16 n)) (.int .u16 n)=true:=aHg (by simp[AM.same])
theorem aQ {α:Type}{l:List α}{i:Nat}{x:α}(hx:l[i]?=some x):l.drop i=x::l.drop (i+1):=by
 obtain⟨hi,rfl⟩:=List.getElem?_eq_some_iff.1 hx;exact List.drop_eq_getElem_cons hi
theorem uH {h:H}{id off n:Nat}{cells e:List Value}{own:Option Nat}(e3:h.get id=some (.cells cells own))(e4:off+n≤cells.length)(e5:(cells.drop off).take n=e):A.load true n (.pointer (some ⟨id,off,none⟩)) h=some (.agg ⟨e⟩):=by
 rw[bJ,e3];have:Nat.ble (off+n) cells.length=true:=by rw[aOy,kJ];exact e4
 simp only[this,cond_true,e5]
end Go.Proofs.YtohapjojkjjflaaGreatDoor.Wz

namespace Go.Proofs.YtohapjojkjjflaaGreatDoor.Wz
open Tryz (prog)
open Go Go.AM WzA
theorem ixS {l:List UInt8}{i:Nat}{b:UInt8}(h:l[i]?=some b):A.zB (str l) (.int .i64 (i:Int))=some (u8 b):=by
 show(match l[i]? with|some b=>some (Value.int .u8 b.toNat)|none=>none)=_
 rw[h]
theorem slS {l:List UInt8}{k:Nat}(h:k≤l.length):A.zE (str l) (some (.int .i64 (k:Int))) none=some (str (l.drop k)):=by
 show(match(bif Nat.ble k l.length then some (some k)else none)with|none=>none|some a=>some (Value.string ⟨⟨(l.drop (a.getD 0)).take (l.length-a.getD 0)⟩⟩))=_
 rw[show Nat.ble k l.length=true from ble_iff.2 h];simp only[cond_true,pC];rw[pM (by rw[kU];exact kF _)]
theorem aUs {l:List UInt8}{a b:Nat}(h:a≤b)(hb:b≤l.length):A.zE (str l) (some (.int .i64 (a:Int))) (some (.int .i64 (b:Int)))=some (str ((l.drop a).take (b-a))):=by
 show(match(bif Nat.ble b l.length then some (some b)else none)with|none=>none|some h=>match A.zM (h.getD l.length) (some (.int .i64 (a:Int)))with|none=>none|some q=>some (Value.string ⟨⟨(l.drop (q.getD 0)).take (h.getD l.length-q.getD 0)⟩⟩))=_
 rw[show Nat.ble b l.length=true from ble_iff.2 hb];simp only[cond_true,pC];show(match(bif Nat.ble a b then some (some a)else none)with|none=>none|some q=>some (Value.string ⟨⟨(l.drop (q.getD 0)).take (b-q.getD 0)⟩⟩))=_
 rw[show Nat.ble a b=true from ble_iff.2 h];simp only[cond_true,pC]
section
variable {Q:Orc}(ka:KnA Q){h:H}
include ka
theorem T54 (k:Nat)(l:List UInt8)(hl:l.length≤1001000):aA prog 2 Q (k+1) 69 [str l] h=some (match wrd l with|some n=>.tuple ⟨[.int .i64 (n:Int),.int .i64 2,.int .i64 0]⟩|none=>.tuple ⟨[.int .i64 0,.int .i64 0,.int .i64 2]⟩,h):=by
 rw[bVe Q k _ h (ka.fr 69 _ (by decide))]
 match l,hl with
 |[],_=>
  have d:decide ((([]:List UInt8).length:Int)<2)=true:=rfl;simp only[F69,aTo,qJ,WzO.S,zZ,d];rfl
 |[a],_=>
  have d:decide (([a].length:Int)<2)=true:=rfl;simp only[F69,aTo,qJ,WzO.S,zZ,d];rfl
 |a::b::r,hl=>
  have d:decide (((a::b::r).length:Int)<2)=false:=by rw[kI];simp only[kM];omega
  have i0:A.zB (str (a::b::r)) (.int .i64 0)=some (u8 a):=ixS (i:=0) rfl;have i1:A.zB (str (a::b::r)) (.int .i64 1)=some (u8 b):=ixS (i:=1) rfl;have ca:=dU a.toNat a.toNat_lt;have cb:=dU b.toNat b.toNat_lt;obtain⟨x,s1,s2⟩:=aOc a b;simp only[F69,aTo,qJ,WzO.S,zZ,d,i0,ca,s1,i1,cb,s2];rfl
theorem T76 (k:Nat)(l:List UInt8)(hl:l.length≤1001000):aA prog 2 Q (k+2) 83 [str l] h=some (match getD l with|some (d,u)=>.tuple ⟨[str d,.int .i64 (u:Int),.int .i64 0]⟩|none=>.tuple ⟨[str [],.int .i64 0,.int .i64 2]⟩,h):=by
 rw[bUq Q (k+1) _ h (ka.fr 83 _ (by decide))];have e54:=T54 ka (h:=h) k l hl
 cases hw:wrd l with
 |none=>
  rw[hw]at e54;have hg:getD l=none:=by unfold getD;rw[hw]
  rw[hg];have t0:A.z 0 (.tuple ⟨[.int .i64 0,.int .i64 0,.int .i64 2]⟩)=some (.int .i64 0):=rfl;have t1:A.z 1 (.tuple ⟨[.int .i64 0,.int .i64 0,.int .i64 2]⟩)=some (.int .i64 0):=rfl;have t2:A.z 2 (.tuple ⟨[.int .i64 0,.int .i64 0,.int .i64 2]⟩)=some (.int .i64 2):=rfl;have d:(!decide ((2:Int)=0))=true:=rfl;simp only[F83,aTj,e54,WzO.S,t0,t1,t2,aK,d]
 |some n=>
  rw[hw]at e54;have h2:2≤l.length:=by
   match l,hw with
   |a::b::r,_=>simp only[kM];omega
  have hn:n<65536:=by
   match l,hw with
   |a::b::r,hw=>
    simp only[wrd,kE]at hw;have:=a.toNat_lt;have:=b.toNat_lt;omega
  have t0:A.z 0 (.tuple ⟨[.int .i64 (n:Int),.int .i64 2,.int .i64 0]⟩)=some (.int .i64 (n:Int)):=rfl;have t1:A.z 1 (.tuple ⟨[.int .i64 (n:Int),.int .i64 2,.int .i64 0]⟩)=some (.int .i64 2):=rfl;have t2:A.z 2 (.tuple ⟨[.int .i64 (n:Int),.int .i64 2,.int .i64 0]⟩)=some (.int .i64 0):=rfl;have d:A.zA prog .neq 45 (.int .i64 0) (.int .i64 0)=some (.bool false):=by rw[aK];rfl
  have w1:IntKind.i64.wrap ((l.length:Int)-2)=((l.length-2:Nat):Int):=by rw[aS (by omega) (by omega)];omega
  by_cases hle:n≤l.length-2
  ·have hg:getD l=some ((l.drop 2).take n,2+n):=by unfold getD;rw[hw];exact kB hle
   rw[hg];have d2:decide (((l.length-2:Nat):Int)<(n:Int))=false:=by rw[kI];omega
   have w2:IntKind.i64.wrap ((2:Int)+(n:Int))=((2+n:Nat):Int):=by rw[aS (by omega) (by omega)];omega
   have sl:A.zE (str l) (some (.int .i64 2)) (some (.int .i64 ((2+n:Nat):Int)))=some (str ((l.drop 2).take (2+n-2))):=aUs (a:=2) (b:=2+n) (by omega) (by omega);have e2:2+n-2=n:=by omega
   rw[e2]at sl;simp only[F83,aTj,e54,WzO.S,t0,t1,t2,d,qJ,bP,w1,zY,d2,aG,w2,sl]
  ·have hg:getD l=none:=by unfold getD;rw[hw];exact kA hle
   rw[hg];have d2:decide (((l.length-2:Nat):Int)<(n:Int))=true:=by rw[kJ];omega
   simp only[F83,aTj,e54,WzO.S,t0,t1,t2,d,qJ,bP,w1,zY,d2]
end
end Go.Proofs.YtohapjojkjjflaaGreatDoor.Wz

namespace Go.Proofs.YtohapjojkjjflaaGreatDoor.Wz
open Tryz (prog)
open Go Go.AM WzA WzB
structure KnB (Q:Orc):Prop extends KnA Q where
 f37:∀c:Nat,c<256→Q 37 [.int .u8 (c:Int)]=some (.bool (bG c))
 f95:∀c:Nat,c<256→Q 95 [.int .u8 (c:Int)]=some (.int .i64 (dA c:Int))
 f96:∀n:Nat,n<5→Q 96 [.int .i64 (n:Int)]=some (.int .i64 (dC n:Int))
 f52:∀n:Nat,n<4→Q 52 [.int .i64 (n:Int)]=some (.int .i64 ((128^n:Nat):Int))
 f56:∀n:Nat,n<256→Q 56 [.int .u8 (n:Int)]=some (str (aN n))
 f65:∀n:Nat,n<256→Q 65 [.int .i64 (n:Int)]=some (str [UInt8.ofNat n])
def CU (h:H)(r:Nat)(l:List UInt8):Prop:=h.get r=some (.cells [str l] (some 0))∧r<h.next
theorem CU.but {S:Nat→Prop}{h h':H}{r:Nat}{l:List UInt8}(s:CU h r l)(x:ExtBut S h h')(n:¬S r):CU h' r l:=⟨by rw[x.get r s.2 n];exact s.1,kH s.2 x.next⟩
theorem CU.ld {h:H}{r:Nat}{l:List UInt8}(s:CU h r l):A.load false 1 (aB r) h=some (str l):=by rw[qK,s.1];rfl
theorem CU.set {h:H}{r:Nat}{l:List UInt8}(s:CU h r l)(l':List UInt8):∃h',A.store 1 (aB r) (str l') h=some h'∧CU h' r l'∧ExtBut (fun j=>j=r) h h':=by
 obtain⟨h',hh⟩:∃h',h'=h.put r (.cells [str l'] (some 0)):=⟨_,rfl⟩;refine⟨h',?_,⟨by rw[hh,H.get_put,kB rfl],by rw[hh];exact s.2⟩,by rw[hh];exact ExtBut.put ⟨kF _,fun _ _ _=>rfl⟩ r _ rfl⟩;rw[qU,s.1,hh];rfl
section
variable {Q:Orc}(kd:KnB Q){h:H}
include kd
theorem U78 (k:Nat)(l:List UInt8):aA prog 2 Q (k+1) 78 [str l] h=some (match wrd l with|some n=>.tuple ⟨[.int .i64 (n:Int),.int .i64 2,.int .i64 0]⟩|none=>.tuple ⟨[.int .i64 0,.int .i64 0,.int .i64 2]⟩,h):=by
 rw[bUv Q k _ h (kd.fr 78 _ (by decide))]
 match l with
 |[]=>rfl
 |[a]=>rfl
 |a::b::r=>
  have ha:=a.toNat_lt;have hb:=b.toNat_lt;have d:decide (((a::b::r).length:Int)<2)=false:=by rw[kI];simp only[kM];omega
  have i0:A.zB (str (a::b::r)) (.int .i64 0)=some (u8 a):=ixS (i:=0) rfl;have i1:A.zB (str (a::b::r)) (.int .i64 1)=some (u8 b):=ixS (i:=1) rfl;have m:IntKind.i64.wrap (256*(a.toNat:Int))=((256*a.toNat:Nat):Int):=by rw[aS (by omega) (by omega)];omega
  have s:IntKind.i64.wrap (((256*a.toNat:Nat):Int)+(b.toNat:Int))=((256*a.toNat+b.toNat:Nat):Int):=by rw[aS (by omega) (by omega)];omega
  simp only[F78,bHo,qJ,WzO.S,zZ,d,i0,i1,dU _ ha,dU _ hb,gV,aG,m,s,wrd]
theorem U77 (k:Nat){l:List UInt8}(hl:l.length≤1001000):aA prog 2 Q (k+2) 77 [str l] h=some (match getD l with|some (d,u)=>.tuple ⟨[str d,.int .i64 (u:Int),.int .i64 0]⟩|none=>.tuple ⟨[str [],.int .i64 0,.int .i64 2]⟩,h):=by
 rw[bUw Q (k+1) _ h (kd.fr 77 _ (by decide))];have e:=U78 kd (h:=h) k l;unfold getD
 cases hw:wrd l with
 |none=>
  rw[hw]at e;simp only[F77,aTm,e,WzO.S];rfl
 |some n=>
  rw[hw]at e;obtain⟨h2,hn⟩:=lM hw;have t0:A.z 0 (.tuple ⟨[.int .i64 (n:Int),.int .i64 2,.int .i64 0]⟩)=some (.int .i64 (n:Int)):=rfl;have t1:A.z 1 (.tuple ⟨[.int .i64 (n:Int),.int .i64 2,.int .i64 0]⟩)=some (.int .i64 2):=rfl;have t2:A.z 2 (.tuple ⟨[.int .i64 (n:Int),.int .i64 2,.int .i64 0]⟩)=some (.int .i64 0):=rfl;have a:IntKind.i64.wrap (2+(n:Int))=((2+n:Nat):Int):=by rw[aS (by omega) (by omega)];omega
  have d0:A.zA prog .neq 3 (.int .i64 0) (.int .i64 0)=some (.bool false):=by rw[aK];rfl
  by_cases c:n≤l.length-2
  ·have d:decide ((l.length:Int)<((2+n:Nat):Int))=false:=by rw[kI];omega
   have sl:A.zE (str l) (some (.int .i64 2)) (some (.int .i64 ((2+n:Nat):Int)))=some (str ((l.drop 2).take n)):=by
    have:=aUs (l:=l) (a:=2) (b:=2+n) (by omega) (by omega);rw[show 2+n-2=n by omega]at this;exact this
   simp only[F77,aTm,e,WzO.S,t0,t1,t2,d0,qJ,aG,a,zZ,d,sl,kB c]
  ·have d:decide ((l.length:Int)<((2+n:Nat):Int))=true:=by rw[kJ];omega
   simp only[F77,aTm,e,WzO.S,t0,t1,t2,d0,qJ,aG,a,zZ,d,kA c]
theorem U55 (k:Nat){l:List UInt8}{r:Nat}(s:CU h r l):∃h',aA prog 2 Q (k+2) 55 [aB r] h=some (.int .i64 ((aX l).1:Int),h')∧CU h' r (aX l).2.1∧ExtBut (fun j=>j=r) h h':=by
 rw[bVq Q (k+1) _ h (kd.fr 55 _ (by decide))];have e:=U78 kd (h:=h) k l;have l0:=s.ld
 cases hw:wrd l with
 |none=>
  rw[hw]at e;have hr:aX l=(0,l,true):=by unfold aX;rw[hw]
  rw[hr];obtain⟨h',st,s',x⟩:=s.set l;have sl:A.zE (str l) (some (.int .i64 0)) none=some (str l):=slS (l:=l) (k:=0) (pQ _);have t0:A.z 0 (.tuple ⟨[.int .i64 0,.int .i64 0,.int .i64 2]⟩)=some (.int .i64 0):=rfl;have t1:A.z 1 (.tuple ⟨[.int .i64 0,.int .i64 0,.int .i64 2]⟩)=some (.int .i64 0):=rfl;have t2:A.z 2 (.tuple ⟨[.int .i64 0,.int .i64 0,.int .i64 2]⟩)=some (.int .i64 2):=rfl;exact⟨h',by simp only[F55,bAa,WzO.S,WzO.n0,l0,e,t0,t1,t2,sl,st];rfl,s',x⟩
 |some n=>
  rw[hw]at e;obtain⟨h2,hn⟩:=lM hw;have hr:aX l=(n,l.drop 2,false):=by unfold aX;rw[hw]
  rw[hr];obtain⟨h',st,s',x⟩:=s.set (l.drop 2);have sl:A.zE (str l) (some (.int .i64 2)) none=some (str (l.drop 2)):=slS (l:=l) (k:=2) h2;have t0:A.z 0 (.tuple ⟨[.int .i64 (n:Int),.int .i64 2,.int .i64 0]⟩)=some (.int .i64 (n:Int)):=rfl;have t1:A.z 1 (.tuple ⟨[.int .i64 (n:Int),.int .i64 2,.int .i64 0]⟩)=some (.int .i64 2):=rfl;have t2:A.z 2 (.tuple ⟨[.int .i64 (n:Int),.int .i64 2,.int .i64 0]⟩)=some (.int .i64 0):=rfl;exact⟨h',by simp only[F55,bAa,WzO.S,WzO.n0,l0,e,t0,t1,t2,sl,st],s',x⟩
theorem U54 (k:Nat){l:List UInt8}{r:Nat}(s:CU h r l):∃h',aA prog 2 Q (k+1) 54 [aB r] h=some (.int .i64 ((bR l).1:Int),h')∧CU h' r (bR l).2.1∧ExtBut (fun j=>j=r) h h':=by
 rw[bVr Q k _ h (kd.fr 54 _ (by decide))];have l0:=s.ld
 cases l with
 |nil=>
  have d:A.zA prog .eql 9 (str []) (str [])=some (.bool true):=by rw[fE];simp
  exact⟨h,by simp only[F54,bAb,WzO.S,WzO.n0,l0,d];rfl,s,⟨kF _,fun _ _ _=>rfl⟩⟩
 |cons b t=>
  obtain⟨h',st,s',x⟩:=s.set t;have d:A.zA prog .eql 9 (str (b::t)) (str [])=some (.bool false):=by
   rw[fE];have:¬(⟨⟨b::t⟩⟩:ByteArray)=⟨⟨[]⟩⟩:=fun e=>by
    have e:b::t=[]:=congrArg (fun b:ByteArray=>b.data.toList) e;cases e
   rw[kD this]
  have i0:A.zB (str (b::t)) (.int .i64 0)=some (u8 b):=ixS (i:=0) rfl;have sl:A.zE (str (b::t)) (some (.int .i64 1)) none=some (str t):=slS (l:=b::t) (k:=1) (by simp);exact⟨h',by simp only[F54,bAb,WzO.S,WzO.n0,l0,d,i0,sl,st,dU _ b.toNat_lt];rfl,s',x⟩
theorem U53 (k:Nat){l:List UInt8}(hl:l.length≤1001000){r:Nat}(s:CU h r l):∃h',aA prog 2 Q (k+3) 53 [aB r] h=some (str (aM l).1,h')∧CU h' r (aM l).2.1∧ExtBut (fun j=>j=r) h h':=by
 rw[bVs Q (k+2) _ h (kd.fr 53 _ (by decide))];have e:=U77 kd (h:=h) k hl;have l0:=s.ld
 cases hg:getD l with
 |none=>
  rw[hg]at e;have hr:aM l=([],l,true):=by unfold aM;rw[hg]
  rw[hr];obtain⟨h',st,s',x⟩:=s.set l;have sl:A.zE (str l) (some (.int .i64 0)) none=some (str l):=slS (l:=l) (k:=0) (pQ _);have t0:A.z 0 (.tuple ⟨[str [],.int .i64 0,.int .i64 2]⟩)=some (str []):=rfl;have t1:A.z 1 (.tuple ⟨[str [],.int .i64 0,.int .i64 2]⟩)=some (.int .i64 0):=rfl;have t2:A.z 2 (.tuple ⟨[str [],.int .i64 0,.int .i64 2]⟩)=some (.int .i64 2):=rfl;exact⟨h',by simp only[F53,bAc,WzO.S,WzO.n0,l0,e,t0,t1,t2,sl,st],s',x⟩
 |some du=>
  obtain⟨d,u⟩:=du;rw[hg]at e;obtain⟨hu,_⟩:=gG hg;have hr:aM l=(d,l.drop u,false):=by unfold aM;rw[hg]
  rw[hr];obtain⟨h',st,s',x⟩:=s.set (l.drop u);have sl:=slS hu;have t0:A.z 0 (.tuple ⟨[str d,.int .i64 (u:Int),.int .i64 0]⟩)=some (str d):=rfl;have t1:A.z 1 (.tuple ⟨[str d,.int .i64 (u:Int),.int .i64 0]⟩)=some (.int .i64 (u:Int)):=rfl;have t2:A.z 2 (.tuple ⟨[str d,.int .i64 (u:Int),.int .i64 0]⟩)=some (.int .i64 0):=rfl;exact⟨h',by simp only[F53,bAc,WzO.S,WzO.n0,l0,e,t0,t1,t2,sl,st],s',x⟩
end
end Go.Proofs.YtohapjojkjjflaaGreatDoor.Wz

set_option maxRecDepth 100000
namespace Go.Proofs.YtohapjojkjjflaaGreatDoor.Wz
open Tryz (prog)
open Go Go.AM WzA WzB
open Go.AM.Pk (K0 K1 K2 K3 K4 K5)
theorem tF {l:List UInt8}{i:Nat}{b:UInt8}{t:List UInt8}(e:l.drop i=b::t):l[i]?=some b∧l.drop (i+1)=t∧i<l.length:=by
 have h1:l[i]?=some b:=by
  have:=congrArg (fun l:List UInt8=>l[0]?) e;simpa using this
 have h2:=aQ h1;rw[e]at h2;exact⟨h1,(List.cons.inj h2).2.symm,(List.getElem?_eq_some_iff.1 h1).1⟩
theorem oU {l:List UInt8}{i:Nat}(e:l.drop i=[]):l.length≤i:=List.drop_eq_nil_iff.1 e
theorem cGu (h:H):∃h',A.zD 1 5 WzB.Z3L [(0,1,.int .i64 0),(1,1,.int .i64 0),(2,1,.int .i64 192),(3,1,.int .i64 224),(4,1,.int .i64 240)] h=some (.slice (some ⟨h.next,0,none⟩) 5 11,h')∧h'.get h.next=some (.cells [.int .i64 0,.int .i64 0,.int .i64 192,.int .i64 224,.int .i64 240] (some 1))∧Ext h h':=by
 obtain⟨h',hh⟩:∃h',h'=h.push (.cells [.int .i64 0,.int .i64 0,.int .i64 192,.int .i64 224,.int .i64 240] (some 1)):=⟨_,rfl⟩;refine⟨h',by rw[hh];rfl,by rw[hh,H.get_push,kB rfl],by rw[hh];exact Ext.push h _⟩
section
variable {Q:Orc}(kd:KnB Q){h:H}
include kd
theorem U61 {n:Nat}{l:List UInt8}(hn:l.length+2≤n)(hl:l.length≤1001000)(c:UInt8):aA prog 2 Q n 61 [str l,u8 c] h=some (.bool (aW l c),h):=by
 obtain⟨n,rfl⟩:∃m,n=m+1:=⟨n-1,by omega⟩;rw[bVl Q n _ _ h (kd.fr 61 _ (by decide))];have lp:∀(C:CF) (L:Nat) (t:List UInt8) (i m:Nat) (β:Type) (kr:K1 β) (kx:K0 β),l.drop i=t→l.length-i<m→
  aGa C L kr kx m (.int .i64 (i:Int)) (u8 c) (str l) h=if aW t c then kr (.bool true) h else kx h:=by
  intro C L t
  induction t with
  |nil=>
   intro i m β kr kx e hm;have:=oU e;obtain⟨m,rfl⟩:∃r,m=r+1:=⟨m-1,by omega⟩;have d:decide ((i:Int)<(l.length:Int))=false:=by rw[kI];omega
   simp only[aGa,aQc,qJ,WzO.S,zZ,d];rfl
  |cons b t ih=>
   intro i m β kr kx e hm;obtain⟨h1,h2,h3⟩:=tF e;obtain⟨m,rfl⟩:∃r,m=r+1:=⟨m-1,by omega⟩;have d:decide ((i:Int)<(l.length:Int))=true:=by rw[kJ];omega
   have ix:=ixS h1;have w:=aI (n:=i) (by omega);have db:decide ((b.toNat:Int)=(c.toNat:Int))=decide (b=c):=decide_eq_decide.2 ⟨fun e=>UInt8.toNat.inj (by omega),fun e=>by rw[e]⟩;have hb:aW (b::t) c=(decide (b=c)||aW t c):=by
    show((b==c)||aW t c)=_;rfl
   rw[hb];by_cases e1:b=c
   ·rw[kC e1]at db⊢;simp only[aGa,aQc,qJ,WzO.S,zZ,d,ix,zQ,db,Bool.true_or,if_true]
   ·rw[kD e1]at db⊢;simp only[aGa,aQc,qJ,WzO.S,zZ,d,ix,zQ,db,aG,w,Bool.false_or];exact ih (i+1) m β kr kx h2 (by omega)
 simp only[F61,aZw,bXt,aYn,bXs,bXr,WzO.S];have:=lp (aA prog 2 Q n) n l 0 n _ (fun x4 h=>some (x4,h)) (fun h=>some (.bool false,h)) rfl (by omega);refine this.trans ?_;cases aW l c<;>rfl
theorem cGi {l:List UInt8}(hl:l.length≤1001000){s:Nat}(C:CF)(L:Nat):∀(d:Nat) (t:List UInt8) (i c m:Nat) (β:Type) (kr kx:K2 β),l.drop i=t→i+d=s→d≤t.length→d<m→(c+2)*64^d<2^60→
 aEe C L kr kx m (.int .i64 (i:Int)) (str l) (.int .i64 (c:Int)) (.int .i64 (s:Int)) h=match fF d t c with|none=>kr (.int .i64 0) (.int .i64 0) h|some c=>kx (.int .i64 (c:Int)) (.int .i64 (s:Int)) h:=by
 have _:=kd;intro d
 induction d with
 |zero=>
  intro t i c m β kr kx e hi ht hm hc;obtain⟨m,rfl⟩:∃r,m=r+1:=⟨m-1,by omega⟩;have d:decide ((i:Int)<(s:Int))=false:=by rw[kI];omega
  simp only[aEe,aJt,zZ,d,WzO.S,fF]
 |succ d ih=>
  intro t i c m β kr kx e hi ht hm hc
  match t,ht with
  |b::t,ht=>
   obtain⟨h1,h2,h3⟩:=tF e;obtain⟨m,rfl⟩:∃r,m=r+1:=⟨m-1,by omega⟩;have ht:d≤t.length:=by simp only[kM]at ht;omega
   have dl:decide ((i:Int)<(s:Int))=true:=by rw[kJ];omega
   have ix:=ixS h1;have hb:=b.toNat_lt;have w:=aI (n:=i) (by omega);have hp:0<64^d:=Nat.pow_pos (by omega);have hc':(c+2)*64*64^d<2^60:=by rw[Nat.pow_succ]at hc;rw[Nat.mul_assoc,Nat.mul_comm 64];exact hc
   have hc2:(c+2)*64<2^60:=Nat.lt_of_le_of_lt (Nat.le_mul_of_pos_right _ hp) hc';simp only[fF];by_cases c1:b.toNat<128
   ·have d1:decide ((b.toNat:Int)<128)=true:=by rw[kJ];omega
    rw[kB (Or.inl c1)];simp only[aEe,aJt,aPf,zZ,dl,d1,ix,WzO.S]
   ·have d1:decide ((b.toNat:Int)<128)=false:=by rw[kI];omega
    by_cases c2:191<b.toNat
    ·have d2:decide ((191:Int)<(b.toNat:Int))=true:=by rw[kJ];omega
     rw[kB (Or.inr c2)];simp only[aEe,aJt,aPf,zZ,zY,dl,d1,d2,ix,WzO.S]
    ·have d2:decide ((191:Int)<(b.toNat:Int))=false:=by rw[kI];omega
     rw[kA (fun h=>h.elim c1 c2)];have m1:IntKind.i64.wrap (64*(c:Int))=64*(c:Int):=aS (by omega) (by omega);have m2:IntKind.i64.wrap (64*(c:Int)+(b.toNat:Int))=64*(c:Int)+(b.toNat:Int):=aS (by omega) (by omega);have m3:IntKind.i64.wrap (64*(c:Int)+(b.toNat:Int)-128)=((64*c+b.toNat-128:Nat):Int):=by rw[aS (by omega) (by omega)];omega
     have:=ih t (i+1) (64*c+b.toNat-128) m β kr kx h2 (by omega) ht (by omega) (Nat.lt_of_le_of_lt (Nat.mul_le_mul_right _ (by omega)) hc');simp only[aEe,aJt,aPf,bDk,zZ,zY,dl,d1,d2,ix,WzO.S,gV,m1,dU _ hb,aG,m2,bP,m3,w];exact this
theorem U91 {n:Nat}{a:UInt8}{t:List UInt8}(hn:7≤n)(hl:(a::t).length≤1001000):∃h',aA prog 2 Q n 91 [str (a::t)] h=some (.tuple ⟨[.int .i64 ((chR (a::t)).1:Int),.int .i64 ((chR (a::t)).2:Int)]⟩,h')∧Ext h h':=by
 obtain⟨n,rfl⟩:∃m,n=m+1:=⟨n-1,by omega⟩;rw[bUi Q n _ h (kd.fr 91 _ (by decide))];have ha:=a.toNat_lt;have i0:A.zB (str (a::t)) (.int .i64 0)=some (u8 a):=ixS (i:=0) rfl;obtain⟨N,hN⟩:∃N,n=N+1:=⟨n-1,by omega⟩;have e95:aA prog 2 Q n 95 [u8 a] h=_:=(congrArg (fun n=>aA prog 2 Q n 95 [u8 a] h) hN).trans (qB (kd.f95 a.toNat ha) N h);rw[cQ];obtain⟨s,hs⟩:∃s,s=dA a.toNat:=⟨_,rfl⟩;rw[←hs]at e95⊢;have hs4:s≤4∧(s=2→192≤a.toNat)∧(s=3→224≤a.toNat)∧(s=4→240≤a.toNat):=by
  rw[hs];unfold dA;(repeat' split)<;>omega
 have e96:=fun h=>(congrArg (fun n=>aA prog 2 Q n 96 [.int .i64 (s:Int)] h) hN).trans (qB (kd.f96 s (by omega)) N h);by_cases c0:s=0
 ·rw[kB (Or.inl c0)];rw[c0]at e95;exact⟨h,by simp only[F91,aHd,aPg,i0,WzO.S,e95,zQ];rfl,Ext.refl h⟩
 have d0:decide ((s:Int)=0)=false:=by rw[kI];omega
 by_cases c1:t.length+1<s
 ·rw[kB (Or.inr c1)];have d1:decide ((((a::t).length:Nat):Int)<(s:Int))=true:=by rw[kJ,kM];omega
  exact⟨h,by simp only[F91,aHd,aPg,i0,WzO.S,e95,zQ,d0,qJ,zY,d1];rfl,Ext.refl h⟩
 rw[kA (by omega)];have d1:decide ((((a::t).length:Nat):Int)<(s:Int))=false:=by rw[kI,kM];omega
 have fin:∀(x:Option Nat) (c:Nat) (h1:H) (β:Type) (kr:K2 β),x=some c→c<2^62→vT (aA prog 2 Q n) h1 (.int .i64 (s:Int)) (.int .i64 (c:Int)) kr (fun x5 x4 h=>aJq h x4 x5 kr)=(if c<dC s∨1114111<c∨55296≤c∧c≤57343 then kr (.int .i64 0) (.int .i64 0) h1 else kr (.int .i64 (c:Int)) (.int .i64 (s:Int)) h1):=by
  intro x c h1 β kr _ hc;have e:=e96 h1;by_cases c1:c<dC s
  ·have d1:decide ((c:Int)<(dC s:Int))=true:=by rw[kJ];omega
   rw[kB (Or.inl c1)];simp only[vT,aJs,aJr,e,WzO.S,zZ,d1]
  ·have d1:decide ((c:Int)<(dC s:Int))=false:=by rw[kI];omega
   by_cases c2:1114111<c
   ·have d2:decide ((1114111:Int)<(c:Int))=true:=by rw[kJ];omega
    rw[kB (Or.inr (Or.inl c2))];simp only[vT,aJs,aJr,e,WzO.S,zZ,d1,zY,d2]
   ·have d2:decide ((1114111:Int)<(c:Int))=false:=by rw[kI];omega
    by_cases c3:55296≤c
    ·have d3:decide ((55296:Int)≤(c:Int))=true:=by rw[kJ];omega
     by_cases c4:c≤57343
     ·have d4:decide ((c:Int)≤57343)=true:=by rw[kJ];omega
      rw[kB (Or.inr (Or.inr ⟨c3,c4⟩))];simp only[vT,aJs,aJr,e,WzO.S,zZ,d1,zY,d2,bA,d3,bK,d4]
     ·have d4:decide ((c:Int)≤57343)=false:=by rw[kI];omega
      rw[kA (by omega)];simp only[vT,aJs,aJr,aJq,e,WzO.S,zZ,d1,zY,d2,bA,d3,bK,d4]
    ·have d3:decide ((55296:Int)≤(c:Int))=false:=by rw[kI];omega
     rw[kA (by omega)];simp only[vT,aJs,aJr,aJq,e,WzO.S,zZ,d1,zY,d2,bA,d3]
 have go:∀(h1:H) (b:Nat) (β:Type) (kr:K2 β),b≤300→aSx (aA prog 2 Q n) n h1 (str (a::t)) (.int .i64 (s:Int)) (.int .i64 (b:Int)) kr (fun x5 x4 h=>vT (aA prog 2 Q n) h x4 x5 kr (fun x5 x4 h=>aJq h x4 x5 kr))=
  (match fF (s-1) t b with|none=>kr (.int .i64 0) (.int .i64 0) h1|some c=>if c<dC s∨1114111<c∨55296≤c∧c≤57343 then kr (.int .i64 0) (.int .i64 0) h1 else kr (.int .i64 (c:Int)) (.int .i64 (s:Int)) h1):=by
  intro h1 b β kr hb;have hp:64^(s-1)≤64^3:=Nat.pow_le_pow_right (by omega) (by omega);have hbb:(b+2)*64^(s-1)<2^60:=Nat.lt_of_le_of_lt (Nat.mul_le_mul (show b+2≤302 by omega) hp) (by decide);have:=cGi kd (h:=h1) hl (s:=s) (aA prog 2 Q n) n (s-1) t 1 b n β kr (fun x5 x4 h=>vT (aA prog 2 Q n) h x4 x5 kr (fun x5 x4 h=>aJq h x4 x5 kr)) rfl (by omega) (by omega) (by omega) hbb;simp only[aSx,cEa,WzO.S];refine Eq.trans this ?_
  cases hq:fF (s-1) t b with
  |none=>rfl
  |some c=>exact fin _ c h1 β kr hq (by
   have:∀(d:Nat) (t:List UInt8) (b c:Nat),fF d t b=some c→(b+2)*64^d<2^60→c<2^62:=by
    intro d
    induction d with
    |zero=>intro t b c h1 h2;simp only[fF,kE]at h1;omega
    |succ d ih=>
     intro t b c h1 h2
     match t with
     |[]=>cases h1
     |x::t=>
      have hx:=x.toNat_lt;simp only[fF]at h1;split at h1
      ·cases h1
      ·refine ih t _ c h1 ?_;rw[Nat.pow_succ,Nat.mul_comm (64^d),←Nat.mul_assoc]at h2;exact Nat.lt_of_le_of_lt (Nat.mul_le_mul_right _ (by omega)) h2
   exact this _ _ _ _ hq hbb)
 have end1:∀(h1:H) (x:Option Nat),(match x with|none=>some (Value.tuple ⟨[.int .i64 0,.int .i64 0]⟩,h1)|some c=>if c<dC s∨1114111<c∨55296≤c∧c≤57343 then some (Value.tuple ⟨[.int .i64 0,.int .i64 0]⟩,h1)else some (Value.tuple ⟨[.int .i64 (c:Int),.int .i64 (s:Int)]⟩,h1))=
  some (Value.tuple ⟨[.int .i64 (((match x with|none=>(0,0)|some c=>if c<dC s∨1114111<c∨55296≤c∧c≤57343 then(0,0)else(c,s)):Nat×Nat).1:Int),.int .i64 (((match x with|none=>(0,0)|some c=>if c<dC s∨1114111<c∨55296≤c∧c≤57343 then(0,0)else(c,s)):Nat×Nat).2:Int)]⟩,h1):=by
  intro h1 x
  cases x with
  |none=>rfl
  |some c=>
   simp only;split<;>rfl
 by_cases c2:1<s
 ·have d2:decide ((1:Int)<(s:Int))=true:=by rw[kJ];omega
  obtain⟨h1,hl5,hg,x1⟩:=cGu h;have ix:=lP 1 h.next 0 5 11 s .i64 (by omega);have ld:A.load false 1 (.pointer (some ⟨h.next,0+s*1,none⟩)) h1=some (.int .i64 (oP s:Int)):=by
   rw[qK,hg];have:s=2∨s=3∨s=4:=by omega
   rcases this with rfl|rfl|rfl<;>rfl
  have hbs:oP s≤a.toNat:=by unfold oP;(repeat' split)<;>omega
  have sb:IntKind.i64.wrap ((a.toNat:Int)-(oP s:Int))=((a.toNat-oP s:Nat):Int):=by rw[aS (by omega) (by omega)];omega
  refine⟨h1,?_,x1⟩;simp only[F91,aHd,aPg,bDl,i0,WzO.S,e95,zQ,d0,qJ,zY,d1,dU _ ha,d2,hl5,ix,ld,bP,sb];rw[go h1 _ _ _ (by omega)];exact end1 h1 _
 ·have d2:decide ((1:Int)<(s:Int))=false:=by rw[kI];omega
  have hbs:oP s=0:=by unfold oP;(repeat' split)<;>omega
  refine⟨h,?_,Ext.refl h⟩;simp only[F91,aHd,aPg,bDl,i0,WzO.S,e95,zQ,d0,qJ,zY,d1,dU _ ha,d2];rw[go h _ _ _ (by omega),hbs,Nat.sub_zero];exact end1 h _
end
end Go.Proofs.YtohapjojkjjflaaGreatDoor.Wz

set_option maxRecDepth 100000
namespace Go.Proofs.YtohapjojkjjflaaGreatDoor.Wz
open Tryz (prog)
open Go Go.AM WzA WzB
open Go.AM.Pk (K0 K1 K2 K3 K4 K5)
theorem bCm (a:UInt8)(t:List UInt8):(chR (a::t)).2≤t.length+1:=by
 rw[cQ];split
 ·exact pQ _
 ·rename_i h;split
  ·exact pQ _
  ·split
   ·exact pQ _
   ·show dA a.toNat≤_;omega
theorem u8l {c:UInt8}(k:UInt8):decide ((c.toNat:Int)=(k.toNat:Int))=decide (c=k):=decide_eq_decide.2 ⟨fun e=>UInt8.toNat.inj (by omega),fun e=>by rw[e]⟩
theorem bBm (s:List UInt8):bN s=(aW s 43||aW s 35):=by
 unfold bN aW
 induction s with
 |nil=>rfl
 |cons b s ih=>
  have h1:pmC b.toNat=((b==43)||(b==35)):=by
   unfold pmC;rw[Bool.eq_iff_iff];simp only[pI,Bool.or_eq_true,beq_iff_eq];exact⟨fun h=>h.imp (fun h=>UInt8.toNat.inj h) (fun h=>UInt8.toNat.inj h),fun h=>h.imp (fun h=>by rw[h];rfl) (fun h=>by rw[h];rfl)⟩
  simp only[List.any_cons,ih,h1];cases(b==43)<;>cases(b==35)<;>cases(s.any fun b=>b==43)<;>rfl
section
variable {Q:Orc}(kd:KnB Q){h:H}
include kd
theorem U87 {n:Nat}(l:List UInt8)(hn:65550≤n)(hl:l.length≤1001000):∃(c:Int) (h':H),aA prog 2 Q n 87 [str l] h=some (.int .i64 c,h')∧decide (0≤c)=dI l∧Ext h h':=by
 obtain⟨n,rfl⟩:∃m,n=m+1:=⟨n-1,by omega⟩;rw[bUm Q n _ h (kd.fr 87 _ (by decide))];by_cases c0:65535<l.length
 ·have d:decide ((65535:Int)<(l.length:Int))=true:=by rw[kJ];omega
  refine⟨-1,h,?_,?_,Ext.refl h⟩
  ·simp only[F87,aLt,aUy,qJ,WzO.S,zY,d]
  ·unfold dI;rw[kB c0];rfl
 have d:decide ((65535:Int)<(l.length:Int))=false:=by rw[kI];omega
 have lp:∀(L f i:Nat) (c:Nat) (m:Nat) (h1:H) (β:Type) (kr kx:K1 β),l.length<i+f→i≤l.length→c≤i→f≤m→Ext h h1→∃(c':Nat) (h':H),
  aFx (aA prog 2 Q n) L kr kx m (.int .i64 (i:Int)) (str l) (.int .i64 (c:Int)) h1=(if aBm f (l.drop i)then kx (.int .i64 (c':Int)) h' else kr (.int .i64 (-1)) h')∧Ext h h':=by
  intro L f
  induction f with
  |zero=>intro i c m h1 β kr kx hf hi;omega
  |succ f ih=>
   intro i c m h1 β kr kx hf hi hc hm x1;obtain⟨m,rfl⟩:∃r,m=r+1:=⟨m-1,by omega⟩
   match ht:l.drop i with
   |[]=>
    have:=oU ht;have d:decide ((i:Int)<(l.length:Int))=false:=by rw[kI];omega
    refine⟨c,h1,?_,x1⟩;simp only[aFx,aPk,qJ,WzO.S,zZ,d];rfl
   |a::t=>
    obtain⟨g1,g2,g3⟩:=tF ht;have d:decide ((i:Int)<(l.length:Int))=true:=by rw[kJ];omega
    have sl:=slS hi;rw[ht]at sl;have hlt:(a::t).length=l.length-i:=by rw[←ht,kU]
    obtain⟨h2,e2,x2⟩:=U91 kd (h:=h1) (n:=n) (a:=a) (t:=t) (by omega) (by omega);have t0:∀a b:Value,A.z 0 (.tuple ⟨[a,b]⟩)=some a:=fun _ _=>rfl;have t1:∀a b:Value,A.z 1 (.tuple ⟨[a,b]⟩)=some b:=fun _ _=>rfl;have hw:=bCm a t;simp only[kM]at hlt;obtain⟨w,hwe⟩:∃w,w=(chR (a::t)).2:=⟨_,rfl⟩;rw[←hwe]at e2 hw;have cn:aBm (f+1) (a::t)=if w=0 then false else aBm f ((a::t).drop w):=by
     rw[hwe];show(if a::t=[]then true else _)=_
     rw[kA (fun h=>by cases h)]
    rw[cn];by_cases w0:w=0
    ·have dz:decide ((w:Int)=0)=true:=by rw[kJ];omega
     refine⟨c,h2,?_,x1.trans x2⟩;simp only[aFx,aPk,qJ,WzO.S,zZ,d,sl,e2,t0,t1,zQ,dz,kB w0];rfl
    ·have dz:decide ((w:Int)=0)=false:=by rw[kI];omega
     have w1:IntKind.i64.wrap ((i:Int)+(w:Int))=((i+w:Nat):Int):=by rw[aS (by omega) (by omega)];omega
     have w2:=aI (n:=c) (by omega);obtain⟨c',h',e',x'⟩:=ih (i+w) (c+1) m h2 β kr kx (by omega) (by omega) (by omega) (by omega) (x1.trans x2);refine⟨c',h',?_,x'⟩;rw[kA w0,show(a::t).drop w=l.drop (i+w) by rw[←ht,pS],←e'];simp only[aFx,aPk,qJ,WzO.S,zZ,d,sl,e2,t0,t1,zQ,dz,aG,w1,w2]
 obtain⟨c',h',e',x'⟩:=lp n (l.length+1) 0 0 n h _ (fun x2 h=>some (x2,h)) (fun x3 h=>some (x3,h)) (by omega) (by omega) (by omega) (by omega) (Ext.refl h);have hv:dI l=aBm (l.length+1) l:=by unfold dI;rw[kA c0]
 rw[List.drop_zero,←hv]at e'
 cases hq:dI l with
 |true=>
  rw[hq]at e';refine⟨c',h',?_,?_,x'⟩
  ·simp only[F87,aLt,aUy,aSu,bDo,bDn,qJ,WzO.S,zY,d];exact e'
  ·rw[kJ];omega
 |false=>
  rw[hq]at e';refine⟨-1,h',?_,rfl,x'⟩;simp only[F87,aLt,aUy,aSu,bDo,bDn,qJ,WzO.S,zY,d];exact e'
theorem U80 {n:Nat}(l:List UInt8)(hn:65551≤n)(hl:l.length≤1001000):∃h':H,aA prog 2 Q n 80 [str l] h=some (.bool (dI l),h')∧Ext h h':=by
 obtain⟨n,rfl⟩:∃m,n=m+1:=⟨n-1,by omega⟩;rw[bUt Q n _ h (kd.fr 80 _ (by decide))];obtain⟨c,h',e,v,x⟩:=U87 kd (h:=h) (n:=n) l (by omega) hl;refine⟨h',?_,x⟩;simp only[F80,bHn,e,WzO.S,bA,v]
theorem wB {l:List UInt8}(h:dI l=true):l.length≤65535:=by
 have _:=kd;unfold dI at h;split at h
 ·cases h
 ·omega
theorem U60 {n:Nat}(l:List UInt8)(hn:65552≤n)(hl:l.length≤1001000):∃h':H,aA prog 2 Q n 60 [str l] h=some (.bool (nmR l),h')∧Ext h h':=by
 obtain⟨n,rfl⟩:∃m,n=m+1:=⟨n-1,by omega⟩;rw[bVm Q n _ h (kd.fr 60 _ (by decide))];unfold nmR
 match l,hl with
 |[],_=>exact⟨h,rfl,Ext.refl h⟩
 |a::t,hl=>
  have d:decide ((0:Int)<(((a::t).length:Nat):Int))=true:=by rw[kJ,kM];omega
  obtain⟨h1,e1,x1⟩:=U80 kd (h:=h) (n:=n) (a::t) (by omega) hl;refine⟨h1,?_,x1⟩;rw[kA (fun h=>by cases h)]
  cases hv:dI (a::t)with
  |false=>
   rw[hv]at e1;simp only[F60,aTr,qJ,WzO.S,zY,d,e1];rfl
  |true=>
   rw[hv]at e1;have hle:=wB kd hv;have e2:aA prog 2 Q n 61 [str (a::t),.int .u8 43] h1=_:=U61 kd (h:=h1) (n:=n) (l:=a::t) (by omega) hl 43;have e3:aA prog 2 Q n 61 [str (a::t),.int .u8 35] h1=_:=U61 kd (h:=h1) (n:=n) (l:=a::t) (by omega) hl 35;rw[bBm]
   cases c1:aW (a::t) 43 with
   |true=>
    rw[c1]at e2;simp only[F60,aTr,qJ,WzO.S,zY,d,e1,e2,Bool.true_or];rfl
   |false=>
    rw[c1]at e2;simp only[F60,aTr,qJ,WzO.S,zY,d,e1,e2,e3,Bool.false_or];rfl
theorem bJc {l:List UInt8}(hl:l.length≤1001000)(C:CF)(L:Nat):∀(t:List UInt8) (i m:Nat) (β:Type) (kr:K1 β) (kx:K0 β),l.drop i=t→l.length-i<m→
 aKy C L kr kx m (.int .i64 (i:Int)) (str l) h=if iE (if i=0 then none else l[i-1]?) t then kx h else kr (.bool false) h:=by
 have _:=kd;intro t
 induction t with
 |nil=>
  intro i m β kr kx e hm;have:=oU e;obtain⟨m,rfl⟩:∃r,m=r+1:=⟨m-1,by omega⟩;have d:decide ((i:Int)<(l.length:Int))=false:=by rw[kI];omega
  simp only[aKy,aVh,qJ,WzO.S,zZ,d,iE,if_true]
 |cons c t ih=>
  intro i m β kr kx e hm;obtain⟨g1,g2,g3⟩:=tF e;obtain⟨m,rfl⟩:∃r,m=r+1:=⟨m-1,by omega⟩;have d:decide ((i:Int)<(l.length:Int))=true:=by rw[kJ];omega
  have ix:=ixS g1;have w:=aI (n:=i) (by omega);have hlt:t.length+1=l.length-i:=by have:=congrArg List.length e;rw[kU]at this;simp only[kM]at this;omega
  have nx:=ih (i+1) m β kr kx g2 (by omega);rw[kA (show¬i+1=0 by omega),Nat.add_sub_cancel,g1]at nx;have d43:decide ((c.toNat:Int)=43)=decide (c=43):=u8l 43;have d35:decide ((c.toNat:Int)=35)=decide (c=35):=u8l 35;have hpm:pmC c.toNat=(decide (c=43)||decide (c=35)):=by
   unfold pmC;rw[Bool.eq_iff_iff];simp only[pI,Bool.or_eq_true];exact⟨fun h=>h.imp (fun h=>UInt8.toNat.inj h) (fun h=>UInt8.toNat.inj h),fun h=>h.imp (fun h=>by rw[h];rfl) (fun h=>by rw[h];rfl)⟩
  have L1:∀(kx1 kn:K2 β),aPm h (str l) (.int .i64 (i:Int)) kx1 kn=if pmC c.toNat then kn (.int .i64 (i:Int)) (str l) h else kx1 (.int .i64 (i:Int)) (str l) h:=by
   intro kx1 kn;rw[hpm];by_cases c1:c=43
   ·rw[kC c1]at d43⊢;simp only[aPm,ix,WzO.S,aK,d43,Bool.true_or,if_true]
   ·rw[kD c1]at d43⊢;by_cases c2:c=35
    ·rw[kC c2]at d35⊢;simp only[aPm,ix,WzO.S,aK,d43,d35,Bool.or_true,if_true]
    ·rw[kD c2]at d35⊢;simp only[aPm,ix,WzO.S,aK,d43,d35,Bool.or_false];rfl
  have L2:∀(kn:K2 β),aPl h (str l) (.int .i64 (i:Int)) kr kn=if(if i=0 then none else l[i-1]?)=none∨(if i=0 then none else l[i-1]?)=some 47 then kn (.int .i64 (i:Int)) (str l) h else kr (.bool false) h:=by
   intro kn;by_cases c1:i=0
   ·rw[kB c1,kB (Or.inl rfl)];have d0:decide ((0:Int)<(i:Int))=false:=by rw[kI];omega
    simp only[aPl,zY,d0,WzO.S]
   ·rw[kA c1];have d0:decide ((0:Int)<(i:Int))=true:=by rw[kJ];omega
    have w1:IntKind.i64.wrap ((i:Int)-1)=((i-1:Nat):Int):=by rw[aS (by omega) (by omega)];omega
    obtain⟨q,hq⟩:∃q,l[i-1]?=some q:=⟨_,kN (by omega)⟩;have ix1:=ixS hq;have d47:decide ((q.toNat:Int)=47)=decide (q=47):=u8l 47;rw[hq];by_cases c2:q=47
    ·rw[kC c2]at d47;rw[kB (Or.inr (by rw[c2]))];simp only[aPl,zY,d0,WzO.S,bP,w1,ix1,aK,d47]
    ·rw[kD c2]at d47;rw[kA (fun h=>h.elim (fun h=>by cases h) (fun h=>c2 (kP h)))];simp only[aPl,zY,d0,WzO.S,bP,w1,ix1,aK,d47]
  have L3:∀(kn:K2 β),aKa h (str l) (.int .i64 (i:Int)) (fun x4 x3 x0 h=>aJz h x0 x3 x4 (fun x57 x3 x0 h=>aJy h x0 x3 x57 kr kn))=if t=[]∨c≠35∧t.head?=some 47 then kn (.int .i64 (i:Int)) (str l) h else kr (.bool false) h:=by
   intro kn;have w1:IntKind.i64.wrap ((l.length:Int)-1)=((l.length-1:Nat):Int):=by rw[aS (by omega) (by omega)];omega
   match t,hlt,g2 with
   |[],hlt,_=>
    have dl:decide ((i:Int)=((l.length-1:Nat):Int))=true:=by rw[kJ];simp only[pZ]at hlt;omega
    rw[kB (Or.inl rfl)];simp only[aKa,aJz,aJy,qJ,WzO.S,bP,w1,zQ,dl]
   |b::t,hlt,g2=>
    have dl:decide ((i:Int)=((l.length-1:Nat):Int))=false:=by rw[kI];simp only[kM]at hlt;omega
    by_cases c2:c=35
    ·rw[kC c2]at d35;rw[kA (fun h=>h.elim (fun h=>by cases h) (fun h=>h.1 c2))];simp only[aKa,aJz,aJy,qJ,WzO.S,bP,w1,zQ,dl,ix,d35]
    ·rw[kD c2]at d35;have ix1:=ixS (tF g2).1;have d47:decide ((b.toNat:Int)=47)=decide (b=47):=u8l 47;by_cases c3:b=47
     ·rw[kC c3]at d47;rw[kB (Or.inr ⟨c2,by rw[c3];rfl⟩)];simp only[aKa,aJz,aJy,qJ,WzO.S,bP,w1,zQ,dl,ix,d35,aG,w,ix1,aK,d47]
     ·rw[kD c3]at d47;rw[kA (fun h=>h.elim (fun h=>by cases h) (fun h=>c3 (kP h.2)))];simp only[aKa,aJz,aJy,qJ,WzO.S,bP,w1,zQ,dl,ix,d35,aG,w,ix1,aK,d47]
  have fl:iE (if i=0 then none else l[i-1]?) (c::t)=((if pmC c.toNat then decide (((if i=0 then none else l[i-1]?)=none∨(if i=0 then none else l[i-1]?)=some 47)∧(t=[]∨c≠35∧t.head?=some 47))else true)&&iE (some c) t):=rfl
  rw[fl];simp only[aKy,aVh,aSz,qJ,WzO.S,zZ,d,L1]
  cases hp:pmC c.toNat with
  |false=>
   simp only[pB,if_false,aVg,aG,w,WzO.S,Bool.true_and];exact nx
  |true=>
   simp only[if_true,L2];by_cases c1:(if i=0 then none else l[i-1]?)=none∨(if i=0 then none else l[i-1]?)=some 47
   ·rw[kB c1,L3];by_cases c2:t=[]∨c≠35∧t.head?=some 47
    ·rw[kB c2,kC ⟨c1,c2⟩,Bool.true_and];simp only[aVg,aG,w,WzO.S];exact nx
    ·rw[kA c2,kD (fun h=>c2 h.2),Bool.false_and];rfl
   ·rw[kA c1,kD (fun h=>c1 h.1),Bool.false_and];rfl
theorem U79 {n:Nat}(l:List UInt8)(hn:65552≤n)(hl:l.length≤1001000):∃h':H,aA prog 2 Q n 79 [str l] h=some (.bool (fiR l),h')∧Ext h h':=by
 obtain⟨n,rfl⟩:∃m,n=m+1:=⟨n-1,by omega⟩;rw[bUu Q n _ h (kd.fr 79 _ (by decide))];unfold fiR
 match l,hl with
 |[],_=>exact⟨h,rfl,Ext.refl h⟩
 |a::t,hl=>
  have d:decide ((((a::t).length:Nat):Int)=0)=false:=by rw[kI,kM];omega
  obtain⟨h1,e1,x1⟩:=U80 kd (h:=h) (n:=n) (a::t) (by omega) hl;refine⟨h1,?_,x1⟩;rw[kA (fun h=>by cases h)]
  cases hv:dI (a::t)with
  |false=>
   rw[hv]at e1;simp only[F79,aTl,bDs,qJ,WzO.S,zQ,d,e1];rfl
  |true=>
   rw[hv]at e1;have hle:=wB kd hv;have lp:=bJc kd (h:=h1) hl (aA prog 2 Q n) n (a::t) 0 n _ (fun x2 h=>some (x2,h)) (fun h=>some (.bool true,h)) rfl (by omega);simp only[F79,aTl,bDs,aZj,cEh,cEg,qJ,WzO.S,zQ,d,e1,if_true];refine lp.trans ?_;rw[kB rfl];cases iE none (a::t)<;>rfl
end
end Go.Proofs.YtohapjojkjjflaaGreatDoor.Wz
