import Derived.Test.YtohapjojkjjflaaGreatDoorRh
namespace Go.Proofs.YtohapjojkjjflaaGreatDoor.Wz
open Tryz (prog)
open Go Go.AM WzA
structure RS (h:H)(r:Nat)(l:List UInt8)(bad:Bool)(p:Pq)(w:Value):Prop where
 get:h.get r=some (.cells (str l::.bool bad::p.cells w) (some 0))
 lt:r<h.next
theorem RS.but {S:Nat→Prop}{h h':H}{r:Nat}{l:List UInt8}{bad:Bool}{p:Pq}{w:Value}(s:RS h r l bad p w)(x:ExtBut S h h')(n:¬S r):RS h' r l bad p w:=⟨by rw[x.get r s.lt n];exact s.get,kH s.lt x.next⟩
theorem RS.ext {h h':H}{r:Nat}{l:List UInt8}{bad:Bool}{p:Pq}{w:Value}(s:RS h r l bad p w)(x:Ext h h'):RS h' r l bad p w:=s.but (S:=fun _=>False) x.but (fun h=>h)
theorem RS.ld {h:H}{r:Nat}{l:List UInt8}{bad:Bool}{p:Pq}{w:Value}(s:RS h r l bad p w){i:Nat}{v:Value}(hv:(str l::.bool bad::p.cells w)[i]?=some v):A.load false 1 (.pointer (some ⟨r,i,none⟩)) h=some v:=by
 rw[qK,s.get];exact hv
theorem RS.set {h:H}{r:Nat}{l l':List UInt8}{bad bad':Bool}{p p':Pq}{w w':Value}(s:RS h r l bad p w){i:Nat}{v:Value}(hi:i<26)(hv:aJ v=some [v])(hp:(str l'::.bool bad'::p'.cells w')=(str l::.bool bad::p.cells w).set i v):
 ∃h',A.store 1 (.pointer (some ⟨r,i,none⟩)) v h=some h'∧RS h' r l' bad' p' w'∧ExtBut (fun j=>j=r) h h'∧h'.next=h.next:=by
 obtain⟨h',hh⟩:∃h',h'=h.put r (.cells (str l'::.bool bad'::p'.cells w') (some 0)):=⟨_,rfl⟩;refine⟨h',?_,⟨by rw[hh,H.get_put,kB rfl],by rw[hh];exact s.lt⟩,by rw[hh];exact ExtBut.put ⟨kF _,fun _ _ _=>rfl⟩ r _ rfl,by rw[hh];rfl⟩;have hl:(str l::.bool bad::p.cells w).length=26:=rfl;have e1:Nat.ble (i+1) (str l::.bool bad::p.cells w).length=true:=ble_iff.2 (by omega);have e0:Nat.beq [v].length 1=true:=rfl;rw[qU,s.get,hv];simp only[e0,e1,Bool.and_self,cond_true,fZ (by omega:i<(str l::.bool bad::p.cells w).length)];rw[hh,hp]
section
variable {Q:Orc}(ka:KnA Q){h:H}{r:Nat}{l:List UInt8}{bad:Bool}{p:Pq}{w:Value}
include ka
theorem T31 (k:Nat)(s:RS h r l bad p w):∃h',aA prog 2 Q (k+1) 45 [aB r] h=some (.int .u8 ((bR l).1:Int),h')∧RS h' r (bR l).2.1 (bad||(bR l).2.2) p w∧ExtBut (fun j=>j=r) h h'∧h'.next=h.next:=by
 rw[bVz Q k _ h (ka.fr 45 _ (by decide))];have l0:=s.ld (i:=0) rfl
 cases l with
 |nil=>
  obtain⟨h',e,s',x,n⟩:=s.set (i:=1) (v:=.bool true) (l':=[]) (bad':=true) (p':=p) (w':=w) (by omega) rfl rfl;have d:A.zA prog .eql 9 (str []) (str [])=some (.bool true):=by rw[fE];simp
  refine⟨h',?_,by rw[show(bad||(bR []).2.2)=true by cases bad<;>rfl];exact s',x,n⟩
  simp only[F45,bAd,WzO.S,WzO.n0,Nat.add_zero,l0,d,e];rfl
 |cons b t=>
  obtain⟨h',e,s',x,n⟩:=s.set (i:=0) (v:=str t) (l':=t) (bad':=bad) (p':=p) (w':=w) (by omega) rfl rfl;have d:A.zA prog .eql 9 (str (b::t)) (str [])=some (.bool false):=by
   rw[fE];have:¬(⟨⟨b::t⟩⟩:ByteArray)=⟨⟨[]⟩⟩:=fun e=>by
    have e:b::t=[]:=congrArg (fun b:ByteArray=>b.data.toList) e;cases e
   rw[kD this]
  have i0:A.zB (str (b::t)) (.int .i64 0)=some (u8 b):=ixS (i:=0) rfl;have sl:A.zE (str (b::t)) (some (.int .i64 1)) none=some (str t):=slS (l:=b::t) (k:=1) (by simp);refine⟨h',?_,by rw[show(bad||(bR (b::t)).2.2)=bad by cases bad<;>rfl];exact s',x,n⟩
  simp only[F45,bAd,WzO.S,WzO.n0,Nat.add_zero,l0,d,i0,sl,e];rfl
theorem T34 (k:Nat)(s:RS h r l bad p w):∃h',aA prog 2 Q (k+1) 48 [aB r] h=some (str l,h')∧RS h' r [] bad p w∧ExtBut (fun j=>j=r) h h'∧h'.next=h.next:=by
 rw[bVw Q k _ h (ka.fr 48 _ (by decide))];have l0:=s.ld (i:=0) rfl;obtain⟨h',e,s',x,n⟩:=s.set (i:=0) (v:=str []) (l':=[]) (bad':=bad) (p':=p) (w':=w) (by omega) rfl rfl;refine⟨h',?_,s',x,n⟩;simp only[F48,bHr,WzO.S,WzO.n0,Nat.add_zero,l0,e]
theorem aMi {h0:H}(s:RS h r l bad p w)(x0:ExtBut (fun j=>j=r) h0 h)(no:Bool){u:Nat}(hu:u≤l.length):
 ∃h1 h2,A.store 1 (.pointer (some ⟨r,1,none⟩)) (.bool (bad||no)) h=some h1∧A.load false 1 (.pointer (some ⟨r,0,none⟩)) h1=some (str l)∧A.zE (str l) (some (.int .i64 (u:Int))) none=some (str (l.drop u))∧A.store 1 (.pointer (some ⟨r,0,none⟩)) (str (l.drop u)) h1=some h2∧
  RS h2 r (l.drop u) (bad||no) p w∧ExtBut (fun j=>j=r) h0 h2:=by
 have _:=ka;obtain⟨h1,e1,s1,x1,n1⟩:=s.set (i:=1) (v:=.bool (bad||no)) (l':=l) (bad':=bad||no) (p':=p) (w':=w) (by omega) rfl rfl;obtain⟨h2,e2,s2,x2,n2⟩:=s1.set (i:=0) (v:=str (l.drop u)) (l':=l.drop u) (bad':=bad||no) (p':=p) (w':=w) (by omega) rfl rfl;exact⟨h1,h2,e1,s1.ld (i:=0) rfl,slS hu,e2,s2,(x0.trans x1).trans x2⟩
theorem T33 (k:Nat)(hl:l.length≤1001000)(s:RS h r l bad p w):∃h',aA prog 2 Q (k+2) 47 [aB r] h=some (.int .u16 ((aX l).1:Int),h')∧RS h' r (aX l).2.1 (bad||(aX l).2.2) p w∧ExtBut (fun j=>j=r) h h':=by
 rw[bVx Q (k+1) _ h (ka.fr 47 _ (by decide))];have l0:=s.ld (i:=0) rfl;have l1:=s.ld (i:=1) rfl;have e54:=T54 ka (h:=h) k l hl;have refl:ExtBut (fun j=>j=r) h h:=⟨kF _,fun _ _ _=>rfl⟩
 cases hw:wrd l with
 |none=>
  rw[hw]at e54;have hr:aX l=(0,l,true):=by unfold aX;rw[hw]
  rw[hr];have t0:A.z 0 (.tuple ⟨[.int .i64 0,.int .i64 0,.int .i64 2]⟩)=some (.int .i64 0):=rfl;have t1:A.z 1 (.tuple ⟨[.int .i64 0,.int .i64 0,.int .i64 2]⟩)=some (.int .i64 0):=rfl;have t2:A.z 2 (.tuple ⟨[.int .i64 0,.int .i64 0,.int .i64 2]⟩)=some (.int .i64 2):=rfl;have d:A.zA prog .neq 45 (.int .i64 2) (.int .i64 0)=some (.bool true):=by rw[aK];rfl
  obtain⟨h1,h2,a1,a2,a3,a4,a5,a6⟩:=aMi ka s refl true (u:=0) (pQ _);have a3:A.zE (str l) (some (.int .i64 0)) none=some (str (l.drop 0)):=a3;have cv:A.conv prog 3 33 (.int .i64 0)=some (.int .u16 0):=iU (n:=0) (by omega);refine⟨h2,?_,a5,a6⟩
  cases bad with
  |true=>simp only[F47,aMb,WzO.S,WzO.n0,Nat.add_zero,l0,e54,t0,t1,t2,l1,a1,a2,a3,a4,cv,Bool.true_or]at a1⊢;simp only[a1,WzO.S,a2,a3,a4,cv];rfl
  |false=>simp only[F47,aMb,WzO.S,WzO.n0,Nat.add_zero,l0,e54,t0,t1,t2,l1,d,Bool.false_or]at a1⊢;simp only[a1,WzO.S,a2,a3,a4,cv];rfl
 |some n=>
  rw[hw]at e54;obtain⟨h2l,hn⟩:=lM hw;have hr:aX l=(n,l.drop 2,false):=by unfold aX;rw[hw]
  rw[hr];have t0:A.z 0 (.tuple ⟨[.int .i64 (n:Int),.int .i64 2,.int .i64 0]⟩)=some (.int .i64 (n:Int)):=rfl;have t1:A.z 1 (.tuple ⟨[.int .i64 (n:Int),.int .i64 2,.int .i64 0]⟩)=some (.int .i64 2):=rfl;have t2:A.z 2 (.tuple ⟨[.int .i64 (n:Int),.int .i64 2,.int .i64 0]⟩)=some (.int .i64 0):=rfl;have d:A.zA prog .neq 45 (.int .i64 0) (.int .i64 0)=some (.bool false):=by rw[aK];rfl
  obtain⟨h1,h2,a1,a2,a3,a4,a5,a6⟩:=aMi ka s refl false (u:=2) h2l;have a3:A.zE (str l) (some (.int .i64 2)) none=some (str (l.drop 2)):=a3;have cv:A.conv prog 3 33 (.int .i64 (n:Int))=some (.int .u16 (n:Int)):=iU hn;refine⟨h2,?_,a5,a6⟩
  cases bad with
  |true=>simp only[F47,aMb,WzO.S,WzO.n0,Nat.add_zero,l0,e54,t0,t1,t2,l1,Bool.true_or]at a1⊢;simp only[a1,WzO.S,a2,a3,a4,cv]
  |false=>simp only[F47,aMb,WzO.S,WzO.n0,Nat.add_zero,l0,e54,t0,t1,t2,l1,d,Bool.or_false]at a1⊢;simp only[a1,WzO.S,a2,a3,a4,cv]
end
end Go.Proofs.YtohapjojkjjflaaGreatDoor.Wz

namespace Go.Proofs.YtohapjojkjjflaaGreatDoor.Wz
open Tryz (prog)
open Go Go.AM WzA
structure VA (Q:Orc)(B:H)(val:List UInt8→Bool):Prop where
 n4:2≤B.next
 va:∀(k:Nat) (h:H) (s:List UInt8),Ext B h→s.length≤1000300→∃h',aA prog 2 Q (k+1000400) 84 [str s] h=some (.bool (val s),h')∧Ext h h'
theorem VA.mono {Q:Orc}{B B':H}{val:List UInt8→Bool}(va:VA Q B val)(x:Ext B B'):VA Q B' val:=⟨kG va.n4 x.next,fun k h s hx=>va.va k h s (x.trans hx)⟩
theorem aT {B h h':H}{r:Nat}(x:Ext B h)(y:ExtBut (fun j=>j=r) h h')(hr:B.next≤r):Ext B h':=
 ⟨kG x.next y.next,fun i hi=>by rw[y.get i (kH hi x.next) (by omega)];exact x.get i hi⟩
section
variable {Q:Orc}{B:H}{val:List UInt8→Bool}(ka:KnA Q)(va:VA Q B val){h:H}{r:Nat}{l:List UInt8}{bad:Bool}{p:Pq}{w:Value}
include ka
theorem T52 (k:Nat)(hl:l.length≤1000300)(s:RS h r l bad p w):∃h',aA prog 2 Q (k+3) 67 [aB r] h=some (str (aM l).1,h')∧RS h' r (aM l).2.1 (bad||(aM l).2.2) p w∧ExtBut (fun j=>j=r) h h':=by
 rw[bVg Q (k+2) _ h (ka.fr 67 _ (by decide))];have l0:=s.ld (i:=0) rfl;have l1:=s.ld (i:=1) rfl;have e76:=T76 ka (h:=h) k l (by omega);have refl:ExtBut (fun j=>j=r) h h:=⟨kF _,fun _ _ _=>rfl⟩
 cases hg:getD l with
 |none=>
  rw[hg]at e76;have hr:aM l=([],l,true):=by unfold aM;rw[hg]
  rw[hr];have t0:A.z 0 (.tuple ⟨[str [],.int .i64 0,.int .i64 2]⟩)=some (str []):=rfl;have t1:A.z 1 (.tuple ⟨[str [],.int .i64 0,.int .i64 2]⟩)=some (.int .i64 0):=rfl;have t2:A.z 2 (.tuple ⟨[str [],.int .i64 0,.int .i64 2]⟩)=some (.int .i64 2):=rfl;have d:A.zA prog .neq 45 (.int .i64 2) (.int .i64 0)=some (.bool true):=by rw[aK];rfl
  obtain⟨h1,h2,a1,a2,a3,a4,a5,a6⟩:=aMi ka s refl true (u:=0) (pQ _);have a3:A.zE (str l) (some (.int .i64 0)) none=some (str (l.drop 0)):=a3;refine⟨h2,?_,a5,a6⟩
  cases bad with
  |true=>simp only[F67,aLz,WzO.S,WzO.n0,Nat.add_zero,l0,e76,t0,t1,t2,l1,Bool.true_or]at a1⊢;simp only[a1,WzO.S,a2,a3,a4]
  |false=>simp only[F67,aLz,WzO.S,WzO.n0,Nat.add_zero,l0,e76,t0,t1,t2,l1,d,Bool.false_or]at a1⊢;simp only[a1,WzO.S,a2,a3,a4]
 |some du=>
  obtain⟨d',u⟩:=du;rw[hg]at e76;obtain⟨hu,_,_⟩:=gG hg;have hr:aM l=(d',l.drop u,false):=by unfold aM;rw[hg]
  rw[hr];have t0:A.z 0 (.tuple ⟨[str d',.int .i64 (u:Int),.int .i64 0]⟩)=some (str d'):=rfl;have t1:A.z 1 (.tuple ⟨[str d',.int .i64 (u:Int),.int .i64 0]⟩)=some (.int .i64 (u:Int)):=rfl;have t2:A.z 2 (.tuple ⟨[str d',.int .i64 (u:Int),.int .i64 0]⟩)=some (.int .i64 0):=rfl;have d:A.zA prog .neq 45 (.int .i64 0) (.int .i64 0)=some (.bool false):=by rw[aK];rfl
  obtain⟨h1,h2,a1,a2,a3,a4,a5,a6⟩:=aMi ka s refl false (u:=u) hu;refine⟨h2,?_,a5,a6⟩
  cases bad with
  |true=>simp only[F67,aLz,WzO.S,WzO.n0,Nat.add_zero,l0,e76,t0,t1,t2,l1,Bool.true_or]at a1⊢;simp only[a1,WzO.S,a2,a3,a4]
  |false=>simp only[F67,aLz,WzO.S,WzO.n0,Nat.add_zero,l0,e76,t0,t1,t2,l1,d,Bool.or_false]at a1⊢;simp only[a1,WzO.S,a2,a3,a4]
include va
theorem T53 (k:Nat)(hl:l.length≤1000300)(hB:Ext B h):∃h',aA prog 2 Q (k+1000401) 68 [str l] h=some (match getD l with|some (d,u)=>(if val d then .tuple ⟨[str d,.int .i64 (u:Int),.int .i64 0]⟩else .tuple ⟨[str [],.int .i64 0,.int .i64 5]⟩)|none=>.tuple ⟨[str [],.int .i64 0,.int .i64 2]⟩,h')∧Ext h h':=by
 rw[bVf Q (k+1000400) _ h (ka.fr 68 _ (by decide))];have e76:aA prog 2 Q (k+1000400) 83 [str l] h=_:=T76 ka (h:=h) (k+1000398) l (by omega)
 cases hg:getD l with
 |none=>
  rw[hg]at e76;have t0:A.z 0 (.tuple ⟨[str [],.int .i64 0,.int .i64 2]⟩)=some (str []):=rfl;have t1:A.z 1 (.tuple ⟨[str [],.int .i64 0,.int .i64 2]⟩)=some (.int .i64 0):=rfl;have t2:A.z 2 (.tuple ⟨[str [],.int .i64 0,.int .i64 2]⟩)=some (.int .i64 2):=rfl;have d:A.zA prog .eql 45 (.int .i64 2) (.int .i64 0)=some (.bool false):=by rw[zQ];rfl
  refine⟨h,?_,Ext.refl h⟩;simp only[F68,aTp,e76,WzO.S,t0,t1,t2,d]
 |some du=>
  obtain⟨d',u⟩:=du;rw[hg]at e76;obtain⟨hu,_,hdl⟩:=gG hg;have t0:A.z 0 (.tuple ⟨[str d',.int .i64 (u:Int),.int .i64 0]⟩)=some (str d'):=rfl;have t1:A.z 1 (.tuple ⟨[str d',.int .i64 (u:Int),.int .i64 0]⟩)=some (.int .i64 (u:Int)):=rfl;have t2:A.z 2 (.tuple ⟨[str d',.int .i64 (u:Int),.int .i64 0]⟩)=some (.int .i64 0):=rfl;have d:A.zA prog .eql 45 (.int .i64 0) (.int .i64 0)=some (.bool true):=by rw[zQ];rfl
  obtain⟨h1,e77,x1⟩:=va.va k h d' hB (by omega);refine⟨h1,?_,x1⟩
  cases hv:val d' with
  |true=>
   rw[hv]at e77;simp only[F68,aTp,e76,WzO.S,t0,t1,t2,d,e77,hv,if_true]
  |false=>
   rw[hv]at e77;simp only[F68,aTp,e76,WzO.S,t0,t1,t2,d,e77,hv];rfl
theorem T32 (k:Nat)(hl:l.length≤1000300)(hB:Ext B h)(s:RS h r l bad p w):∃h',aA prog 2 Q (k+1000402) 46 [aB r] h=some (str (aZ val l).1,h')∧RS h' r (aZ val l).2.1 (bad||(aZ val l).2.2) p w∧ExtBut (fun j=>j=r) h h':=by
 rw[bVy Q (k+1000401) _ h (ka.fr 46 _ (by decide))];have l0:=s.ld (i:=0) rfl;obtain⟨ha,e53,xa⟩:=T53 ka va (h:=h) (l:=l) k hl hB;have sa:=s.ext xa;have l1:=sa.ld (i:=1) rfl;have no:∀c:Int,c≠0→aA prog 2 Q (k+1000401) 68 [str l] h=some (.tuple ⟨[str [],.int .i64 0,.int .i64 c]⟩,ha)→∃h',F46 (aA prog 2 Q (k+1000401)) (k+1000401) (aB r) h=some (str [],h')∧RS h' r l (bad||true) p w∧ExtBut (fun j=>j=r) h h':=by
  intro c hc e53;have t0:A.z 0 (.tuple ⟨[str [],.int .i64 0,.int .i64 c]⟩)=some (str []):=rfl;have t1:A.z 1 (.tuple ⟨[str [],.int .i64 0,.int .i64 c]⟩)=some (.int .i64 0):=rfl;have t2:A.z 2 (.tuple ⟨[str [],.int .i64 0,.int .i64 c]⟩)=some (.int .i64 c):=rfl;have d:A.zA prog .neq 45 (.int .i64 c) (.int .i64 0)=some (.bool true):=by rw[aK,kD hc];rfl
  obtain⟨h1,h2,a1,a2,a3,a4,a5,a6⟩:=aMi ka sa xa.but true (u:=0) (pQ _);have a3:A.zE (str l) (some (.int .i64 0)) none=some (str (l.drop 0)):=a3;refine⟨h2,?_,a5,a6⟩
  cases bad with
  |true=>simp only[F46,aMc,WzO.S,WzO.n0,Nat.add_zero,l0,e53,t0,t1,t2,l1,Bool.true_or]at a1⊢;simp only[a1,WzO.S,a2,a3,a4]
  |false=>simp only[F46,aMc,WzO.S,WzO.n0,Nat.add_zero,l0,e53,t0,t1,t2,l1,d,Bool.false_or]at a1⊢;simp only[a1,WzO.S,a2,a3,a4]
 cases hg:getD l with
 |none=>
  rw[hg]at e53;have hr:aZ val l=([],l,true):=by unfold aZ;rw[hg]
  rw[hr];exact no 2 (by omega) e53
 |some du=>
  obtain⟨d',u⟩:=du;rw[hg]at e53;obtain⟨hu,_,hdl⟩:=gG hg
  cases hv:val d' with
  |false=>
   simp only[hv,pB,if_false]at e53;have hr:aZ val l=([],l,true):=by unfold aZ;rw[hg];simp only[hv];rfl
   rw[hr];exact no 5 (by omega) e53
  |true=>
   simp only[hv,if_true]at e53;have hr:aZ val l=(d',l.drop u,false):=by unfold aZ;rw[hg];simp only[hv];rfl
   rw[hr];have t0:A.z 0 (.tuple ⟨[str d',.int .i64 (u:Int),.int .i64 0]⟩)=some (str d'):=rfl;have t1:A.z 1 (.tuple ⟨[str d',.int .i64 (u:Int),.int .i64 0]⟩)=some (.int .i64 (u:Int)):=rfl;have t2:A.z 2 (.tuple ⟨[str d',.int .i64 (u:Int),.int .i64 0]⟩)=some (.int .i64 0):=rfl;have d:A.zA prog .neq 45 (.int .i64 0) (.int .i64 0)=some (.bool false):=by rw[aK];rfl
   obtain⟨h1,h2,a1,a2,a3,a4,a5,a6⟩:=aMi ka sa xa.but false (u:=u) hu;refine⟨h2,?_,a5,a6⟩
   cases bad with
   |true=>simp only[F46,aMc,WzO.S,WzO.n0,Nat.add_zero,l0,e53,t0,t1,t2,l1,Bool.true_or]at a1⊢;simp only[a1,WzO.S,a2,a3,a4]
   |false=>simp only[F46,aMc,WzO.S,WzO.n0,Nat.add_zero,l0,e53,t0,t1,t2,l1,d,Bool.or_false]at a1⊢;simp only[a1,WzO.S,a2,a3,a4]
end
end Go.Proofs.YtohapjojkjjflaaGreatDoor.Wz

namespace Go.Proofs.YtohapjojkjjflaaGreatDoor.Wz
open Tryz (prog)
open Go Go.AM WzA
theorem bits {m:Nat}(hm:m∈[1,2,4,8,32,64,128]){c:Nat}(hc:c<256):∃x:Int,A.zA prog .and 5 (.int .u8 (c:Int)) (.int .u8 (m:Int))=some (.int .u8 x)∧decide ((0:Int)<x)=aO m c:=by
 have all:([1,2,4,8,32,64,128].all fun m:Nat=>(List.range 256).all fun c=>match A.zA prog .and 5 (.int .u8 (c:Int)) (.int .u8 (m:Int))with|some (.int .u8 x)=>decide ((0:Int)<x)==aO m c|_=>false)=true:=by kernel_rfl
 have:=List.all_eq_true.1 (List.all_eq_true.1 all m hm) c (List.mem_range.2 hc);split at this
 ·rename_i x hx;exact⟨x,hx,by simpa using this⟩
 ·cases this
theorem aUi {s:Nat}(hs:s∈[1,3]){c:Nat}(hc:c<256):∃x:Int,A.zA prog .shr 5 (.int .u8 (c:Int)) (.int .u64 (s:Int))=some (.int .u8 x)∧A.zA prog .and 5 (.int .u8 x) (.int .u8 3)=some (.int .u8 ((c / 2^s%4:Nat):Int)):=by
 have all:([1,3].all fun s:Nat=>(List.range 256).all fun c=>match A.zA prog .shr 5 (.int .u8 (c:Int)) (.int .u64 (s:Int))with|some (.int .u8 x)=>(match A.zA prog .and 5 (.int .u8 x) (.int .u8 3)with|some v=>AM.same v (.int .u8 ((c / 2^s%4:Nat):Int))|none=>false)|_=>false)=true:=by kernel_rfl
 have:=List.all_eq_true.1 (List.all_eq_true.1 all s hs) c (List.mem_range.2 hc);split at this
 ·rename_i x hx;split at this
  ·rename_i v hv;exact⟨x,hx,by rw[hv,same_eq _ _ this]⟩
  ·cases this
 ·cases this
section
variable {Q:Orc}{B:H}{val:List UInt8→Bool}(ka:KnA Q)(va:VA Q B val){h:H}{r:Nat}{l:List UInt8}{bad:Bool}{p:Pq}{w:Value}
include ka va
theorem a30 (k L:Nat)(hl:l.length≤1000300)(hB:Ext B h)(hr:B.next≤r)(s:RS h r l bad p w):∃h',(∀(β:Type) (kn:H→Option β),aTs (aA prog 2 Q (k+1000402)) L (aB r) h kn=aLn (aA prog 2 Q (k+1000402)) L (aB r) h' kn)∧RS h' r (cW val (l,bad,p)).1 (cW val (l,bad,p)).2.1 (cW val (l,bad,p)).2.2 w∧ExtBut (fun j=>j=r) h h':=by
 obtain⟨h1,e1,s1,x1⟩:=T32 ka va k hl hB s;have hB1:=aT hB x1 hr;obtain⟨a,ha⟩:∃a,a=aZ val l:=⟨_,rfl⟩;rw[←ha]at e1 s1;obtain⟨h2,e2,s2,x2,n2⟩:=T31 ka (k+1000401) s1;have e2:aA prog 2 Q (k+1000402) 45 [aB r] h1=_:=e2;obtain⟨b,hb⟩:∃b,b=bR a.2.1:=⟨_,rfl⟩;rw[←hb]at e2 s2;obtain⟨h3,e3,s3,x3,n3⟩:=s2.set (i:=9) (v:=.int .u8 (b.1:Int)) (l':=b.2.1) (bad':=(bad||a.2.2)||b.2.2) (p':={p with level:=b.1}) (w':=w) (by omega) rfl rfl;obtain⟨h4,e4,s4,x4,n4⟩:=T31 ka (k+1000401) s3;have e4:aA prog 2 Q (k+1000402) 45 [aB r] h3=_:=e4;obtain⟨c,hc⟩:∃c,c=bR b.2.1:=⟨_,rfl⟩;rw[←hc]at e4 s4;have hc8:c.1<256:=by rw[hc];exact eM _
 obtain⟨y1,b1,c1⟩:=bits (m:=1) (by decide) hc8;obtain⟨y2,b2,c2⟩:=bits (m:=2) (by decide) hc8;obtain⟨y4,b4,c4⟩:=bits (m:=4) (by decide) hc8;obtain⟨y32,b32,c32⟩:=bits (m:=32) (by decide) hc8;obtain⟨y64,b64,c64⟩:=bits (m:=64) (by decide) hc8;obtain⟨y128,b128,c128⟩:=bits (m:=128) (by decide) hc8;obtain⟨y3,sh3,an3⟩:=aUi (s:=3) (by decide) hc8;have b1:A.zA prog .and 5 (.int .u8 (c.1:Int)) (.int .u8 1)=_:=b1;have b2:A.zA prog .and 5 (.int .u8 (c.1:Int)) (.int .u8 2)=_:=b2;have b4:A.zA prog .and 5 (.int .u8 (c.1:Int)) (.int .u8 4)=_:=b4;have b32:A.zA prog .and 5 (.int .u8 (c.1:Int)) (.int .u8 32)=_:=b32;have b64:A.zA prog .and 5 (.int .u8 (c.1:Int)) (.int .u8 64)=_:=b64;have b128:A.zA prog .and 5 (.int .u8 (c.1:Int)) (.int .u8 128)=_:=b128;have sh3:A.zA prog .shr 5 (.int .u8 (c.1:Int)) (.int .u64 3)=_:=sh3;obtain⟨N,hN⟩:∃N:Bool,N=(if bad||a.2.2||b.2.2||c.2.2 then true else if a.1=MQTT then aO 1 c.1 else true):=⟨_,rfl⟩
 have l1:=s4.ld (i:=1) rfl;obtain⟨h5,e5,s5,x5,n5⟩:=s4.set (i:=1) (v:=.bool N) (l':=c.2.1) (bad':=N) (p':={p with level:=b.1}) (w':=w) (by omega) rfl rfl;obtain⟨h6,e6,s6,x6,n6⟩:=s5.set (i:=10) (v:=.bool (aO 2 c.1)) (l':=c.2.1) (bad':=N) (p':={p with level:=b.1,clean:=aO 2 c.1}) (w':=w) (by omega) rfl rfl;obtain⟨h7,e7,s7,x7,n7⟩:=s6.set (i:=13) (v:=.bool (aO 4 c.1)) (l':=c.2.1) (bad':=N) (p':={p with level:=b.1,clean:=aO 2 c.1,will:=aO 4 c.1}) (w':=w) (by omega) rfl rfl;obtain⟨h8,e8,s8,x8,n8⟩:=s7.set (i:=16) (v:=.int .u8 ((c.1 / 2^3%4:Nat):Int)) (l':=c.2.1) (bad':=N) (p':={p with level:=b.1,clean:=aO 2 c.1,will:=aO 4 c.1,wq:=c.1 / 8%4}) (w':=w) (by omega) rfl rfl;obtain⟨h9,e9,s9,x9,n9⟩:=s8.set (i:=17) (v:=.bool (aO 32 c.1)) (l':=c.2.1) (bad':=N) (p':={p with level:=b.1,clean:=aO 2 c.1,will:=aO 4 c.1,wq:=c.1 / 8%4,wr:=aO 32 c.1}) (w':=w) (by omega) rfl rfl;obtain⟨h10,e10,s10,x10,n10⟩:=s9.set (i:=19) (v:=.bool (aO 64 c.1)) (l':=c.2.1) (bad':=N) (p':={p with level:=b.1,clean:=aO 2 c.1,will:=aO 4 c.1,wq:=c.1 / 8%4,wr:=aO 32 c.1,hp:=aO 64 c.1}) (w':=w) (by omega) rfl rfl;obtain⟨h11,e11,s11,x11,n11⟩:=s10.set (i:=18) (v:=.bool (aO 128 c.1)) (l':=c.2.1) (bad':=N) (p':={p with level:=b.1,clean:=aO 2 c.1,will:=aO 4 c.1,wq:=c.1 / 8%4,wr:=aO 32 c.1,hp:=aO 64 c.1,hu:=aO 128 c.1}) (w':=w) (by omega) rfl rfl
 have hres:cW val (l,bad,p)=(c.2.1,N,{p with level:=b.1,clean:=aO 2 c.1,will:=aO 4 c.1,wq:=c.1 / 8%4,wr:=aO 32 c.1,hp:=aO 64 c.1,hu:=aO 128 c.1}):=by
  rw[hN,hc,hb,ha];rfl
 rw[hres];refine⟨h11,fun β kn=>?_,s11,((((((((((x1.trans x2).trans x3).trans x4).trans x5).trans x6).trans x7).trans x8).trans x9).trans x10).trans x11)⟩;have sm:A.zE (.string ⟨⟨[0,4,77,81,84,84]⟩⟩) (some (.int .i64 2)) none=some (str MQTT):=slS (l:=[0,4,77,81,84,84]) (k:=2) (by decide);have hne:A.zA prog .neq 9 (str a.1) (str MQTT)=some (.bool (!decide (a.1=MQTT))):=by
  rw[bW];congr 3;rw[decide_eq_decide];exact⟨fun e=>congrArg (fun b:ByteArray=>b.data.toList) e,fun e=>by rw[e]⟩
 have flag:∀K:Value→Value→H→Option β,aQq (aA prog 2 Q (k+1000402)) L (str a.1) (.int .u8 (c.1:Int)) (aB r) h4 K=K (.int .u8 (c.1:Int)) (aB r) h5:=by
  intro K
  cases hb0:(bad||a.2.2||b.2.2||c.2.2)with
  |true=>
   rw[hb0]at l1;have hNt:N=true:=by rw[hN,hb0];rfl
   rw[hNt]at e5;simp only[aQq,WzO.S,WzO.n0,Nat.add_zero,l1,e5]
  |false=>
   rw[hb0]at l1;by_cases hm:a.1=MQTT
   ·have hNt:N=aO 1 c.1:=by rw[hN,hb0];simp only[pB,if_false,kB hm]
    rw[hNt]at e5;rw[kC hm]at hne;simp only[aQq,WzO.S,WzO.n0,Nat.add_zero,l1,sm,hne,b1,zY,c1,e5]
   ·have hNt:N=true:=by rw[hN,hb0];simp only[pB,if_false,kA hm]
    rw[hNt]at e5;rw[kD hm]at hne;simp only[aQq,WzO.S,WzO.n0,Nat.add_zero,l1,sm,hne,e5]
 simp only[aTs,bYn,WzO.S,WzO.n0,Nat.add_zero,e1,e2,Nat.reduceAdd,e3,e4,flag,bYm,b2,zY,c2,e6,b4,c4,e7,sh3,an3,e8,bYl,b32,c32,e9,b64,c64,e10,b128,c128,e11]
end
end Go.Proofs.YtohapjojkjjflaaGreatDoor.Wz

namespace Go.Proofs.YtohapjojkjjflaaGreatDoor.Wz
open Tryz (prog)
open Go Go.AM WzA
section
variable {Q:Orc}{B:H}{val:List UInt8→Bool}(ka:KnA Q)(va:VA Q B val){h:H}{r:Nat}{s:CS}{w:Value}
include ka va
theorem b30 (k L:Nat)(hl:s.1.length≤1000300)(hB:Ext B h)(hr:B.next≤r)(q:RS h r s.1 s.2.1 s.2.2 w):∃h',(∀(β:Type) (kn:H→Option β),aLn (aA prog 2 Q (k+1000402)) L (aB r) h kn=aGs (aA prog 2 Q (k+1000402)) L (aB r) h' kn)∧RS h' r (bT val s).1 (bT val s).2.1 (bT val s).2.2 w∧ExtBut (fun j=>j=r) h h':=by
 obtain⟨h1,e1,s1,x1⟩:=T33 ka (k+1000400) (by omega) q;have e1:aA prog 2 Q (k+1000402) 47 [aB r] h=_:=e1;have hd:=bZ s.1;obtain⟨d,hdd⟩:∃d,d=aX s.1:=⟨_,rfl⟩;rw[←hdd]at e1 s1 hd;obtain⟨h2,e2,s2,x2,n2⟩:=s1.set (i:=11) (v:=.int .u16 (d.1:Int)) (l':=d.2.1) (bad':=s.2.1||d.2.2) (p':={s.2.2 with keep:=d.1}) (w':=w) (by omega) rfl rfl;have hB2:=aT (aT hB x1 hr) x2 hr;obtain⟨h3,e3,s3,x3⟩:=T32 ka va k (by omega) hB2 s2;obtain⟨e,he⟩:∃e,e=aZ val d.2.1:=⟨_,rfl⟩;rw[←he]at e3 s3;obtain⟨h4,e4,s4,x4,n4⟩:=s3.set (i:=12) (v:=str e.1) (l':=e.2.1) (bad':=s.2.1||d.2.2||e.2.2) (p':={s.2.2 with keep:=d.1,client:=e.1}) (w':=w) (by omega) rfl rfl;have hres:bT val s=(e.2.1,s.2.1||d.2.2||e.2.2,{s.2.2 with keep:=d.1,client:=e.1}):=by rw[he,hdd];rfl
 rw[hres];refine⟨h4,fun β kn=>?_,s4,((x1.trans x2).trans x3).trans x4⟩;simp only[aLn,bYk,WzO.S,WzO.n0,Nat.add_zero,Nat.reduceAdd,e1,e2,e3,e4]
theorem c30 (k L:Nat)(hl:s.1.length≤1000300)(hB:Ext B h)(hr:B.next≤r)(q:RS h r s.1 s.2.1 s.2.2 w):∃h',(∀(β:Type) (kn:H→Option β),aGs (aA prog 2 Q (k+1000402)) L (aB r) h kn=aFr (aA prog 2 Q (k+1000402)) L (aB r) h' kn)∧RS h' r (bH val s).1 (bH val s).2.1 (bH val s).2.2 w∧ExtBut (fun j=>j=r) h h':=by
 have l13:=q.ld (i:=13) rfl
 cases hw:s.2.2.will with
 |false=>
  have hres:bH val s=s:=by unfold bH;rw[hw];rfl
  rw[hres];have l13:A.load false 1 (.pointer (some ⟨r,13,none⟩)) h=some (.bool false):=l13.trans (congrArg (fun b=>some (Value.bool b)) hw);refine⟨h,fun β kn=>?_,q,⟨kF _,fun _ _ _=>rfl⟩⟩;simp only[aGs,bEr,WzO.S,WzO.n0,Nat.add_zero,Nat.reduceAdd,l13]
 |true=>
  have l13:A.load false 1 (.pointer (some ⟨r,13,none⟩)) h=some (.bool true):=l13.trans (congrArg (fun b=>some (Value.bool b)) hw);obtain⟨h1,e1,s1,x1⟩:=T32 ka va k hl hB q;have ht:=dR val s.1;obtain⟨a,ha⟩:∃a,a=aZ val s.1:=⟨_,rfl⟩;rw[←ha]at e1 s1 ht;obtain⟨h2,e2,s2,x2,n2⟩:=s1.set (i:=14) (v:=str a.1) (l':=a.2.1) (bad':=s.2.1||a.2.2) (p':={s.2.2 with wt:=a.1}) (w':=w) (by omega) rfl rfl;obtain⟨h3,e3,s3,x3⟩:=T52 ka (k+1000399) (by omega) s2;have e3:aA prog 2 Q (k+1000402) 67 [aB r] h2=_:=e3;obtain⟨b,hb⟩:∃b,b=aM a.2.1:=⟨_,rfl⟩;rw[←hb]at e3 s3;obtain⟨h4,e4,s4,x4,n4⟩:=s3.set (i:=15) (v:=str b.1) (l':=b.2.1) (bad':=s.2.1||a.2.2||b.2.2) (p':={s.2.2 with wt:=a.1,wp:=b.1}) (w':=w) (by omega) rfl rfl;have hres:bH val s=(b.2.1,s.2.1||a.2.2||b.2.2,{s.2.2 with wt:=a.1,wp:=b.1}):=by unfold bH;rw[hw,hb,ha];rfl
  rw[hres];refine⟨h4,fun β kn=>?_,s4,((x1.trans x2).trans x3).trans x4⟩;simp only[aGs,bEr,WzO.S,WzO.n0,Nat.add_zero,Nat.reduceAdd,l13,e1,e2,e3,e4]
theorem d30 (k L:Nat)(hl:s.1.length≤1000300)(hB:Ext B h)(q:RS h r s.1 s.2.1 s.2.2 w):∃h',(∀(β:Type) (kn:H→Option β),aFr (aA prog 2 Q (k+1000402)) L (aB r) h kn=kn h')∧RS h' r (bU (bY val s)).1 (bU (bY val s)).2.1 (bU (bY val s)).2.2 w∧ExtBut (fun j=>j=r) h h':=by
 have l18:=q.ld (i:=18) rfl;have pass:∀{hx:H} {t:CS},t.1.length≤1000300→RS hx r t.1 t.2.1 t.2.2 w→(t.2.2.hp=false→RS hx r (bU t).1 (bU t).2.1 (bU t).2.2 w)∧(t.2.2.hp=true→∃hy hz d,aA prog 2 Q (k+1000402) 67 [aB r] hx=some (str d,hy)∧A.store 1 (.pointer (some ⟨r,21,none⟩)) (str d) hy=some hz∧RS hz r (bU t).1 (bU t).2.1 (bU t).2.2 w∧ExtBut (fun j=>j=r) hx hz):=by
  intro hx t ht qx;refine⟨fun hp=>?_,fun hp=>?_⟩
  ·have:bU t=t:=by unfold bU;rw[hp];rfl
   rw[this];exact qx
  ·obtain⟨h3,e3,s3,x3⟩:=T52 ka (k+1000399) ht qx;have e3:aA prog 2 Q (k+1000402) 67 [aB r] hx=_:=e3;obtain⟨b,hb⟩:∃b,b=aM t.1:=⟨_,rfl⟩;rw[←hb]at e3 s3;obtain⟨h4,e4,s4,x4,n4⟩:=s3.set (i:=21) (v:=str b.1) (l':=b.2.1) (bad':=t.2.1||b.2.2) (p':={t.2.2 with pass:=b.1}) (w':=w) (by omega) rfl rfl;have hres:bU t=(b.2.1,t.2.1||b.2.2,{t.2.2 with pass:=b.1}):=by unfold bU;rw[hp,hb];rfl
   rw[hres];exact⟨h3,h4,b.1,e3,e4,s4,x3.trans x4⟩
 cases hu:s.2.2.hu with
 |false=>
  have hres:bY val s=s:=by unfold bY;rw[hu];rfl
  rw[hres];have l18:A.load false 1 (.pointer (some ⟨r,18,none⟩)) h=some (.bool false):=l18.trans (congrArg (fun b=>some (Value.bool b)) hu);obtain⟨pf,pt⟩:=pass hl q;have l19:=q.ld (i:=19) rfl
  cases hp:s.2.2.hp with
  |false=>
   have l19:A.load false 1 (.pointer (some ⟨r,19,none⟩)) h=some (.bool false):=l19.trans (congrArg (fun b=>some (Value.bool b)) hp);refine⟨h,fun β kn=>?_,pf hp,⟨kF _,fun _ _ _=>rfl⟩⟩;simp only[aFr,WzO.S,WzO.n0,Nat.add_zero,Nat.reduceAdd,l18,l19]
  |true=>
   have l19:A.load false 1 (.pointer (some ⟨r,19,none⟩)) h=some (.bool true):=l19.trans (congrArg (fun b=>some (Value.bool b)) hp);obtain⟨hy,hz,d,e1,e2,e3,x⟩:=pt hp;refine⟨hz,fun β kn=>?_,e3,x⟩;simp only[aFr,WzO.S,WzO.n0,Nat.add_zero,Nat.reduceAdd,l18,l19,e1,e2]
 |true=>
  have l18:A.load false 1 (.pointer (some ⟨r,18,none⟩)) h=some (.bool true):=l18.trans (congrArg (fun b=>some (Value.bool b)) hu);obtain⟨h1,e1,s1,x1⟩:=T32 ka va k hl hB q;have ht:=dR val s.1;obtain⟨a,ha⟩:∃a,a=aZ val s.1:=⟨_,rfl⟩;rw[←ha]at e1 s1 ht;obtain⟨h2,e2,s2,x2,n2⟩:=s1.set (i:=20) (v:=str a.1) (l':=a.2.1) (bad':=s.2.1||a.2.2) (p':={s.2.2 with user:=a.1}) (w':=w) (by omega) rfl rfl;have hres:bY val s=(a.2.1,s.2.1||a.2.2,{s.2.2 with user:=a.1}):=by unfold bY;rw[hu,ha];rfl
  rw[hres];obtain⟨pf,pt⟩:=pass (t:=(a.2.1,s.2.1||a.2.2,{s.2.2 with user:=a.1})) (by show a.2.1.length≤1000300;omega) s2;have l19:=s2.ld (i:=19) rfl
  cases hp:s.2.2.hp with
  |false=>
   have l19:A.load false 1 (.pointer (some ⟨r,19,none⟩)) h2=some (.bool false):=l19.trans (congrArg (fun b=>some (Value.bool b)) hp);refine⟨h2,fun β kn=>?_,pf hp,x1.trans x2⟩;simp only[aFr,WzO.S,WzO.n0,Nat.add_zero,Nat.reduceAdd,l18,e1,e2,l19]
  |true=>
   have l19:A.load false 1 (.pointer (some ⟨r,19,none⟩)) h2=some (.bool true):=l19.trans (congrArg (fun b=>some (Value.bool b)) hp);obtain⟨hy,hz,d,f1,f2,f3,x⟩:=pt hp;refine⟨hz,fun β kn=>?_,f3,(x1.trans x2).trans x⟩;simp only[aFr,WzO.S,WzO.n0,Nat.add_zero,Nat.reduceAdd,l18,e1,e2,l19,f1,f2]
omit ka va in
theorem aDm (val:List UInt8→Bool)(s:CS):(cW val s).1.length≤s.1.length:=by
 show(bR (bR (aZ val s.1).2.1).2.1).2.1.length≤_;have:=fJ (bR (aZ val s.1).2.1).2.1;have:=fJ (aZ val s.1).2.1;have:=(dR val s.1).1;omega
omit ka va in
theorem aAc (val:List UInt8→Bool)(s:CS):(bT val s).1.length≤s.1.length:=by
 show(aZ val (aX s.1).2.1).2.1.length≤_;have:=(dR val (aX s.1).2.1).1;have:=(bZ s.1).1;omega
omit ka va in
theorem aDi (val:List UInt8→Bool)(s:CS):(bH val s).1.length≤s.1.length:=by
 unfold bH;split
 ·show(aM (aZ val s.1).2.1).2.1.length≤_;have:=(fV (aZ val s.1).2.1).1;have:=(dR val s.1).1;omega
 ·exact kF _
theorem T30 (k:Nat)(hl:s.1.length≤1000300)(hB:Ext B h)(hr:B.next≤r)(q:RS h r s.1 s.2.1 s.2.2 w):∃h',aA prog 2 Q (k+1000403) 44 [aB r] h=some (.tuple ⟨[]⟩,h')∧RS h' r (eW val s).1 (eW val s).2.1 (eW val s).2.2 w∧ExtBut (fun j=>j=r) h h':=by
 rw[bWa Q (k+1000402) _ h (ka.fr 44 _ (by decide))];obtain⟨h1,e1,s1,x1⟩:=a30 ka va k (k+1000402) (l:=s.1) (bad:=s.2.1) (p:=s.2.2) hl hB hr q;have hA:cW val (s.1,s.2.1,s.2.2)=cW val s:=rfl;rw[hA]at s1;have lA:=aDm val s;obtain⟨h2,e2,s2,x2⟩:=b30 ka va k (k+1000402) (s:=cW val s) (by omega) (aT hB x1 hr) hr s1;have lB:=aAc val (cW val s);obtain⟨h3,e3,s3,x3⟩:=c30 ka va k (k+1000402) (s:=bT val (cW val s)) (by omega) (aT (aT hB x1 hr) x2 hr) hr s2;have lC:=aDi val (bT val (cW val s));obtain⟨h4,e4,s4,x4⟩:=d30 ka va k (k+1000402) (s:=bH val (bT val (cW val s))) (by omega) (aT (aT (aT hB x1 hr) x2 hr) x3 hr) s3;refine⟨h4,?_,s4,((x1.trans x2).trans x3).trans x4⟩;simp only[F44,e1,e2,e3,e4,WzO.S]
end
end Go.Proofs.YtohapjojkjjflaaGreatDoor.Wz

namespace Go.Proofs.YtohapjojkjjflaaGreatDoor.Wz
open Tryz (prog)
open Go Go.AM WzA
theorem bTz {h:H}{r tb:Nat}{l:List UInt8}{bad:Bool}{p:Pq}{w:Value}{es:List Sb}{s:Sb}{z:List Value}(hz:z.length=2)(q:RS h r l bad p w)(v:Vec 2 h w (es.map sbC))(g:h.get tb=some (.cells (sbC s) (some 0)))(sw:∀i,sid w=some i→i≠r)(hl:es.length≤1001000):
 ∃h1 h2 h3 w1 w2,A.load true 2 (aB tb) h=some (.agg ⟨sbC s⟩)∧A.load false 1 (.pointer (some ⟨r,24,none⟩)) h=some w∧A.zD 2 1 z [(0,2,.agg ⟨sbC s⟩)] h=some (w1,h1)∧A.zK 2 24 w w1 h1=some (w2,h2)∧A.store 1 (.pointer (some ⟨r,24,none⟩)) w2 h2=some h3∧
  RS h3 r l bad p w2∧Vec 2 h3 w2 ((es++[s]).map sbC)∧sid w2=some (h.next+1)∧ExtBut (fun i=>i=r∨sid w=some i) h h3∧h3.next=h.next+2:=by
 have l2:A.load true 2 (aB tb) h=some (.agg ⟨sbC s⟩):=by rw[bJ,g];rfl
 have lw:A.load false 1 (.pointer (some ⟨r,24,none⟩)) h=some w:=q.ld (i:=24) rfl;obtain⟨h1,hh1⟩:∃h1,h1=h.push (.cells (sbC s) (some 2)):=⟨_,rfl⟩;have e1:A.zD 2 1 z [(0,2,.agg ⟨sbC s⟩)] h=some (.slice (some ⟨h.next,0,none⟩) 1 3,h1):=by
  rw[hh1];exact cC h hz rfl rfl
 have x1:Ext h h1:=by rw[hh1];exact Ext.push h _
 have n1:h1.next=h.next+1:=by rw[hh1];rfl
 have s1:SliceE 2 h1 (.slice (some ⟨h.next,0,none⟩) 1 3) [sbC s]:=by rw[hh1];exact fU rfl
 obtain⟨h2,e2,v2,n2,x2⟩:=eZ (bs:=24) (v.ext x1) s1 (by simp) (by omega) (by rw[pA];simp;omega) (by rw[pA];simp;omega);have q2:RS h2 r l bad p w:=(q.ext x1).but x2 (fun e=>sw _ e rfl);obtain⟨w2,hw2⟩:∃w2,w2=Value.slice (some ⟨h1.next,0,none⟩) ((es.map sbC).length+[sbC s].length) (2*((es.map sbC).length+[sbC s].length)):=⟨_,rfl⟩;rw[←hw2]at e2 v2;obtain⟨h3,e3,q3,x3,n3⟩:=q2.set (i:=24) (v:=w2) (l':=l) (bad':=bad) (p':=p) (w':=w2) (by omega) (by rw[hw2];rfl) rfl;have hsid:sid w2=some (h.next+1):=by rw[hw2];show some h1.next=_;rw[n1]
 refine⟨h1,h2,h3,_,w2,l2,lw,e1,e2,e3,q3,?_,hsid,⟨by omega,fun i hi hs=>?_⟩,by omega⟩
 ·rw[List.map_append];refine v2.extBut x3 fun i hi e=>?_;rw[hsid]at hi;have:=q.lt;simp only[kE]at hi;omega
 ·rw[x3.get i (by omega) (fun e=>hs (.inl e)),x2.get i (by omega) (fun e=>hs (.inr e)),x1.get i hi]
section
variable {Q:Orc}{B:H}{val:List UInt8→Bool}(ka:KnA Q)(va:VA Q B val){r:Nat}{p:Pq}
include ka va
theorem cGn (k L:Nat)(hr:B.next≤r):
 ∀(d m:Nat) (h:H) (w:Value) (es:List Sb) (l:List UInt8) (bad:Bool),(bad=true∨l.length≤d)→d<m→l.length≤1000300→es.length+d≤1000900→Ext B h→RS h r l bad p w→Vec 2 h w (es.map sbC)→(∀i,sid w=some i→B.next≤i∧i≠r)→
  ∃h' w',(∀(kx:H→Option (Value×H)),tV (aA prog 2 Q (k+1000402)) L kx m (aB r) h=kx h')∧RS h' r (eO val p.kind d l bad).2.1 (eO val p.kind d l bad).2.2 p w'∧Vec 2 h' w' ((es++(eO val p.kind d l bad).1).map sbC)∧(∀i,sid w'=some i→B.next≤i∧i≠r)∧ExtBut (fun i=>i=r∨sid w=some i) h h':=by
 intro d
 induction d with
 |zero=>
  intro m h w es l bad hd hm hl hle hB q v sw;obtain⟨m,rfl⟩:∃r,m=r+1:=⟨m-1,by omega⟩;have l0:=q.ld (i:=0) rfl;have l1:=q.ld (i:=1) rfl;refine⟨h,w,fun kx=>?_,q,by rw[show(eO val p.kind 0 l bad).1=[]from rfl,List.append_nil];exact v,sw,⟨kF _,fun _ _ _=>rfl⟩⟩
  cases hbn:(A.zA prog .neq 9 (str l) (str []))with
  |none=>rw[bW]at hbn;cases hbn
  |some v0=>
   rw[bW]at hbn;simp only[kE]at hbn;rcases hd with rfl|hd
   ·subst hbn
    cases hdd:decide ((⟨⟨l⟩⟩:ByteArray)=⟨⟨[]⟩⟩)with
    |true=>simp only[tV,aAr,WzO.S,WzO.n0,Nat.add_zero,l0,bW,hdd]
    |false=>simp only[tV,aAr,WzO.S,WzO.n0,Nat.add_zero,l0,bW,hdd,l1]
   ·have:l=[]:=List.length_eq_zero_iff.1 (by omega);subst this;have hdd:decide ((⟨⟨[]⟩⟩:ByteArray)=⟨⟨[]⟩⟩)=true:=by simp
    simp only[decide_true,tV,aAr,WzO.S,WzO.n0,Nat.add_zero,l0,bW,hdd]
 |succ d ih=>
  intro m h w es l bad hd hm hl hle hB q v sw;obtain⟨m,rfl⟩:∃r,m=r+1:=⟨m-1,by omega⟩;have l0:=q.ld (i:=0) rfl;have l1:=q.ld (i:=1) rfl;have lk:=q.ld (i:=2) rfl;have hdec:decide ((⟨⟨l⟩⟩:ByteArray)=⟨⟨[]⟩⟩)=decide (l=[]):=decide_eq_decide.2 ⟨fun e=>congrArg (fun b:ByteArray=>b.data.toList) e,fun e=>by rw[e]⟩;by_cases hex:l=[]∨bad=true
  ·have hs:eO val p.kind (d+1) l bad=([],l,bad):=by show(if l=[]∨bad=true then _ else _)=_;rw[kB hex]
   rw[hs];refine⟨h,w,fun kx=>?_,q,by rw[List.append_nil];exact v,sw,⟨kF _,fun _ _ _=>rfl⟩⟩;by_cases hl0:l=[]
   ·rw[kC hl0]at hdec;simp only[tV,aAr,WzO.S,WzO.n0,Nat.add_zero,l0,bW,hdec]
   ·have hb:bad=true:=by rcases hex with h|h;exact absurd h hl0;exact h
    subst hb;rw[kD hl0]at hdec;simp only[tV,aAr,WzO.S,WzO.n0,Nat.add_zero,l0,bW,hdec,l1]
  ·have hl0:¬l=[]:=fun e=>hex (.inl e);have hb0:bad=false:=by cases bad;rfl;exact absurd (.inr rfl) hex
   subst hb0;rw[kD hl0]at hdec;obtain⟨h1,e1,q1,x1⟩:=T32 ka va k hl hB q;have ht:=dR val l;have hcut:=@sF val l;obtain⟨a,ha⟩:∃a,a=aZ val l:=⟨_,rfl⟩;rw[←ha]at e1 q1 ht hcut;have hx1:=x1.next;have hB1:=aT hB x1 hr;have v1:Vec 2 h1 w (es.map sbC):=v.extBut x1 (fun i hi e=>(sw i hi).2 e);have bd:A.zF WzA.Z56L [(0,1,str a.1)]=some (.agg ⟨sbC (a.1,0)⟩):=by kernel_rfl
   obtain⟨h2,hh2⟩:∃h2,h2=h1.push (.cells WzA.Z56L (some 0)):=⟨_,rfl⟩;have e2:A.zJ 2 WzA.Z56 h1=some (aB h1.next,h2):=by rw[hh2];rfl
   have x2:Ext h1 h2:=by rw[hh2];exact Ext.push h1 _
   have n2:h2.next=h1.next+1:=by rw[hh2];rfl
   obtain⟨h3,hh3⟩:∃h3,h3=h2.put h1.next (.cells (sbC (a.1,0)) (some 0)):=⟨_,rfl⟩;have g2:h2.get h1.next=some (.cells WzA.Z56L (some 0)):=by rw[hh2,H.get_push,kB rfl]
   have hcl:aJ (.agg ⟨sbC (a.1,0)⟩)=some (sbC (a.1,0)):=rfl;have e3:A.store 2 (aB h1.next) (.agg ⟨sbC (a.1,0)⟩) h2=some h3:=by rw[qU,g2,hcl,hh3];rfl
   have x3:Ext h1 h3:=by rw[hh3];exact x2.put _ _ (kF _)
   have n3:h3.next=h1.next+1:=by rw[hh3];exact n2
   have g3:h3.get h1.next=some (.cells (sbC (a.1,0)) (some 0)):=by rw[hh3,H.get_put,kB rfl]
   have q3:=q1.ext x3;have lk3:=q3.ld (i:=2) rfl;have next:∀(h4:H) (b:Nat×List UInt8×Bool),(b=if p.kind=8 then bR a.2.1 else(0,a.2.1,false))→b.2.1.length≤a.2.1.length→RS h4 r b.2.1 (a.2.2||b.2.2) p w→ExtBut (fun j=>j=r) h1 h4→h4.get h1.next=some (.cells (sbC (a.1,b.1)) (some 0))→h1.next<h4.next→∃h5 h6 h7 w1 w2 h' w',A.load true 2 (aB h1.next) h4=some (.agg ⟨sbC (a.1,b.1)⟩)∧A.load false 1 (.pointer (some ⟨r,24,none⟩)) h4=some w∧A.zD 2 1 WzA.Z56L [(0,2,.agg ⟨sbC (a.1,b.1)⟩)] h4=some (w1,h5)∧A.zK 2 24 w w1 h5=some (w2,h6)∧A.store 1 (.pointer (some ⟨r,24,none⟩)) w2 h6=some h7∧
    (∀(kx:H→Option (Value×H)),tV (aA prog 2 Q (k+1000402)) L kx m (aB r) h7=kx h')∧RS h' r (eO val p.kind (d+1) l false).2.1 (eO val p.kind (d+1) l false).2.2 p w'∧Vec 2 h' w' ((es++(eO val p.kind (d+1) l false).1).map sbC)∧(∀i,sid w'=some i→B.next≤i∧i≠r)∧ExtBut (fun i=>i=r∨sid w=some i) h h':=by
    intro h4 b hb hbl q4 x4 g4 l4;have hx4:=x4.next;have hq:=q.lt;have v4:Vec 2 h4 w (es.map sbC):=v1.extBut x4 (fun i hi e=>(sw i hi).2 e);obtain⟨h5,h6,h7,w1,w2,a1,a2,a3,a4,a5,q7,v7,s7,x7,n7⟩:=bTz (z:=WzA.Z56L) rfl q4 v4 g4 (fun i hi=>(sw i hi).2) (by omega);have hB7:Ext B h7:=by
     have hB4:=aT hB1 x4 hr;exact⟨kG hB4.next x7.next,fun i hi=>by
      rw[x7.get i (kH hi hB4.next) (fun e=>by rcases e with e|e;omega;have:=sw i e;omega)];exact hB4.get i hi⟩
    have hs:eO val p.kind (d+1) l false=((a.1,b.1)::(eO val p.kind d b.2.1 (a.2.2||b.2.2)).1,(eO val p.kind d b.2.1 (a.2.2||b.2.2)).2):=by
     show(if l=[]∨false=true then _ else _)=_
     rw[kA hex,hb,ha];rfl
    have hlen:(es++[(a.1,b.1)]).length=es.length+1:=by simp
    have hb1:=hB.next;have hdn:(a.2.2||b.2.2)=true∨b.2.1.length≤d:=by
     cases ha2:a.2.2 with
     |true=>exact .inl rfl
     |false=>
      have:=hcut ha2;rcases hd with hd|hd
      ·cases hd
      ·exact .inr (by omega)
    have hll:b.2.1.length≤1000300:=by omega
    have hle2:(es++[(a.1,b.1)]).length+d≤1000900:=by omega
    obtain⟨h',w',f1,f2,f3,f4,f5⟩:=ih m h7 w2 (es++[(a.1,b.1)]) b.2.1 (a.2.2||b.2.2) hdn (by omega) hll hle2 hB7 q7 v7 (fun i hi=>by rw[s7]at hi;simp only[kE]at hi;have:=(aT hB1 x4 hr).next;omega);rw[hs];refine⟨h5,h6,h7,w1,w2,h',w',a1,a2,a3,a4,a5,f1,f2,?_,f4,⟨by have:=f5.next;have:=x7.next;omega,fun i hi hn=>?_⟩⟩
    ·have:es++(a.1,b.1)::(eO val p.kind d b.2.1 (a.2.2||b.2.2)).1=(es++[(a.1,b.1)])++(eO val p.kind d b.2.1 (a.2.2||b.2.2)).1:=by rw[pT];rfl
     rw[this];exact f3
    ·rw[f5.get i (by have:=x7.next;omega) (fun e=>by rcases e with e|e;exact hn (.inl e);rw[s7]at e;simp only[kE]at e;omega),x7.get i (by omega) hn,x4.get i (by omega) (fun e=>hn (.inl e)),x1.get i hi (fun e=>hn (.inl e))]
   by_cases h8:p.kind=8
   ·have d8:decide ((p.kind:Int)=8)=true:=deq (by omega);obtain⟨h4,e4,q4,x4,n4⟩:=T31 ka (k+1000401) q3;have e4:aA prog 2 Q (k+1000402) 45 [aB r] h3=_:=e4;obtain⟨b,hb⟩:∃b,b=bR a.2.1:=⟨_,rfl⟩;have hbl:=fJ a.2.1;rw[←hb]at e4 q4 hbl;have hrn:=q1.lt;have g4:h4.get h1.next=some (.cells (sbC (a.1,0)) (some 0)):=by rw[x4.get _ (by omega) (by omega)];exact g3
    obtain⟨h4',hh4⟩:∃h4',h4'=h4.put h1.next (.cells (sbC (a.1,b.1)) (some 0)):=⟨_,rfl⟩;have e4':A.store 1 (.pointer (some ⟨h1.next,1,none⟩)) (.int .u8 (b.1:Int)) h4=some h4':=by rw[qU,g4,hh4];rfl
    have x4':ExtBut (fun j=>j=h1.next) h4 h4':=by rw[hh4];exact ExtBut.put ⟨kF _,fun _ _ _=>rfl⟩ _ _ rfl
    have n4':h4'.next=h4.next:=by rw[hh4];rfl
    obtain⟨h5,h6,h7,w1,w2,h',w',a1,a2,a3,a4,a5,f1,rest⟩:=next h4' b (by rw[kB h8];exact hb) hbl (q4.but x4' (by omega)) ⟨by omega,fun i hi hn=>by rw[x4'.get i (by omega) (by omega),x4.get i (by omega) hn,x3.get i hi]⟩ (by rw[hh4,H.get_put,kB rfl]) (by omega)
    refine⟨h',w',fun kx=>?_,rest⟩;simp only[tV,aAr,WzO.S,WzO.n0,Nat.add_zero,Nat.reduceAdd,l0,bW,hdec,l1,aWg,e1,bd,e2,e3,lk3,zQ,d8,e4,e4',aWf,a2,a1,a3,a4,a5,f1]
   ·have d8:decide ((p.kind:Int)=8)=false:=dne (by omega);obtain⟨h5,h6,h7,w1,w2,h',w',a1,a2,a3,a4,a5,f1,rest⟩:=next h3 (0,a.2.1,false) (by rw[kA h8]) (kF _) (by rw[Bool.or_false];exact q3) x3.but g3 (by omega)
    refine⟨h',w',fun kx=>?_,rest⟩;simp only[tV,aAr,WzO.S,WzO.n0,Nat.add_zero,Nat.reduceAdd,l0,bW,hdec,l1,aWg,e1,bd,e2,e3,lk3,zQ,d8,aWf,a2,a1,a3,a4,a5,f1]
end
end Go.Proofs.YtohapjojkjjflaaGreatDoor.Wz

namespace Go.Proofs.YtohapjojkjjflaaGreatDoor.Wz
open Tryz (prog)
open Go Go.AM WzA
section
variable {Q:Orc}{B:H}{val:List UInt8→Bool}(ka:KnA Q)(va:VA Q B val){h:H}{r:Nat}{s:CS}
include ka va
theorem cJw (k:Nat)(hl:s.1.length≤1000300)(hB:Ext B h)(hr:B.next≤r)(q:RS h r s.1 s.2.1 s.2.2 aF):∃h' w',aA prog 2 Q (k+1000403) 49 [aB r] h=some (.tuple ⟨[]⟩,h')∧RS h' r (cY val s).1.1 (cY val s).1.2.1 (cY val s).1.2.2 w'∧SliceE 2 h' w' ((cY val s).2.map sbC)∧(∀i,sid w'=some i→B.next≤i∧i≠r)∧ExtBut (fun j=>j=r) h h':=by
 rw[bVv Q (k+1000402) _ h (ka.fr 49 _ (by decide))];have lk:=q.ld (i:=2) rfl;have nl:∀i,sid aF=some i→B.next≤i∧i≠r:=fun i hi=>by simp[sid]at hi
 by_cases h9:s.2.2.kind=9
 ·have d9:decide ((s.2.2.kind:Int)=9)=true:=deq (by omega);obtain⟨h1,e1,q1,x1,n1⟩:=T34 ka (k+1000401) q;have e1:aA prog 2 Q (k+1000402) 48 [aB r] h=_:=e1;obtain⟨h2,e2,q2,x2,n2⟩:=q1.set (i:=25) (v:=str s.1) (l':=[]) (bad':=s.2.1) (p':={s.2.2 with codes:=s.1}) (w':=aF) (by omega) rfl rfl;have hs:cY val s=(([],s.2.1,{s.2.2 with codes:=s.1}),[]):=by unfold cY;rw[kB h9]
  rw[hs];refine⟨h2,aF,?_,q2,(Vec.nil 2 h2).slice,nl,x1.trans x2⟩;simp only[F49,aHf,aQp,WzO.S,WzO.n0,Nat.add_zero,Nat.reduceAdd,lk,aQo,zQ,d9,bYi,e1,e2]
 have d9:decide ((s.2.2.kind:Int)=9)=false:=dne (by omega);by_cases h8:s.2.2.kind=8∨s.2.2.kind=10
 ·have hs:cY val s=(((eO val s.2.2.kind (s.1.length+1) s.1 s.2.1).2.1,(eO val s.2.2.kind (s.1.length+1) s.1 s.2.1).2.2,s.2.2),(eO val s.2.2.kind (s.1.length+1) s.1 s.2.1).1):=by unfold cY;rw[kA h9,kB h8]
  rw[hs];obtain⟨h',w',f,q',v',s',x'⟩:=cGn ka va (p:=s.2.2) k (k+1000402) hr (s.1.length+1) (k+1000402) h aF [] s.1 s.2.1 (.inr (Nat.le_succ _)) (by omega) hl (by simp;omega) hB q (Vec.nil 2 h) nl;refine⟨h',w',?_,q',?_,s',⟨x'.next,fun i hi hn=>x'.get i hi (fun e=>by rcases e with e|e;exact hn e;simp[sid]at e)⟩⟩
  ·obtain⟨M,hM⟩:∃M,M=k+1000402:=⟨_,rfl⟩;rw[←hM]at f⊢;rcases h8 with h8|h10
   ·have d8:decide ((s.2.2.kind:Int)=8)=true:=deq (by omega);simp only[F49,aHf,aQp,WzO.S,WzO.n0,Nat.add_zero,Nat.reduceAdd,lk,aQo,zQ,d9,aWh,d8,f]
   ·have d8:decide ((s.2.2.kind:Int)=8)=false:=dne (by omega);have d10:decide ((s.2.2.kind:Int)=10)=true:=deq (by omega);simp only[F49,aHf,aQp,WzO.S,WzO.n0,Nat.add_zero,Nat.reduceAdd,lk,aQo,zQ,d9,aWh,d8,d10,f]
  ·rw[List.nil_append]at v';exact v'.slice
 ·have d8:decide ((s.2.2.kind:Int)=8)=false:=dne (by omega);have d10:decide ((s.2.2.kind:Int)=10)=false:=dne (by omega);have hs:cY val s=(s,[]):=by unfold cY;rw[kA h9,kA h8]
  rw[hs];refine⟨h,aF,?_,q,(Vec.nil 2 h).slice,nl,⟨kF _,fun _ _ _=>rfl⟩⟩;simp only[F49,aHf,aQp,WzO.S,WzO.n0,Nat.add_zero,Nat.reduceAdd,lk,aQo,zQ,d9,aWh,d8,d10,bYj]
theorem T17 (k:Nat){fl:Nat}(hf:fl<16)(hl:s.1.length≤1000300)(hB:Ext B h)(hr:B.next≤r)(q:RS h r s.1 s.2.1 s.2.2 aF):∃h' w',aA prog 2 Q (k+1000404) 27 [aB r,.int .u8 (fl:Int)] h=some (.tuple ⟨[]⟩,h')∧RS h' r (fI val fl s).1.1 (fI val fl s).1.2.1 (fI val fl s).1.2.2 w'∧SliceE 2 h' w' ((fI val fl s).2.map sbC)∧(∀i,sid w'=some i→B.next≤i∧i≠r)∧ExtBut (fun j=>j=r) h h':=by
 rw[bWq Q (k+1000403) _ _ h (ka.fr 27 _ (by decide))];have lk:=q.ld (i:=2) rfl;have nl:∀i,sid aF=some i→B.next≤i∧i≠r:=fun i hi=>by simp[sid]at hi
 by_cases k1:s.2.2.kind=1
 ·have d1:decide ((s.2.2.kind:Int)=1)=true:=deq (by omega);have hs:fI val fl s=(eW val s,[]):=by unfold fI;rw[kB k1]
  rw[hs];obtain⟨h1,e1,q1,x1⟩:=T30 ka va k hl hB hr q;refine⟨h1,aF,?_,q1,(Vec.nil 2 h1).slice,nl,x1⟩;simp only[F27,tX,xJ,WzO.S,WzO.n0,Nat.add_zero,lk,xI,zQ,d1,cAm,e1]
 have d1:decide ((s.2.2.kind:Int)=1)=false:=dne (by omega);by_cases k2:s.2.2.kind=2
 ·have d2:decide ((s.2.2.kind:Int)=2)=true:=deq (by omega);have hs:fI val fl s=(wA s,[]):=by unfold fI;rw[kA k1,kB k2]
  rw[hs];obtain⟨h1,e1,q1,x1,n1⟩:=T31 ka (k+1000402) q;have e1:aA prog 2 Q (k+1000403) 45 [aB r] h=_:=e1;have ha8:=eM s.1;obtain⟨a,ha⟩:∃a,a=bR s.1:=⟨_,rfl⟩;rw[←ha]at e1 q1 ha8;obtain⟨N,hN⟩:∃N:Bool,N=(if s.2.1||a.2.2 then true else decide (1<a.1)):=⟨_,rfl⟩
  have l1:=q1.ld (i:=1) rfl;obtain⟨h2,e2,q2,x2,n2⟩:=q1.set (i:=1) (v:=.bool N) (l':=a.2.1) (bad':=N) (p':=s.2.2) (w':=aF) (by omega) rfl rfl;obtain⟨h3,e3,q3,x3,n3⟩:=q2.set (i:=22) (v:=.bool (decide (a.1=1))) (l':=a.2.1) (bad':=N) (p':={s.2.2 with present:=decide (a.1=1)}) (w':=aF) (by omega) rfl rfl;obtain⟨h4,e4,q4,x4,n4⟩:=T31 ka (k+1000402) q3;have e4:aA prog 2 Q (k+1000403) 45 [aB r] h3=_:=e4;obtain⟨b,hb⟩:∃b,b=bR a.2.1:=⟨_,rfl⟩;rw[←hb]at e4 q4;obtain⟨h5,e5,q5,x5,n5⟩:=q4.set (i:=23) (v:=.int .u8 (b.1:Int)) (l':=b.2.1) (bad':=N||b.2.2) (p':={s.2.2 with present:=decide (a.1=1),code:=b.1}) (w':=aF) (by omega) rfl rfl;have hres:wA s=(b.2.1,N||b.2.2,{s.2.2 with present:=decide (a.1=1),code:=b.1}):=by rw[hN,hb,ha];rfl
  rw[hres];have dq:decide ((a.1:Int)=1)=decide (a.1=1):=decide_eq_decide.2 (by omega);have dg:decide ((1:Int)<(a.1:Int))=decide (1<a.1):=decide_eq_decide.2 (by omega);refine⟨h5,aF,?_,q5,(Vec.nil 2 h5).slice,nl,((((x1.trans x2).trans x3).trans x4).trans x5)⟩
  cases hb0:(s.2.1||a.2.2)with
  |true=>
   have l1:=l1.trans (congrArg (fun b=>some (Value.bool b)) hb0);have hNt:N=true:=by rw[hN,hb0];rfl
   rw[hNt]at e2;simp only[F27,tX,xJ,WzO.S,WzO.n0,Nat.add_zero,Nat.reduceAdd,lk,xI,zQ,d1,aAt,d2,bFw,e1,l1,e2,dq,e3,e4,e5]
  |false=>
   have l1:=l1.trans (congrArg (fun b=>some (Value.bool b)) hb0);have hNt:N=decide (1<a.1):=by rw[hN,hb0];rfl
   rw[hNt]at e2;simp only[F27,tX,xJ,WzO.S,WzO.n0,Nat.add_zero,Nat.reduceAdd,lk,xI,zQ,zY,d1,aAt,d2,bFw,e1,l1,dg,e2,dq,e3,e4,e5]
 have d2:decide ((s.2.2.kind:Int)=2)=false:=dne (by omega);by_cases k3:s.2.2.kind=3
 ·have d3:decide ((s.2.2.kind:Int)=3)=true:=deq (by omega);have hs:fI val fl s=(jR val fl s,[]):=by unfold fI;rw[kA k1,kA k2,kB k3]
  rw[hs];obtain⟨y8,b8,c8⟩:=bits (m:=8) (by decide) (show fl<256 by omega);obtain⟨y1,b1,c1⟩:=bits (m:=1) (by decide) (show fl<256 by omega);obtain⟨y3,sh,an⟩:=aUi (s:=1) (by decide) (show fl<256 by omega);have b8:A.zA prog .and 5 (.int .u8 (fl:Int)) (.int .u8 8)=_:=b8;have b1:A.zA prog .and 5 (.int .u8 (fl:Int)) (.int .u8 1)=_:=b1;have sh:A.zA prog .shr 5 (.int .u8 (fl:Int)) (.int .u64 1)=_:=sh;have an:A.zA prog .and 5 (.int .u8 y3) (.int .u8 3)=some (.int .u8 ((fl / 2%4:Nat):Int)):=an;obtain⟨h1,e1,q1,x1,n1⟩:=q.set (i:=3) (v:=.bool (aO 8 fl)) (l':=s.1) (bad':=s.2.1) (p':={s.2.2 with dup:=aO 8 fl}) (w':=aF) (by omega) rfl rfl;obtain⟨h2,e2,q2,x2,n2⟩:=q1.set (i:=4) (v:=.int .u8 ((fl / 2%4:Nat):Int)) (l':=s.1) (bad':=s.2.1) (p':={s.2.2 with dup:=aO 8 fl,qos:=fl / 2%4}) (w':=aF) (by omega) rfl rfl;obtain⟨h3,e3,q3,x3,n3⟩:=q2.set (i:=5) (v:=.bool (aO 1 fl)) (l':=s.1) (bad':=s.2.1) (p':={s.2.2 with dup:=aO 8 fl,qos:=fl / 2%4,retain:=aO 1 fl}) (w':=aF) (by omega) rfl rfl;have hB3:Ext B h3:=aT (aT (aT hB x1 hr) x2 hr) x3 hr;obtain⟨h4,e4,q4,x4⟩:=T32 ka va (k+1) hl hB3 q3;have ht:=dR val s.1;obtain⟨a,ha⟩:∃a,a=aZ val s.1:=⟨_,rfl⟩;rw[←ha]at e4 q4 ht;have e4:=(congrArg (fun n=>aA prog 2 Q n 46 [aB r] h3) (show k+1000403=k+1+1000402 by omega)).trans e4
  obtain⟨h5,e5,q5,x5,n5⟩:=q4.set (i:=7) (v:=str a.1) (l':=a.2.1) (bad':=s.2.1||a.2.2) (p':={s.2.2 with dup:=aO 8 fl,qos:=fl / 2%4,retain:=aO 1 fl,topic:=a.1}) (w':=aF) (by omega) rfl rfl;have lq:A.load false 1 (.pointer (some ⟨r,4,none⟩)) h5=some (.int .u8 ((fl / 2%4:Nat):Int)):=q5.ld (i:=4) rfl;have x05:=(((x1.trans x2).trans x3).trans x4).trans x5;by_cases hq:0<fl / 2%4
  ·have dq:decide ((0:Int)<((fl / 2%4:Nat):Int))=true:=kC (by omega);obtain⟨h6,e6,q6,x6⟩:=T33 ka (k+1000401) (by omega) q5;have e6:aA prog 2 Q (k+1000403) 47 [aB r] h5=_:=e6;obtain⟨b,hb⟩:∃b,b=aX a.2.1:=⟨_,rfl⟩;rw[←hb]at e6 q6;obtain⟨h7,e7,q7,x7,n7⟩:=q6.set (i:=6) (v:=.int .u16 (b.1:Int)) (l':=b.2.1) (bad':=s.2.1||a.2.2||b.2.2) (p':={s.2.2 with dup:=aO 8 fl,qos:=fl / 2%4,retain:=aO 1 fl,topic:=a.1,id:=b.1}) (w':=aF) (by omega) rfl rfl;obtain⟨h8,e8,q8,x8,n8⟩:=T34 ka (k+1000402) q7;have e8:aA prog 2 Q (k+1000403) 48 [aB r] h7=_:=e8;obtain⟨h9,e9,q9,x9,n9⟩:=q8.set (i:=8) (v:=str b.2.1) (l':=[]) (bad':=s.2.1||a.2.2||b.2.2) (p':={s.2.2 with dup:=aO 8 fl,qos:=fl / 2%4,retain:=aO 1 fl,topic:=a.1,id:=b.1,payload:=b.2.1}) (w':=aF) (by omega) rfl rfl;have hres:jR val fl s=([],s.2.1||a.2.2||b.2.2,{s.2.2 with dup:=aO 8 fl,qos:=fl / 2%4,retain:=aO 1 fl,topic:=a.1,id:=b.1,payload:=b.2.1}):=by unfold jR;simp only[kB hq];rw[hb,ha]
   rw[hres];refine⟨h9,aF,?_,q9,(Vec.nil 2 h9).slice,nl,(((x05.trans x6).trans x7).trans x8).trans x9⟩;simp only[F27,tX,xJ,WzO.S,WzO.n0,Nat.add_zero,Nat.reduceAdd,lk,xI,zQ,zY,d1,aAt,d2,aFs,d3,bFy,b8,c8,sh,an,b1,c1,e1,e2,e3,bFx,e4,e5,lq,dq,e6,e7,e8,e9]
  ·have dq:decide ((0:Int)<((fl / 2%4:Nat):Int))=false:=kD (by omega);obtain⟨h8,e8,q8,x8,n8⟩:=T34 ka (k+1000402) q5;have e8:aA prog 2 Q (k+1000403) 48 [aB r] h5=_:=e8;obtain⟨h9,e9,q9,x9,n9⟩:=q8.set (i:=8) (v:=str a.2.1) (l':=[]) (bad':=s.2.1||a.2.2) (p':={s.2.2 with dup:=aO 8 fl,qos:=fl / 2%4,retain:=aO 1 fl,topic:=a.1,payload:=a.2.1}) (w':=aF) (by omega) rfl rfl;have hres:jR val fl s=([],s.2.1||a.2.2,{s.2.2 with dup:=aO 8 fl,qos:=fl / 2%4,retain:=aO 1 fl,topic:=a.1,payload:=a.2.1}):=by unfold jR;simp only[kA hq,Bool.or_false];rw[ha]
   rw[hres];refine⟨h9,aF,?_,q9,(Vec.nil 2 h9).slice,nl,(x05.trans x8).trans x9⟩;simp only[F27,tX,xJ,WzO.S,WzO.n0,Nat.add_zero,Nat.reduceAdd,lk,xI,zQ,zY,d1,aAt,d2,aFs,d3,bFy,b8,c8,sh,an,b1,c1,e1,e2,e3,bFx,e4,e5,lq,dq,e8,e9]
 have d3:decide ((s.2.2.kind:Int)=3)=false:=dne (by omega);by_cases k12:s.2.2.kind=12∨s.2.2.kind=13∨s.2.2.kind=14
 ·have hs:fI val fl s=(s,[]):=by unfold fI;rw[kA k1,kA k2,kA k3,kB k12]
  rw[hs];refine⟨h,aF,?_,q,(Vec.nil 2 h).slice,nl,⟨kF _,fun _ _ _=>rfl⟩⟩;rcases k12 with c|c|c
  ·have d12:decide ((s.2.2.kind:Int)=12)=true:=deq (by omega);simp only[F27,tX,xJ,WzO.S,WzO.n0,Nat.add_zero,lk,xI,zQ,d1,aAt,d2,aFs,d3,aRk,d12,aRj]
  ·have d12:decide ((s.2.2.kind:Int)=12)=false:=dne (by omega);have d13:decide ((s.2.2.kind:Int)=13)=true:=deq (by omega);simp only[F27,tX,xJ,WzO.S,WzO.n0,Nat.add_zero,lk,xI,zQ,d1,aAt,d2,aFs,d3,aRk,d12,d13,aRj]
  ·have d12:decide ((s.2.2.kind:Int)=12)=false:=dne (by omega);have d13:decide ((s.2.2.kind:Int)=13)=false:=dne (by omega);have d14:decide ((s.2.2.kind:Int)=14)=true:=deq (by omega);simp only[F27,tX,xJ,WzO.S,WzO.n0,Nat.add_zero,lk,xI,zQ,d1,aAt,d2,aFs,d3,aRk,d12,d13,d14,aRj]
 have d12:decide ((s.2.2.kind:Int)=12)=false:=dne (by omega);have d13:decide ((s.2.2.kind:Int)=13)=false:=dne (by omega);have d14:decide ((s.2.2.kind:Int)=14)=false:=dne (by omega);obtain⟨h1,e1,q1,x1⟩:=T33 ka (k+1000401) (by omega) q;have e1:aA prog 2 Q (k+1000403) 47 [aB r] h=_:=e1;have hwl:=bZ s.1;obtain⟨b,hb⟩:∃b,b=aX s.1:=⟨_,rfl⟩;rw[←hb]at e1 q1 hwl;obtain⟨h2,e2,q2,x2,n2⟩:=q1.set (i:=6) (v:=.int .u16 (b.1:Int)) (l':=b.2.1) (bad':=s.2.1||b.2.2) (p':={s.2.2 with id:=b.1}) (w':=aF) (by omega) rfl rfl;have hs:fI val fl s=cY val (b.2.1,s.2.1||b.2.2,{s.2.2 with id:=b.1}):=by unfold fI;rw[kA k1,kA k2,kA k3,kA k12,←hb]
 rw[hs];obtain⟨h3,w',e3,q3,s3,sw3,x3⟩:=cJw ka va k (s:=(b.2.1,s.2.1||b.2.2,{s.2.2 with id:=b.1})) (by show b.2.1.length≤1000300;omega) (aT (aT hB x1 hr) x2 hr) hr q2;refine⟨h3,w',?_,q3,s3,sw3,(x1.trans x2).trans x3⟩;simp only[F27,tX,xJ,WzO.S,WzO.n0,Nat.add_zero,Nat.reduceAdd,lk,xI,zQ,d1,aAt,d2,aFs,d3,aRk,d12,d13,d14,aRj,e1,e2,e3]
end
end Go.Proofs.YtohapjojkjjflaaGreatDoor.Wz

namespace Go.Proofs.YtohapjojkjjflaaGreatDoor.Wz
open Tryz (prog)
open Go Go.AM WzA
section
variable {Q:Orc}(ka:KnA Q){h:H}
include ka
theorem cGs (C:CF)(L:Nat){l:List UInt8}(hl:l.length≤1001000):
 ∀(d m scale n used:Nat),used+d=4→d<m→used≤l.length→scale=128^used→n<128^used→∀(β:Type) (kr:Value→Value→Value→H→Option β) (kx:H→Option β),kx h=kr (.int .i64 0) (.int .i64 0) (.int .i64 4) h→
  xM C L kr kx m (.int .i64 (scale:Int)) (.int .i64 (n:Int)) (.int .i64 (used:Int)) (str l) h=kr (.int .i64 ((rlF l d scale n used).1:Int)) (.int .i64 ((rlF l d scale n used).2.1:Int)) (.int .i64 ((rlF l d scale n used).2.2:Int)) h:=by
 have _:=ka;intro d
 induction d with
 |zero=>
  intro m scale n used hu hm hle hs hn β kr kx hkx;obtain⟨m,rfl⟩:∃r,m=r+1:=⟨m-1,by omega⟩;have d4:decide ((used:Int)<4)=false:=by rw[kI];omega
  simp only[xM,aKn,zZ,d4,WzO.S];exact hkx
 |succ d ih=>
  intro m scale n used hu hm hle hs hn β kr kx hkx;obtain⟨m,rfl⟩:∃r,m=r+1:=⟨m-1,by omega⟩;have d4:decide ((used:Int)<4)=true:=by rw[kJ];omega
  have hsc:scale≤2097152∧128^(used+1)=scale*128:=by
   refine⟨?_,by rw[hs,Nat.pow_succ]⟩;rw[hs];have:used≤3:=by omega
   exact Nat.pow_le_pow_right (by omega) this
  cases hb:l[used]? with
  |none=>
   have hz:used=l.length:=by have:=List.getElem?_eq_none_iff.1 hb;omega
   have de:decide ((used:Int)=(l.length:Int))=true:=by rw[kJ];omega
   have hr:rlF l (d+1) scale n used=(0,0,2):=by show(match l[used]? with|none=>_|some b=>_)=_;rw[hb]
   rw[hr];simp only[xM,aKn,zZ,d4,WzO.S,aRl,qJ,zQ,de];rfl
  |some b=>
   have hlt:=(List.getElem?_eq_some_iff.1 hb).1;have de:decide ((used:Int)=(l.length:Int))=false:=by rw[kI];omega
   have ix:=ixS hb;have cv:=dU b.toNat b.toNat_lt;have wu:IntKind.i64.wrap ((used:Int)+1)=((used+1:Nat):Int):=aI (by omega);have rm:A.zA prog .rem 3 (.int .i64 (b.toNat:Int)) (.int .i64 128)=_:=bDc (a:=b.toNat) (c:=128) (by omega);have hm128:b.toNat%128<128:=Nat.mod_lt _ (by omega);obtain⟨y,hy⟩:∃y,y=b.toNat%128:=⟨_,rfl⟩;rw[←hy]at rm hm128;have hys:y*scale≤127*scale:=Nat.mul_le_mul_right _ (by omega);have ml:A.zA prog .mul 3 (.int .i64 (y:Int)) (.int .i64 (scale:Int))=some (.int .i64 ((y*scale:Nat):Int)):=by
    have e:(y:Int)*(scale:Int)=((y*scale:Nat):Int):=by rw[Int.natCast_mul]
    rw[gV,e,aS (by omega) (by omega)]
   have ad:A.zA prog .add 3 (.int .i64 (n:Int)) (.int .i64 ((y*scale:Nat):Int))=some (.int .i64 ((n+y*scale:Nat):Int)):=by
    have e:(n:Int)+((y*scale:Nat):Int)=((n+y*scale:Nat):Int):=by omega
    rw[aG,e,aS (by omega) (by omega)]
   have au:A.zA prog .add 3 (.int .i64 (used:Int)) (.int .i64 1)=some (.int .i64 ((used+1:Nat):Int)):=by rw[aG,wu]
   have ms:A.zA prog .mul 3 (.int .i64 (scale:Int)) (.int .i64 128)=some (.int .i64 ((scale*128:Nat):Int)):=by
    have e:(scale:Int)*128=((scale*128:Nat):Int):=by omega
    rw[gV,e,aS (by omega) (by omega)]
   by_cases h128:b.toNat<128
   ·have dl:decide ((b.toNat:Int)<128)=true:=by rw[kJ];omega
    have hr:rlF l (d+1) scale n used=(n+y*scale,used+1,0):=by show(match l[used]? with|none=>_|some b=>_)=_;rw[hb];simp only[kB h128];rw[hy]
    rw[hr];simp only[xM,aKn,zZ,d4,WzO.S,aRl,qJ,zQ,de,ix,cv,au,rm,ml,ad,dl];rfl
   ·have dl:decide ((b.toNat:Int)<128)=false:=by rw[kI];omega
    have hr:rlF l (d+1) scale n used=rlF l d (scale*128) (n+y*scale) (used+1):=by show(match l[used]? with|none=>_|some b=>_)=_;rw[hb];simp only[kA h128];rw[hy]
    rw[hr];have:=ih m (scale*128) (n+y*scale) (used+1) (by omega) (by omega) (by omega) (by rw[hsc.2]) (by rw[hsc.2];omega) β kr kx hkx;simp only[xM,aKn,zZ,d4,WzO.S,aRl,qJ,zQ,de,ix,cv,au,rm,ml,ad,dl,ms,this]
theorem T16 (k:Nat){l:List UInt8}(hl:l.length≤1001000):aA prog 2 Q (k+7) 26 [str l] h=some (.tuple ⟨[.int .i64 ((rlF l 4 1 0 0).1:Int),.int .i64 ((rlF l 4 1 0 0).2.1:Int),.int .i64 ((rlF l 4 1 0 0).2.2:Int)]⟩,h):=by
 rw[bWr Q (k+6) _ h (ka.fr 26 _ (by decide))];have lp:=cGs ka (h:=h) (aA prog 2 Q (k+6)) (k+6) hl 4 (k+6) 1 0 0 (by omega) (by omega) (pQ _) rfl (by decide) (Value×H) (fun x2 x3 x4 h=>some (.tuple ⟨[x2,x3,x4]⟩,h)) (fun h=>bFz (aA prog 2 Q (k+6)) (k+6) h (fun x2 x3 x4 h=>some (.tuple ⟨[x2,x3,x4]⟩,h))) rfl;have lp:xM (aA prog 2 Q (k+6)) (k+6) (fun x2 x3 x4 h=>some (Value.tuple ⟨[x2,x3,x4]⟩,h)) (fun h=>bFz (aA prog 2 Q (k+6)) (k+6) h (fun x2 x3 x4 h=>some (Value.tuple ⟨[x2,x3,x4]⟩,h))) (k+6) (.int .i64 1) (.int .i64 0) (.int .i64 0) (str l) h=_:=lp;generalize k+6=M at lp⊢;simp only[F26,bAm,cAn,WzO.S];exact lp
end
end Go.Proofs.YtohapjojkjjflaaGreatDoor.Wz

namespace Go.Proofs.YtohapjojkjjflaaGreatDoor.Wz
open Tryz (prog)
open Go Go.AM
structure Bd (p:Pq)(es:List Sb):Prop where
 kind:p.kind<256
 qos:p.qos<256
 id:p.id<65536
 level:p.level<256
 keep:p.keep<65536
 wq:p.wq<256
 code:p.code<256
 topic:p.topic.length≤1000300
 payload:p.payload.length≤1000300
 client:p.client.length≤1000300
 wt:p.wt.length≤1000300
 wp:p.wp.length≤1000300
 user:p.user.length≤1000300
 pass:p.pass.length≤1000300
 codes:p.codes.length≤1000300
 len:es.length≤1000301
 es:∀s∈es,s.1.length≤1000300∧s.2<256
structure RG (Q:Orc)(B:H)(rgt:Pq→List Sb→Bool):Prop where
 rg:∀(k:Nat) (h:H) (p:Pq) (es:List Sb) (w:Value),Ext B h→Bd p es→SliceE 2 h w (es.map sbC)→∃h',aA prog 2 Q (k+1001000) 28 [.agg ⟨p.cells w⟩] h=some (.bool (rgt p es),h')∧Ext h h'
theorem bXg {l:List UInt8}(h:6≤l.length):A.zE (str l) none (some (.int .i64 6))=some (str (l.take 6)):=by
 show(match(bif Nat.ble 6 l.length then some (some 6)else none)with|none=>none|some h=>match A.zM (h.getD l.length) none with|none=>none|some q=>some (Value.string ⟨⟨(l.drop (q.getD 0)).take (h.getD l.length-q.getD 0)⟩⟩))=_
 rw[show Nat.ble 6 l.length=true from ble_iff.2 h];rfl
theorem bHv {h:H}{r:Nat}{zs:List Value}(hz:zs.length=24)(g:h.get r=some (.cells zs (some 0)))(p:Pq)(w:Value):
 ∃h',A.store 24 (aB r) (.agg ⟨p.cells w⟩) h=some h'∧A.load true 24 (aB r) h'=some (.agg ⟨p.cells w⟩)∧ExtBut (fun i=>i=r) h h':=by
 obtain⟨h',hh⟩:∃h',h'=h.put r (.cells (p.cells w) (some 0)):=⟨_,rfl⟩;have hcl:aJ (.agg ⟨p.cells w⟩)=some (p.cells w):=rfl;refine⟨h',?_,by rw[bJ,hh,H.get_put,kB rfl];rfl,by rw[hh];exact ExtBut.put ⟨kF _,fun _ _ _=>rfl⟩ _ _ rfl⟩;rw[qU,g,hcl];have e1:Nat.beq (p.cells w).length 24=true:=rfl;have e2:Nat.ble (0+24) zs.length=true:=ble_iff.2 (by omega);have e3:splice zs 0 (p.cells w)=p.cells w:=by
  simp only[splice,List.take_zero,List.nil_append,Nat.zero_add];rw[pL (by rw[hz];exact kF _),List.append_nil]
 simp only[e1,e2,Bool.and_self,cond_true,e3];rw[hh]
theorem RS.packet {h:H}{r:Nat}{l:List UInt8}{bad:Bool}{p:Pq}{w:Value}(s:RS h r l bad p w):A.load true 24 (.pointer (some ⟨r,2,none⟩)) h=some (.agg ⟨p.cells w⟩):=by
 rw[bJ,s.get];rfl
theorem cV (a b:List UInt8):A.zA prog .eql 9 (str a) (str b)=some (.bool (decide (a=b))):=by
 rw[fE];congr 2;rw[decide_eq_decide];exact⟨fun e=>congrArg (fun b:ByteArray=>b.data.toList) e,fun e=>by rw[e]⟩
theorem dS (a b:List UInt8):A.zA prog .neq 9 (str a) (str b)=some (.bool (!decide (a=b))):=by
 rw[bW];congr 3;rw[decide_eq_decide];exact⟨fun e=>congrArg (fun b:ByteArray=>b.data.toList) e,fun e=>by rw[e]⟩
theorem bXh {c:Nat}(hc:c<256):A.zA prog .shr 5 (.int .u8 (c:Int)) (.int .u64 4)=some (.int .u8 ((c / 16:Nat):Int))∧A.zA prog .and 5 (.int .u8 (c:Int)) (.int .u8 15)=some (.int .u8 ((c%16:Nat):Int)):=by
 have all:((List.range 256).all fun c=>(match A.zA prog .shr 5 (.int .u8 (c:Int)) (.int .u64 4)with|some v=>AM.same v (.int .u8 ((c / 16:Nat):Int))|none=>false)&&(match A.zA prog .and 5 (.int .u8 (c:Int)) (.int .u8 15)with|some v=>AM.same v (.int .u8 ((c%16:Nat):Int))|none=>false))=true:=by kernel_rfl
 have:=List.all_eq_true.1 all c (List.mem_range.2 hc);rw[kO]at this;obtain⟨a,b⟩:=this;refine⟨?_,?_⟩
 ·split at a
  ·rename_i v hv;rw[hv,same_eq _ _ a]
  ·cases a
 ·split at b
  ·rename_i v hv;rw[hv,same_eq _ _ b]
  ·cases b
end Go.Proofs.YtohapjojkjjflaaGreatDoor.Wz

namespace Go.Proofs.YtohapjojkjjflaaGreatDoor.Wz
open Tryz (prog)
open Go Go.AM WzA
def BS (s:CS):Prop:=s.1.length≤1000300∧Bd s.2.2 []
theorem aMs {kind:Nat}(h:kind<256):Bd (zq kind) []:=⟨h,(by show 0<256;omega),(by show 0<65536;omega),(by show 0<256;omega),(by show 0<65536;omega),(by show 0<256;omega),(by show 0<256;omega),pQ _,pQ _,pQ _,pQ _,pQ _,pQ _,pQ _,pQ _,pQ _,fun s hs=>by cases hs⟩
theorem lO (val:List UInt8→Bool){l:List UInt8}(h:l.length≤1000300):(aZ val l).2.1.length≤1000300∧(aZ val l).1.length≤1000300:=⟨kG (dR val l).1 h,kG (dR val l).2 h⟩
theorem aCl {l:List UInt8}(h:l.length≤1000300):(aM l).2.1.length≤1000300∧(aM l).1.length≤1000300:=⟨kG (fV l).1 h,kG (fV l).2 h⟩
theorem rX {l:List UInt8}(h:l.length≤1000300):(bR l).2.1.length≤1000300∧(bR l).1<256:=⟨kG (fJ l) h,eM l⟩
theorem uC {l:List UInt8}(h:l.length≤1000300):(aX l).2.1.length≤1000300∧(aX l).1<65536:=⟨kG (bZ l).1 h,(bZ l).2⟩
theorem aIn (val:List UInt8→Bool){s:CS}(h:BS s):BS (cW val s):=by
 have a:=lO val h.1;have b:=rX a.1;have c:=rX b.1;exact⟨c.1,{h.2 with level:=b.2,wq:=by show(bR _).1 / 8%4<256;omega}⟩
theorem aDl (val:List UInt8→Bool){s:CS}(h:BS s):BS (bT val s):=by
 have a:=uC h.1;have b:=lO val a.1;exact⟨b.1,{h.2 with keep:=a.2,client:=b.2}⟩
theorem aIm (val:List UInt8→Bool){s:CS}(h:BS s):BS (bH val s):=by
 unfold bH;split
 ·have a:=lO val h.1;have b:=aCl a.1;exact⟨b.1,{h.2 with wt:=a.2,wp:=b.2}⟩
 ·exact h
theorem aIj (val:List UInt8→Bool){s:CS}(h:BS s):BS (bY val s):=by
 unfold bY;split
 ·have a:=lO val h.1;exact⟨a.1,{h.2 with user:=a.2}⟩
 ·exact h
theorem aIl {s:CS}(h:BS s):BS (bU s):=by
 unfold bU;split
 ·have a:=aCl h.1;exact⟨a.1,{h.2 with pass:=a.2}⟩
 ·exact h
theorem aIk (val:List UInt8→Bool){s:CS}(h:BS s):BS (eW val s):=aIl (aIj val (aIm val (aDl val (aIn val h))))
theorem aBz (val:List UInt8→Bool)(kind:Nat):∀(n:Nat) {l:List UInt8} (bad:Bool),l.length≤1000300→(eO val kind n l bad).1.length≤n∧∀s∈(eO val kind n l bad).1,s.1.length≤1000300∧s.2<256
 |0,l,bad,_=>⟨kF _,fun s hs=>by cases hs⟩
 |n+1,l,bad,h=>by
  by_cases c:l=[]∨bad=true
  ·have e:eO val kind (n+1) l bad=([],l,bad):=kB c;rw[e];exact⟨pQ _,fun s hs=>by cases hs⟩
  ·obtain⟨a,ha⟩:∃a,a=aZ val l:=⟨_,rfl⟩;obtain⟨b,hb⟩:∃b,b=if kind=8 then bR a.2.1 else(0,a.2.1,false):=⟨_,rfl⟩
   have e:eO val kind (n+1) l bad=((a.1,b.1)::(eO val kind n b.2.1 (bad||a.2.2||b.2.2)).1,(eO val kind n b.2.1 (bad||a.2.2||b.2.2)).2):=by rw[hb,ha];exact kA c
   rw[e];have h1:=lO val h;rw[←ha]at h1;have h2:b.2.1.length≤1000300∧b.1<256:=by
    rw[hb];split
    ·exact rX h1.1
    ·exact⟨h1.1,by show 0<256;omega⟩
   obtain⟨i1,i2⟩:=aBz val kind n (bad||a.2.2||b.2.2) h2.1;refine⟨Nat.succ_le_succ i1,fun s hs=>?_⟩;rcases List.mem_cons.1 hs with rfl|hs
   ·exact⟨h1.2,h2.2⟩
   ·exact i2 s hs
theorem aCp (val:List UInt8→Bool){fl:Nat}{s:CS}(h:BS s):Bd (fI val fl s).1.2.2 (fI val fl s).2:=by
 have ls:∀{s:CS},BS s→Bd (cY val s).1.2.2 (cY val s).2:=by
  intro s h;unfold cY;split
  ·exact{h.2 with codes:=h.1}
  ·split
   ·have:=aBz val s.2.2.kind (s.1.length+1) s.2.1 h.1;exact{h.2 with len:=kG this.1 (Nat.succ_le_succ h.1),es:=this.2}
   ·exact h.2
 unfold fI;split
 ·exact(aIk val h).2
 split
 ·have a:=rX h.1;have b:=rX a.1;exact{h.2 with code:=b.2}
 split
 ·have a:=lO val h.1;have w:=uC a.1;have hb:(if 0<fl / 2%4 then aX (aZ val s.1).2.1 else(s.2.2.id,(aZ val s.1).2.1,false)).2.1.length≤1000300∧(if 0<fl / 2%4 then aX (aZ val s.1).2.1 else(s.2.2.id,(aZ val s.1).2.1,false)).1<65536:=by
   split
   ·exact w
   ·exact⟨a.1,h.2.id⟩
  exact{h.2 with qos:=by show fl / 2%4<256;omega,topic:=a.2,id:=hb.2,payload:=hb.1}
 split
 ·exact h.2
 ·have w:=uC h.1;exact ls ⟨w.1,{h.2 with id:=w.2}⟩
instance (K:Nat) (rest:List UInt8):Decidable (lv7 K rest):=by unfold lv7;infer_instance
theorem w7 {h:H}{r:Nat}{rest:List UInt8}{p:Pq}{w:Value}(q:RS h r rest false p w)(C:CF)(L:Nat){β:Type}(x0 x6 x2:Value)(kn:Value→Value→Value→Value→Value→Value→H→Option β):
 aKs C L x0 (aB r) x6 (.int .i64 (rest.length:Int)) x2 h kn=kn (.bool (decide (lv7 p.kind rest))) x0 (aB r) x6 (.int .i64 (rest.length:Int)) x2 h:=by
 have l2:=q.ld (i:=2) rfl;have l0:=q.ld (i:=0) rfl;by_cases k1:p.kind=1
 ·have d1:decide ((p.kind:Int)=1)=true:=deq (by omega);by_cases g6:6<rest.length
  ·have d2:decide ((6:Int)<(rest.length:Int))=true:=kC (by omega);have sl:=bXg (l:=rest) (by omega);have st:=cV (rest.take 6) aAi;have st:A.zA prog .eql 9 (str (rest.take 6)) (.string ⟨⟨[0,4,77,81,84,84]⟩⟩)=_:=st;by_cases hp:rest.take 6=aAi
   ·rw[kC hp]at st;obtain⟨b,hb⟩:∃b,rest[6]?=some b:=⟨_,kN g6⟩;have ix:A.zB (str rest) (.int .i64 6)=some (u8 b):=ixS (i:=6) hb;have db:(!decide ((b.toNat:Int)=4))=decide (lv7 p.kind rest):=by
     rw[←decide_not,decide_eq_decide];unfold lv7;rw[hb];constructor
     ·exact fun hn=>⟨k1,g6,hp,fun e=>hn (by rw[kP e];rfl)⟩
     ·intro⟨_,_,_,hn⟩ e;exact hn (congrArg some (UInt8.toNat_inj.1 (by show b.toNat=4;omega)))
    simp only[aKs,WzO.S,WzO.n0,Nat.add_zero,l2,zQ,d1,zY,d2,l0,sl,st,ix,aK,db]
   ·rw[kD hp]at st;have db:decide (lv7 p.kind rest)=false:=kD fun hn=>hp hn.2.2.1;simp only[aKs,WzO.S,WzO.n0,Nat.add_zero,l2,zQ,d1,zY,d2,l0,sl,st,db]
  ·have d2:decide ((6:Int)<(rest.length:Int))=false:=kD (by omega);have db:decide (lv7 p.kind rest)=false:=kD fun hn=>g6 hn.2.1;simp only[aKs,WzO.S,WzO.n0,Nat.add_zero,l2,zQ,d1,zY,d2,db]
 ·have d1:decide ((p.kind:Int)=1)=false:=dne (by omega);have db:decide (lv7 p.kind rest)=false:=kD fun hn=>k1 hn.1;simp only[aKs,WzO.S,WzO.n0,Nat.add_zero,l2,zQ,d1,db]
def pJ (p:Pq)(w:Value)(u:Nat×Nat):Value:=.tuple ⟨[.agg ⟨p.cells w⟩,.int .i64 (u.1:Int),.int .i64 (u.2:Int)]⟩
def D7 (X:Option (Value×H))(h:H)(d:Option (Pq×List Sb×Nat)):Prop:=
 match d with
 |some x=>∃h' w,X=some (pJ x.1 w (x.2.2,0),h')∧SliceE 2 h' w (x.2.1.map sbC)∧(∀i,sid w=some i→h.next≤i)∧Ext h h'
 |none=>∃h' e,X=some (pJ (zq 0) aF (0,e),h')∧0<e∧Ext h h'
theorem D7.bad {X:Option (Value×H)}{h h':H}{d:Option (Pq×List Sb×Nat)}(e:Nat)(hd:d=none)(hX:X=some (pJ (zq 0) aF (0,e),h'))(h0:0<e)(x:Ext h h'):D7 X h d:=by subst hd;exact⟨h',e,hX,h0,x⟩
theorem D7.good {X:Option (Value×H)}{h h':H}{d:Option (Pq×List Sb×Nat)}{p:Pq}{es:List Sb}{n:Nat}{w:Value}(hd:d=some (p,es,n))(hX:X=some (pJ p w (n,0),h'))(sl:SliceE 2 h' w (es.map sbC))(sw:∀i,sid w=some i→h.next≤i)(x:Ext h h'):D7 X h d:=by subst hd;exact⟨h',w,hX,sl,sw,x⟩
theorem aFe {h:H}{r:Nat}{zs:List Value}(hz:zs.length=24)(g:h.get r=some (.cells zs (some 0)))(p:Pq)(w:Value):
 ∃h',A.store 24 (aB r) (.agg ⟨p.cells w⟩) h=some h'∧(∀x3 x4:Value,(bnd (rP (A.load true 24 (aB r) h') (rP (some x3) (rP (some x4) (some [])))) fun vs=>some (iT vs,h'))=some (.tuple ⟨[.agg ⟨p.cells w⟩,x3,x4]⟩,h'))∧ExtBut (fun i=>i=r) h h':=by
 obtain⟨h',e,l,x⟩:=bHv hz g p w;refine⟨h',e,fun x3 x4=>?_,x⟩;rw[l];rfl
section
variable {Q:Orc}{B:H}{val nm fi:List UInt8→Bool}(ka:KnA Q)(va:VA Q B val)(rg:RG Q B (fun p es=>(iS val nm fi p es).isSome)){h:H}
include ka va rg
theorem T7 (k:Nat){l:List UInt8}(hl:l.length≤1000300)(hB:Ext B h):D7 (aA prog 2 Q (k+1001001) 15 [str l] h) h (pO val nm fi l):=by
 rw[bWz Q (k+1001000) _ h (ka.fr 15 _ (by decide))];obtain⟨h1,hh1⟩:∃h1,h1=h.push (.cells WzA.Z38L (some 0)):=⟨_,rfl⟩;have e1:A.zJ 24 WzA.Z38 h=some (aB h.next,h1):=by rw[hh1];rfl
 have g1:h1.get h.next=some (.cells WzA.Z38L (some 0)):=by rw[hh1,H.get_push,kB rfl]
 have x1:Ext h h1:=by rw[hh1];exact Ext.push h _
 have n1:h1.next=h.next+1:=by rw[hh1];rfl
 have b0:A.zF WzA.Z38L []=some (.agg ⟨(zq 0).cells aF⟩):=rfl;have toE:∀{hx h':H},Ext h hx→ExtBut (fun i=>i=h.next) hx h'→Ext h h':=fun a b=>⟨kG a.next b.next,fun i hi=>by rw[b.get i (kH hi a.next) (by omega)];exact a.get i hi⟩;obtain⟨hz,ez,fz,xz⟩:=aFe (zs:=WzA.Z38L) rfl g1 (zq 0) aF
 cases l with
 |nil=>
  have d:A.zA prog .eql 9 (str []) (.string ⟨⟨[]⟩⟩)=some (.bool true):=cV [] [];refine D7.bad 2 rfl ?_ (by omega) (toE x1 xz);simp only[F15,xV,aEc,e1,WzO.S,d,b0,ez,fz];rfl
 |cons c t=>
  have d:A.zA prog .eql 9 (str (c::t)) (.string ⟨⟨[]⟩⟩)=some (.bool false):=by
   have:=cV (c::t) [];rw[kD (by simp)]at this;exact this
  have ix:A.zB (str (c::t)) (.int .i64 0)=some (u8 c):=ixS (i:=0) rfl;have e15:=qB (ka.fq c.toNat c.toNat_lt) (k+1000999) h1;have e15:aA prog 2 Q (k+1001000) 25 [u8 c] h1=_:=e15
  cases hf:bG c.toNat with
  |false=>
   rw[hf]at e15;have hr:pO val nm fi (c::t)=none:=by unfold pO;simp only[hf,pB,if_false]
   refine D7.bad 4 hr ?_ (by omega) (toE x1 xz);simp only[F15,xV,aEc,e1,WzO.S,d,ix,e15,b0,ez,fz];rfl
  |true=>
   rw[hf]at e15;have sl1:A.zE (str (c::t)) (some (.int .i64 1)) none=some (str t):=slS (l:=c::t) (k:=1) (by simp);have hl:t.length+1≤1000300:=hl;have e16:=T16 ka (h:=h1) (k+1000993) (l:=t) (by omega);have e16:aA prog 2 Q (k+1001000) 26 [str t] h1=_:=e16;have hu:=mX t 4 1 0 0;obtain⟨R,hR⟩:∃R,R=rlF t 4 1 0 0:=⟨_,rfl⟩;rw[←hR]at e16 hu;have t0:A.z 0 (.tuple ⟨[.int .i64 (R.1:Int),.int .i64 (R.2.1:Int),.int .i64 (R.2.2:Int)]⟩)=some (.int .i64 (R.1:Int)):=rfl;have t1:A.z 1 (.tuple ⟨[.int .i64 (R.1:Int),.int .i64 (R.2.1:Int),.int .i64 (R.2.2:Int)]⟩)=some (.int .i64 (R.2.1:Int)):=rfl;have t2:A.z 2 (.tuple ⟨[.int .i64 (R.1:Int),.int .i64 (R.2.1:Int),.int .i64 (R.2.2:Int)]⟩)=some (.int .i64 (R.2.2:Int)):=rfl;by_cases he:R.2.2=0
   ·have hu:=hu he;have dn:A.zA prog .neq 45 (.int .i64 (R.2.2:Int)) (.int .i64 0)=some (.bool false):=by rw[aK,kC (by omega)];rfl
    have w1:IntKind.i64.wrap ((R.2.1:Int)+1)=((R.2.1+1:Nat):Int):=aI (by omega);have w2:IntKind.i64.wrap (((c::t).length:Int)-((R.2.1+1:Nat):Int))=(((c::t).length-(R.2.1+1):Nat):Int):=by
     have:(c::t).length=t.length+1:=rfl;rw[aS (by omega) (by omega)];omega
    obtain⟨U,hU⟩:∃U,U=R.2.1+1:=⟨_,rfl⟩;rw[←hU]at w1 w2;have hUl:U≤(c::t).length:=by show U≤t.length+1;omega
    by_cases hlt:(c::t).length-U<R.1
    ·have hr:pO val nm fi (c::t)=none:=by
      show(if bG c.toNat=true then _ else _)=_
      rw[kB hf,←hR,kB he,←hU,kB hlt]
     have dl:decide ((((c::t).length-U:Nat):Int)<(R.1:Int))=true:=kC (by omega);refine D7.bad 2 hr ?_ (by omega) (toE x1 xz);simp only[F15,xV,aEc,e1,WzO.S,d,ix,e15,sl1,e16,t0,t1,t2,aKt,dn,aG,w1,qJ,bP,w2,zZ,dl,b0,ez,fz];rfl
    ·have dl:decide ((((c::t).length-U:Nat):Int)<(R.1:Int))=false:=kD (by omega);have w3:IntKind.i64.wrap ((U:Int)+(R.1:Int))=((U+R.1:Nat):Int):=by
      have:(c::t).length=t.length+1:=rfl;rw[aS (by omega) (by omega)];omega
     have sl2:=aUs (l:=c::t) (a:=U) (b:=U+R.1) (by omega) (by omega);rw[Nat.add_sub_cancel_left]at sl2;obtain⟨rest,hrest⟩:∃rest,rest=((c::t).drop U).take R.1:=⟨_,rfl⟩;have rlen:rest.length=R.1:=by rw[hrest,kT,kU];omega
     rw[←hrest]at sl2;have b64:A.zF WzA.Z69L [(0,1,str rest)]=some (.agg ⟨[str rest,.bool false]⟩):=rfl;have b66:A.zF WzA.Z71L [(0,2,.agg ⟨[str rest,.bool false]⟩)]=some (.agg ⟨str rest::.bool false::(zq 0).cells aF⟩):=rfl;obtain⟨h2,hh2⟩:∃h2,h2=h1.push (.cells (str rest::.bool false::(zq 0).cells aF) (some 0)):=⟨_,rfl⟩;have e2:A.zJ 26 (.agg ⟨str rest::.bool false::(zq 0).cells aF⟩) h1=some (aB h1.next,h2):=by rw[hh2];rfl
     have x2:Ext h1 h2:=by rw[hh2];exact Ext.push h1 _
     have g2:h2.get h.next=some (.cells WzA.Z38L (some 0)):=by rw[x2.get _ (by omega)];exact g1
     have q2:RS h2 h1.next rest false (zq 0) aF:=⟨by rw[hh2,H.get_push,kB rfl],by rw[hh2];exact Nat.lt_succ_self _⟩;obtain⟨sh,an⟩:=bXh c.toNat_lt;have sh:A.zA prog .shr 5 (u8 c) (.int .u64 4)=_:=sh;have an:A.zA prog .and 5 (u8 c) (.int .u8 15)=_:=an;have hc4:=c.toNat_lt;obtain⟨h3,e3,q3,x3,n3⟩:=q2.set (i:=2) (v:=.int .u8 ((c.toNat / 16:Nat):Int)) (l':=rest) (bad':=false) (p':=zq (c.toNat / 16)) (w':=aF) (by omega) rfl rfl;have hne:h.next≠h1.next:=by omega
     have g3:h3.get h.next=some (.cells WzA.Z38L (some 0)):=by rw[x3.get _ (by rw[hh2];show _<h1.next+1;omega) hne];exact g2
     have x03:Ext h h3:=⟨kG (x1.trans x2).next x3.next,fun i hi=>by rw[x3.get i (kH hi (x1.trans x2).next) (by omega)];exact(x1.trans x2).get i hi⟩;have w7':=fun(β:Type) (x0 x6 x2:Value) (kn:Value→Value→Value→Value→Value→Value→H→Option β)=>w7 q3 (aA prog 2 Q (k+1001000)) (k+1001000) x0 x6 x2 kn;rw[rlen]at w7';have kz:(zq (c.toNat / 16)).kind=c.toNat / 16:=rfl;by_cases hv:lv7 (c.toNat / 16) rest
     ·have l0:=q3.ld (i:=0) rfl;obtain⟨b,hb⟩:∃b,rest[6]?=some b:=⟨_,kN hv.2.1⟩;have hr:pO val nm fi (c::t)=some ({zq 1 with level:=b.toNat},[],U+R.1):=by
       show(if bG c.toNat=true then _ else _)=_
       rw[kB hf,←hR,kB he,←hU,kA hlt,←hrest];refine(kB hv).trans ?_;rw[hb];rfl
      have ix6:A.zB (str rest) (.int .i64 6)=some (u8 b):=ixS (i:=6) hb;have bl:A.zF WzA.Z38L [(0,1,.int .u8 1),(7,1,u8 b)]=some (.agg ⟨({zq 1 with level:=b.toNat}:Pq).cells aF⟩):=rfl;obtain⟨hy,ey,fy,xy⟩:=aFe (zs:=WzA.Z38L) rfl g3 ({zq 1 with level:=b.toNat}:Pq) aF;have dv:decide (lv7 (zq (c.toNat / 16)).kind rest)=true:=kC hv;refine D7.good (w:=aF) hr ?_ (Vec.nil 2 hy).slice (fun i hi=>by cases hi) (toE x03 xy);simp only[F15,xV,aEc,e1,WzO.S,d,ix,e15,sl1,e16,t0,t1,t2,aKt,dn,aG,w1,qJ,bP,w2,zZ,dl,w3,sl2,b64,b66,e2,aXu,sh,WzO.n0,Nat.add_zero,e3,aLl,w7',dv,aXt,l0,ix6,bl,ey,fy];rfl
     ·have dv:decide (lv7 (zq (c.toNat / 16)).kind rest)=false:=kD hv;have hb1:BS ((rest,false,zq (c.toNat / 16)):CS):=⟨by show rest.length≤1000300;rw[hrest,kT,kU];have:(c::t).length=t.length+1:=rfl;omega,aMs (by omega)⟩;have hbd:=aCp val (fl:=c.toNat%16) hb1;have hB3:Ext B h3:=hB.trans x03;have va1:VA Q h1 val:=va.mono (hB.trans x1);have h13:Ext h1 h3:=⟨kG x2.next x3.next,fun i hi=>by rw[x3.get i (kH hi x2.next) (by omega)];exact x2.get i hi⟩;obtain⟨h4,w4,e4,q4,s4,sw4,x4⟩:=T17 ka va1 (h:=h3) (r:=h1.next) (s:=(rest,false,zq (c.toNat / 16))) (k+596) (fl:=c.toNat%16) (by omega) hb1.1 h13 (kF _) q3;have e4:=(congrArg (fun n=>aA prog 2 Q n 27 [aB h1.next,.int .u8 ((c.toNat%16:Nat):Int)] h3) (show k+1001000=k+596+1000404 by omega)).trans e4;obtain⟨a,ha⟩:∃a,a=fI val (c.toNat%16) (rest,false,zq (c.toNat / 16)):=⟨_,rfl⟩;rw[←ha]at q4 s4 hbd;have n3':h.next<h3.next:=by have:=x3.next;have:=x2.next;omega
      have g4:h4.get h.next=some (.cells WzA.Z38L (some 0)):=by rw[x4.get _ n3' hne];exact g3
      have x04:Ext h h4:=⟨kG x03.next x4.next,fun i hi=>by rw[x4.get i (kH hi x03.next) (by omega)];exact x03.get i hi⟩;have l1:=q4.ld (i:=1) rfl;have l0:=q4.ld (i:=0) rfl;have ne:=dS a.1.1 [];have ne:A.zA prog .neq 9 (str a.1.1) (.string ⟨⟨[]⟩⟩)=_:=ne;have lp:=q4.packet;have bad:∀{h5:H},Ext h h5→h5.get h.next=some (.cells WzA.Z38L (some 0))→(a.1.2.1=true∨a.1.1≠[]∨(iS val nm fi a.1.2.2 a.2).isSome=false)→
       (∀(kr:Value→Value→Value→H→Option (Value×H)),aBf (aA prog 2 Q (k+1001000)) (k+1001000) (aB h1.next) (.int .i64 (U:Int)) (.int .i64 (R.1:Int)) (aB h.next) h4 kr=bnd (A.zF WzA.Z38L []) fun t116=>bnd (A.store 24 (aB h.next) t116 h5) fun hq1=>kr (aB h.next) (.int .i64 0) (.int .i64 4) hq1)→
       D7 (F15 (aA prog 2 Q (k+1001000)) (k+1001000) (str (c::t)) h) h (pO val nm fi (c::t)):=by
       intro h5 x5 g5 hc st;obtain⟨hy,ey,fy,xy⟩:=aFe (zs:=WzA.Z38L) rfl g5 (zq 0) aF;have hr:pO val nm fi (c::t)=none:=by
        show(if bG c.toNat=true then _ else _)=_
        rw[kB hf,←hR,kB he,←hU,kA hlt,←hrest];refine(kA hv).trans ?_;rw[←ha];rcases hc with hc|hc|hc
        ·exact kB (.inl hc)
        ·exact kB (.inr hc)
        ·refine ite_eq_left_iff.2 fun _=>?_;rw[hc];rfl
       refine D7.bad 4 hr ?_ (by omega) (toE x5 xy);simp only[F15,xV,aEc,e1,WzO.S,d,ix,e15,sl1,e16,t0,t1,t2,aKt,dn,aG,w1,qJ,bP,w2,zZ,dl,w3,sl2,b64,b66,e2,aXu,sh,WzO.n0,Nat.add_zero,e3,aLl,w7',dv,aXt,bGo,an,e4,st,b0,ey,fy];rfl
      cases hbad:a.1.2.1 with
      |true=>
       have l1:=l1.trans (congrArg (fun b=>some (Value.bool b)) hbad);refine bad x04 g4 (.inl hbad) fun kr=>?_;simp only[aBf,aGt,aRz,WzO.S,WzO.n0,Nat.add_zero,l1,aRy]
      |false=>
       have l1:=l1.trans (congrArg (fun b=>some (Value.bool b)) hbad);by_cases hn:a.1.1=[]
       ·rw[kC hn]at ne;obtain⟨h5,e5,x5⟩:=rg.rg k h4 a.1.2.2 a.2 w4 (hB.trans x04) hbd s4;have g5:h5.get h.next=some (.cells WzA.Z38L (some 0)):=by rw[x5.get _ (kH n3' x4.next)];exact g4
        cases hrg:(iS val nm fi a.1.2.2 a.2).isSome with
        |false=>
         rw[hrg]at e5;refine bad (x04.trans x5) g5 (.inr (.inr hrg)) fun kr=>?_;simp only[aBf,aGt,aRz,WzO.S,WzO.n0,Nat.add_zero,l1,l0,ne,lp,e5,aRy]
        |true=>
         rw[hrg]at e5;have q5:=q4.ext x5;have lp5:=q5.packet;obtain⟨hy,ey,fy,xy⟩:=aFe (zs:=WzA.Z38L) rfl g5 a.1.2.2 w4;have hr:pO val nm fi (c::t)=some (a.1.2.2,a.2,U+R.1):=by
          show(if bG c.toNat=true then _ else _)=_
          rw[kB hf,←hR,kB he,←hU,kA hlt,←hrest];refine(kA hv).trans ?_;rw[←ha];refine(kA ?_).trans ?_
          ·rw[hbad];simp[hn]
          ·rw[hrg];rfl
         have hsid:∀i,sid w4=some i→i<h4.next:=fun i hi=>s4.sid_lt i hi;refine D7.good (w:=w4) hr ?_ ((s4.ext x5).extBut xy fun j hj e=>by have:=(sw4 j hj).1;omega) (fun i hi=>by have:=(sw4 i hi).1;omega) (toE (x04.trans x5) xy);have st:∀(kr:Value→Value→Value→H→Option (Value×H)),aBf (aA prog 2 Q (k+1001000)) (k+1001000) (aB h1.next) (.int .i64 (U:Int)) (.int .i64 (R.1:Int)) (aB h.next) h4 kr=kr (aB h.next) (.int .i64 ((U+R.1:Nat):Int)) (.int .i64 0) hy:=by
          intro kr;simp only[aBf,aGt,aRz,WzO.S,WzO.n0,Nat.add_zero,l1,l0,ne,lp,e5,aRy,cBw,lp5,aG,w3,ey]
         simp only[F15,xV,aEc,e1,WzO.S,d,ix,e15,sl1,e16,t0,t1,t2,aKt,dn,aG,w1,qJ,bP,w2,zZ,dl,w3,sl2,b64,b66,e2,aXu,sh,WzO.n0,Nat.add_zero,e3,aLl,w7',dv,aXt,bGo,an,e4,st,fy];rfl
       ·rw[kD hn]at ne;refine bad x04 g4 (.inr (.inl hn)) fun kr=>?_;simp only[aBf,aGt,aRz,WzO.S,WzO.n0,Nat.add_zero,l1,l0,ne,aRy]
   ·have hr:pO val nm fi (c::t)=none:=by
     show(if bG c.toNat=true then _ else _)=_
     rw[kB hf,←hR,kA he]
    have dn:A.zA prog .neq 45 (.int .i64 (R.2.2:Int)) (.int .i64 0)=some (.bool true):=by rw[aK,kD (by omega)];rfl
    refine D7.bad R.2.2 hr ?_ (by omega) (toE x1 xz);simp only[F15,xV,aEc,e1,WzO.S,d,ix,e15,sl1,e16,t0,t1,t2,aKt,dn,b0,ez,fz];rfl
end
end Go.Proofs.YtohapjojkjjflaaGreatDoor.Wz

namespace Go.Proofs.YtohapjojkjjflaaGreatDoor.Wz
open Tryz (prog)
open Go Go.AM
structure OK3 (Q:Orc)(B:H)(nm fi:List UInt8→Bool):Prop where
 nm:∀(k:Nat) (h:H) (s:List UInt8),Ext B h→s.length≤1000300→∃h',aA prog 2 Q (k+1000900) 85 [str s] h=some (.bool (nm s),h')∧Ext h h'
 fi:∀(k:Nat) (h:H) (s:List UInt8),Ext B h→s.length≤1000300→∃h',aA prog 2 Q (k+1000900) 86 [str s] h=some (.bool (fi s),h')∧Ext h h'
theorem aNn {nm:List UInt8→Bool}{p:Pq}{n m:Nat}(e:aDs nm p n=some m)(h1:p.wt.length≤1000300)(h2:p.wp.length≤1000300):m≤n+2000604:=by
 unfold aDs at e;split at e
 ·split at e
  ·split at e
   ·cases e
   ·split at e
    ·cases e
    ·cases e;omega
  ·cases e
 ·split at e
  ·cases e;omega
  ·cases e
theorem aNp {p:Pq}{n m:Nat}(e:aAm p n=some m)(h1:p.user.length≤1000300):m≤n+1000302:=by
 unfold aAm at e;split at e
 ·cases e;omega
 ·split at e
  ·split at e
   ·cases e
   ·cases e;omega
  ·cases e
theorem aOa {p:Pq}{n m:Nat}(e:xF p n=some m)(h1:p.pass.length≤1000300):m≤n+1000302:=by
 unfold xF at e;split at e
 ·cases e;omega
 ·split at e
  ·cases e;omega
  ·cases e
theorem aNl (p:Pq):A.zA prog .neq 35 (.agg ⟨[str p.wt,str p.wp,.int .u8 (p.wq:Int),.bool p.wr]⟩) (.agg ⟨[str [],str [],.int .u8 0,.bool false]⟩)=some (.bool (!wz p)):=by
 have e:A.yF prog 20 35 (.agg ⟨[str p.wt,str p.wp,.int .u8 (p.wq:Int),.bool p.wr]⟩) (.agg ⟨[str [],str [],.int .u8 0,.bool false]⟩)=(bif p.wt==[]then bif p.wp==[]then bif (p.wq:Int)==0 then bif p.wr==false then some true else some false else some false else some false else some false):=by kernel_rfl
 have e2:A.yF prog 20 35 (.agg ⟨[str p.wt,str p.wp,.int .u8 (p.wq:Int),.bool p.wr]⟩) (.agg ⟨[str [],str [],.int .u8 0,.bool false]⟩)=some (wz p):=by
  rw[e];unfold wz;cases p.wt==[]<;>cases p.wp==[]<;>cases(p.wq:Int)==0<;>cases p.wr==false<;>rfl
 exact gL rfl rfl (by kernel_rfl) e2
end Go.Proofs.YtohapjojkjjflaaGreatDoor.Wz

namespace Go.Proofs.YtohapjojkjjflaaGreatDoor.Wz
open Tryz (prog)
open Go Go.AM WzA
theorem bIi {Q:Orc}(ka:KnA Q)(k:Nat)(h:H)(p:Pq){w:Value}(hw:aJ w=some [w]):∃h',aA prog 2 Q (k+1) 72 [.agg ⟨p.cells w⟩] h=some (oE (idO p),h')∧Ext h h':=by
 rw[bVb Q k _ h (ka.fr 72 _ (by decide))];obtain⟨ha,ea,b,x,_⟩:=cB p hw h;have l4:=b.ld (i:=4) rfl;refine⟨ha,?_,x⟩;unfold idO;by_cases hz:p.id=0
 ·have d:decide ((p.id:Int)=0)=true:=kC (by omega);rw[kB hz];simp only[F72,aZv,ea,WzO.S,WzO.n0,l4,zQ,d];rfl
 ·have d:decide ((p.id:Int)=0)=false:=kD (by omega);rw[kA hz];simp only[F72,aZv,ea,WzO.S,WzO.n0,l4,zQ,d];rfl
section
variable {Q:Orc}{B:H}{val nm fi:List UInt8→Bool}(ka:KnA Q)(va:VA Q B val)(ok:OK3 Q B nm fi){h:H}
include ka va ok
theorem e55 (k L:Nat){t:Nat}{p:Pq}{es:List Sb}{w:Value}(hB:Ext B h)(bd:Bd p es)(b:BQ h t p w)(n:Nat):
 ∃h',aPv (aA prog 2 Q (k+1000900)) L (aB t) (.int .i64 (n:Int)) h (fun x2 h=>some (x2,h))=some (oE (if val p.user then(if 65535<p.pass.length then none else some n)else none),h')∧Ext h h':=by
 have _:=ka;have _:=ok;have l18:=b.ld (i:=18) rfl;obtain⟨h1,e1,x1⟩:=va.va (k+500) h p.user hB bd.user;have e1:=(congrArg (fun n=>aA prog 2 Q n 84 [str p.user] h) (show k+1000900=k+500+1000400 by omega)).trans e1;have l19:=(b.ext x1).ld (i:=19) rfl;refine⟨h1,?_,x1⟩
 cases hv:val p.user with
 |false=>
  rw[hv]at e1;simp only[aPv,WzO.S,WzO.n0,l18,e1];rfl
 |true=>
  rw[hv]at e1;rw[kB rfl];by_cases hp:65535<p.pass.length
  ·have d:decide ((65535:Int)<(p.pass.length:Int))=true:=kC (by omega);rw[kB hp];simp only[aPv,WzO.S,WzO.n0,l18,e1,l19,qJ,zY,d];rfl
  ·have d:decide ((65535:Int)<(p.pass.length:Int))=false:=kD (by omega);rw[kA hp];simp only[aPv,WzO.S,WzO.n0,l18,e1,l19,qJ,zY,d];rfl
theorem d55 (k L:Nat){t:Nat}{p:Pq}{es:List Sb}{w:Value}(hB:Ext B h)(bd:Bd p es)(b:BQ h t p w)(n:Nat)(hn:n≤6000000):
 ∃h',aGq (aA prog 2 Q (k+1000900)) L (aB t) (.int .i64 (n:Int)) h (fun x2 h=>some (x2,h))=some (oE (match xF p n with|none=>none|some n=>if val p.user then(if 65535<p.pass.length then none else some n)else none),h')∧Ext h h':=by
 have l17:=b.ld (i:=17) rfl;have l19:=b.ld (i:=19) rfl;unfold xF
 cases hp:p.hp with
 |true=>
  have l17:=l17.trans (congrArg (fun b=>some (Value.bool b)) hp);have hb:=bd.pass;have w1:IntKind.i64.wrap (2+(p.pass.length:Int))=((2+p.pass.length:Nat):Int):=by rw[aS (by omega) (by omega)];omega
  have w2:IntKind.i64.wrap ((n:Int)+((2+p.pass.length:Nat):Int))=((n+(2+p.pass.length):Nat):Int):=by rw[aS (by omega) (by omega)];omega
  obtain⟨h',e,x⟩:=e55 ka va ok k L hB bd b (n+(2+p.pass.length));refine⟨h',?_,x⟩;simp only[aGq,aVp,WzO.S,WzO.n0,l17,l19,qJ,aG,w1,w2,e,if_true]
 |false=>
  have l17:=l17.trans (congrArg (fun b=>some (Value.bool b)) hp);have ne:=dS p.pass [];have ne:A.zA prog .neq 9 (str p.pass) (.string ⟨⟨[]⟩⟩)=_:=ne;by_cases hz:p.pass=[]
  ·rw[kC hz]at ne;obtain⟨h',e,x⟩:=e55 ka va ok k L hB bd b n;refine⟨h',?_,x⟩;simp only[aGq,aVp,WzO.S,WzO.n0,l17,l19,ne,e,pB,if_false,kB hz]
  ·rw[kD hz]at ne;refine⟨h,?_,Ext.refl h⟩;simp only[aGq,aVp,WzO.S,WzO.n0,l17,l19,ne,pB,if_false,kA hz];rfl
theorem c55 (k L:Nat){t:Nat}{p:Pq}{es:List Sb}{w:Value}(hB:Ext B h)(bd:Bd p es)(b:BQ h t p w)(n:Nat)(hn:n≤4000000):
 ∃h',aFa (aA prog 2 Q (k+1000900)) L (aB t) (.int .i64 (n:Int)) h (fun x2 h=>some (x2,h))=some (oE (match aAm p n with|none=>none|some n=>match xF p n with|none=>none|some n=>if val p.user then(if 65535<p.pass.length then none else some n)else none),h')∧Ext h h':=by
 have l16:=b.ld (i:=16) rfl;have l17:=b.ld (i:=17) rfl;have l18:=b.ld (i:=18) rfl;unfold aAm
 cases hu:p.hu with
 |true=>
  have l16:=l16.trans (congrArg (fun b=>some (Value.bool b)) hu);have hb:=bd.user;have w1:IntKind.i64.wrap (2+(p.user.length:Int))=((2+p.user.length:Nat):Int):=by rw[aS (by omega) (by omega)];omega
  have w2:IntKind.i64.wrap ((n:Int)+((2+p.user.length:Nat):Int))=((n+(2+p.user.length):Nat):Int):=by rw[aS (by omega) (by omega)];omega
  obtain⟨h',e,x⟩:=d55 ka va ok k L hB bd b (n+(2+p.user.length)) (by omega);refine⟨h',?_,x⟩;simp only[aFa,aGu,aPw,WzO.S,WzO.n0,l16,bXn,l18,qJ,aG,w1,w2,e,if_true]
 |false=>
  have l16:=l16.trans (congrArg (fun b=>some (Value.bool b)) hu);have ne:=dS p.user [];have ne:A.zA prog .neq 9 (str p.user) (.string ⟨⟨[]⟩⟩)=_:=ne;by_cases hz:p.user=[]
  ·rw[kC hz]at ne
   cases hp:p.hp with
   |true=>
    have l17:=l17.trans (congrArg (fun b=>some (Value.bool b)) hp);refine⟨h,?_,Ext.refl h⟩;simp only[aFa,aGu,aPw,WzO.S,WzO.n0,l16,aVq,l18,ne,l17,pB,if_false,if_true,kB hz];rfl
   |false=>
    have l17:=l17.trans (congrArg (fun b=>some (Value.bool b)) hp);obtain⟨h',e,x⟩:=d55 ka va ok k L hB bd b n (by omega);refine⟨h',?_,x⟩;simp only[aFa,aGu,aPw,WzO.S,WzO.n0,l16,aVq,l18,ne,l17,e,pB,if_false,kB hz]
  ·rw[kD hz]at ne;refine⟨h,?_,Ext.refl h⟩;simp only[aFa,aGu,aPw,WzO.S,WzO.n0,l16,aVq,l18,ne,pB,if_false,kA hz];rfl
theorem b55 (k L:Nat){t:Nat}{p:Pq}{es:List Sb}{w:Value}(hB:Ext B h)(bd:Bd p es)(b:BQ h t p w)(n:Nat)(hn:n≤1000350):
 ∃h',xS (aA prog 2 Q (k+1000900)) L (aB t) (.int .i64 (n:Int)) h (fun x2 h=>some (x2,h))=some (oE (match aDs nm p n with|none=>none|some n=>match aAm p n with|none=>none|some n=>match xF p n with|none=>none|some n=>if val p.user then(if 65535<p.pass.length then none else some n)else none),h')∧Ext h h':=by
 have l11:=b.ld (i:=11) rfl;have l12:=b.ld (i:=12) rfl;have lw:A.load true 4 (.pointer (some ⟨t,12,none⟩)) h=some (.agg ⟨[str p.wt,str p.wp,.int .u8 (p.wq:Int),.bool p.wr]⟩):=by rw[bJ,b.1];rfl
 unfold aDs
 cases hw:p.will with
 |true=>
  have l11:=l11.trans (congrArg (fun b=>some (Value.bool b)) hw);obtain⟨h1,e1,x1⟩:=ok.nm k h p.wt hB bd.wt;have b1:=b.ext x1;have l12':=b1.ld (i:=12) rfl;have l13:=b1.ld (i:=13) rfl;have l14:=b1.ld (i:=14) rfl;have hwt:=bd.wt;have hwp:=bd.wp;have w2:IntKind.i64.wrap (4+(p.wt.length:Int))=((4+p.wt.length:Nat):Int):=by rw[aS (by omega) (by omega)];omega
  have w3:IntKind.i64.wrap (((4+p.wt.length:Nat):Int)+(p.wp.length:Int))=((4+p.wt.length+p.wp.length:Nat):Int):=by rw[aS (by omega) (by omega)];omega
  have w4:IntKind.i64.wrap ((n:Int)+((4+p.wt.length+p.wp.length:Nat):Int))=((n+(4+p.wt.length+p.wp.length):Nat):Int):=by rw[aS (by omega) (by omega)];omega
  cases hn1:nm p.wt with
  |false=>
   rw[hn1]at e1;refine⟨h1,?_,x1⟩;simp only[xS,aBh,aFo,WzO.S,WzO.n0,Nat.add_zero,Nat.reduceAdd,l11,aGr,aPy,l12,e1,aPx,if_true,pB,if_false];rfl
  |true=>
   rw[hn1]at e1;by_cases hpl:65535<p.wp.length
   ·have dp:decide ((65535:Int)<(p.wp.length:Int))=true:=kC (by omega);refine⟨h1,?_,x1⟩;simp only[xS,aBh,aFo,WzO.S,WzO.n0,Nat.add_zero,Nat.reduceAdd,l11,aGr,aPy,l12,e1,l13,qJ,zY,dp,aPx,if_true,kB hpl];rfl
   have dp:decide ((65535:Int)<(p.wp.length:Int))=false:=kD (by omega);by_cases hq:2<p.wq
   ·have dq:decide ((2:Int)<(p.wq:Int))=true:=kC (by omega);refine⟨h1,?_,x1⟩;simp only[xS,aBh,aFo,WzO.S,WzO.n0,Nat.add_zero,Nat.reduceAdd,l11,aGr,aPy,l12,e1,l13,qJ,zY,dp,l14,dq,aPx,if_true,kA hpl,kB hq];rfl
   ·have dq:decide ((2:Int)<(p.wq:Int))=false:=kD (by omega);obtain⟨h',e,x⟩:=c55 ka va ok k L (hB.trans x1) bd b1 (n+(4+p.wt.length+p.wp.length)) (by omega);refine⟨h',?_,x1.trans x⟩;simp only[xS,aBh,aFo,WzO.S,WzO.n0,Nat.add_zero,Nat.reduceAdd,l11,aGr,aPy,l12,e1,l13,qJ,zY,dp,l14,dq,aPx,bXo,l12',aG,w2,w3,w4,e,if_true,kA hpl,kA hq]
 |false=>
  have l11:=l11.trans (congrArg (fun b=>some (Value.bool b)) hw);have bl:A.zF WzA.Z35L []=some (.agg ⟨[str [],str [],.int .u8 0,.bool false]⟩):=by kernel_rfl
  have ne:=aNl p
  cases hz:wz p with
  |true=>
   rw[hz]at ne;obtain⟨h',e,x⟩:=c55 ka va ok k L hB bd b n (by omega);refine⟨h',?_,x⟩;simp only[xS,aBh,aFo,WzO.S,WzO.n0,Nat.add_zero,l11,bDx,lw,bl,ne,e,pB,if_false,if_true]
  |false=>
   rw[hz]at ne;refine⟨h,?_,Ext.refl h⟩;simp only[xS,aBh,aFo,WzO.S,WzO.n0,Nat.add_zero,l11,bDx,lw,bl,ne,pB,if_false];rfl
theorem cJu (k:Nat){p:Pq}{es:List Sb}{w:Value}(hw:aJ w=some [w])(hB:Ext B h)(bd:Bd p es):
 ∃h',aA prog 2 Q (k+1000901) 70 [.agg ⟨p.cells w⟩] h=some (oE (aBk val nm p),h')∧Ext h h':=by
 rw[bVd Q (k+1000900) _ h (ka.fr 70 _ (by decide))];obtain⟨ha,ea,b,x,_⟩:=cB p hw h;have l7:=b.ld (i:=7) rfl;have l10:=b.ld (i:=10) rfl;unfold aBk;by_cases h4:p.level=4
 ·have d4:decide ((p.level:Int)=4)=true:=kC (by omega);obtain⟨h1,e1,x1⟩:=va.va (k+500) ha p.client (hB.trans x) bd.client;have e1:=(congrArg (fun n=>aA prog 2 Q n 84 [str p.client] ha) (show k+1000900=k+500+1000400 by omega)).trans e1;rw[kB h4]
  cases hv:val p.client with
  |false=>
   rw[hv]at e1;refine⟨h1,?_,x.trans x1⟩;simp only[F70,aLy,aVr,ea,WzO.S,WzO.n0,l7,aK,d4,l10,e1,pB,if_false];rfl
  |true=>
   rw[hv]at e1;have b1:=b.ext x1;have l10':=b1.ld (i:=10) rfl;have hcl:=bd.client;have w1:IntKind.i64.wrap (12+(p.client.length:Int))=((12+p.client.length:Nat):Int):=by rw[aS (by omega) (by omega)];omega
   obtain⟨h2,e2,x2⟩:=b55 ka va ok k (k+1000900) ((hB.trans x).trans x1) bd b1 (12+p.client.length) (by omega);refine⟨h2,?_,(x.trans x1).trans x2⟩;rw[kB rfl];simp only[F70,aLy,aVr,ea,WzO.S,WzO.n0,l7,aK,d4,l10,e1,bXp,l10',qJ,aG,w1];exact e2
 ·have d4:decide ((p.level:Int)=4)=false:=kD (by omega);rw[kA h4];refine⟨ha,?_,x⟩;simp only[F70,aLy,aVr,ea,WzO.S,WzO.n0,l7,aK,d4];rfl
theorem aOu {p:Pq}{es:List Sb}(bd:Bd p es){n:Nat}(e:aBk val nm p=some n):n≤9000000:=by
 have _:=ka;have _:=va;have _:=ok;have h1:=bd.client;unfold aBk at e;split at e
 ·split at e
  ·split at e
   ·cases e
   ·rename_i a ea;split at e
    ·cases e
    ·rename_i b eb;split at e
     ·cases e
     ·rename_i c ec;have:=aNn ea bd.wt bd.wp;have:=aNp eb bd.user;have:=aOa ec bd.pass;split at e
      ·split at e
       ·cases e
       ·cases e;omega
      ·cases e
  ·cases e
 ·cases e
end
end Go.Proofs.YtohapjojkjjflaaGreatDoor.Wz

namespace Go.Proofs.YtohapjojkjjflaaGreatDoor.Wz
open Tryz (prog)
open Go Go.AM WzA
theorem aIy (fi:List UInt8→Bool)(most more:Nat)(hm:more≤1):∀(l:List Sb) (n m:Nat),(∀s∈l,s.1.length≤1000300∧s.2<256)→suL fi most more l n=some m→m≤n+1000303*l.length
 |[],n,m,_,e=>by cases e;simp
 |s::l,n,m,hl,e=>by
  have e:(if fi s.1 then(if most<s.2 then none else suL fi most more l (n+(2+s.1.length+more)))else none)=some m:=e
  split at e
  ·split at e
   ·cases e
   ·have:=aIy fi most more hm l _ m (fun s hs=>hl s (List.mem_cons_of_mem _ hs)) e;have:=(hl s (List.mem_cons_self ..)).1;rw[kM];omega
  ·cases e
theorem aCh (k:Nat):rN k≤1:=by unfold rN;split<;>omega
theorem rY {p:Pq}{n:Nat}(e:idO p=some n):n=2:=by
 unfold idO at e;split at e
 ·cases e
 ·cases e;rfl
section
variable {Q:Orc}{B:H}{val nm fi:List UInt8→Bool}(ka:KnA Q)(va:VA Q B val)(ok:OK3 Q B nm fi){h:H}
include ka va ok
theorem cJt (k:Nat){p:Pq}{es:List Sb}{w:Value}(hw:aJ w=some [w])(hB:Ext B h)(bd:Bd p es):
 ∃h',aA prog 2 Q (k+1000901) 71 [.agg ⟨p.cells w⟩] h=some (oE (xE nm p),h')∧Ext h h':=by
 have _:=va;rw[bVc Q (k+1000900) _ h (ka.fr 71 _ (by decide))];obtain⟨ha,ea,b,x,_⟩:=cB p hw h;have l5:=b.ld (i:=5) rfl;obtain⟨h1,e1,x1⟩:=ok.nm k ha p.topic (hB.trans x) bd.topic;have b1:=b.ext x1;have l5':=b1.ld (i:=5) rfl;have l6:=b1.ld (i:=6) rfl;have l2:=b1.ld (i:=2) rfl;have l4:=b1.ld (i:=4) rfl;have ld:=b1.ld (i:=1) rfl;unfold xE;refine⟨h1,?_,x.trans x1⟩
 cases hn:nm p.topic with
 |false=>
  rw[hn]at e1;simp only[F71,aLx,aVo,ea,WzO.S,aHb,aVn,WzO.n0,l5,e1,pB,if_false];rfl
 |true=>
  rw[hn]at e1;rw[kB rfl];have ht:=bd.topic;have hp:=bd.payload;by_cases hq:2<p.qos
  ·have dq:decide ((2:Int)<(p.qos:Int))=true:=kC (by omega);rw[kB hq];simp only[F71,aLx,aVo,ea,WzO.S,aHb,aVn,WzO.n0,l5,e1,l2,zY,dq];rfl
  ·have dq:decide ((2:Int)<(p.qos:Int))=false:=kD (by omega);rw[kA hq];have w1:IntKind.i64.wrap (2+(p.topic.length:Int))=((2+p.topic.length:Nat):Int):=by rw[aS (by omega) (by omega)];omega
   have w2:IntKind.i64.wrap (((2+p.topic.length:Nat):Int)+(p.payload.length:Int))=((2+p.topic.length+p.payload.length:Nat):Int):=by rw[aS (by omega) (by omega)];omega
   have w3:IntKind.i64.wrap (((2+p.topic.length+p.payload.length:Nat):Int)+2)=((2+p.topic.length+p.payload.length+2:Nat):Int):=by rw[aS (by omega) (by omega)];omega
   have hd:∀kr:Value→H→Option (Value×H),aHb (aA prog 2 Q (k+1000900)) (k+1000900) (aB h.next) ha kr=aBg (aA prog 2 Q (k+1000900)) (k+1000900) (aB h.next) (.int .i64 ((2+p.topic.length+p.payload.length:Nat):Int)) h1 kr:=by
    intro kr;simp only[aHb,aVn,WzO.S,WzO.n0,l5,e1,l2,zY,dq,bXm,l5',qJ,aG,w1,l6,w2]
   simp only[F71,aLx,aVo,ea,WzO.S];rw[hd];by_cases q0:0<p.qos
   ·have d1:decide ((0:Int)<(p.qos:Int))=true:=kC (by omega);by_cases i0:0<p.id
    ·have d2:decide ((0:Int)<(p.id:Int))=true:=kC (by omega);rw[kB ⟨q0,i0⟩];simp only[aBg,aEw,aKe,WzO.S,WzO.n0,l2,zY,d1,l4,d2,bXl,aG,w3];rfl
    ·have d2:decide ((0:Int)<(p.id:Int))=false:=kD (by omega);rw[kA (fun c=>i0 c.2),kB (.inl q0)];simp only[aBg,aEw,aKe,WzO.S,WzO.n0,l2,zY,d1,l4,d2,aPu,aPt];rfl
   ·have d1:decide ((0:Int)<(p.qos:Int))=false:=kD (by omega);rw[kA (fun c=>q0 c.1)];by_cases i0:0<p.id
    ·have d2:decide ((0:Int)<(p.id:Int))=true:=kC (by omega);rw[kB (.inr (.inl i0))];simp only[aBg,aEw,aKe,WzO.S,WzO.n0,l2,zY,d1,l4,d2,aPu,aPt];rfl
    ·have d2:decide ((0:Int)<(p.id:Int))=false:=kD (by omega)
     cases hd:p.dup with
     |true=>
      have ld:=ld.trans (congrArg (fun b=>some (Value.bool b)) hd);rw[kB (.inr (.inr rfl))];simp only[aBg,aEw,aKe,WzO.S,WzO.n0,l2,zY,d1,l4,d2,ld,aPu,aPt];rfl
     |false=>
      have ld:=ld.trans (congrArg (fun b=>some (Value.bool b)) hd);rw[kA (by intro c;rcases c with c|c|c;exact q0 c;exact i0 c;cases c)];simp only[aBg,aEw,aKe,WzO.S,WzO.n0,l2,zY,d1,l4,d2,ld,aPu,aPt,bXk];rfl
theorem cGl (k L:Nat){most more:Nat}(hmo:more≤1){w:Value}{l:List Sb}(hl:l.length≤1000301)(hs:∀s∈l,s.1.length≤1000300∧s.2<256):
 ∀(d i m:Nat) (h:H) (a:Nat),i+d=l.length→d<m→Ext B h→SliceE 2 h w (l.map sbC)→a≤i*1000303+100→
  ∃h',aEg (aA prog 2 Q (k+1000900)) L (fun x2 h=>some (x2,h)) (fun x2 h=>some (x2,h)) m (.int .i64 (l.length:Int)) (.int .i64 (i:Int)) (.int .i64 (more:Int)) (.int .u8 (most:Int)) w (.int .i64 (a:Int)) h=some (oE (suL fi most more (l.drop i) a),h')∧Ext h h':=by
 have _:=ka;have _:=va;intro d
 induction d with
 |zero=>
  intro i m h a hi hm hB sl ha;obtain⟨m,rfl⟩:∃r,m=r+1:=⟨m-1,by omega⟩;have hd:decide ((i:Int)<(l.length:Int))=false:=by rw[kI];omega
  have hdr:l.drop i=[]:=pL (by omega);rw[hdr];refine⟨h,?_,Ext.refl h⟩;simp only[aEg,aKd,zZ,hd,WzO.S];rfl
 |succ d ih=>
  intro i m h a hi hm hB sl ha;obtain⟨m,rfl⟩:∃r,m=r+1:=⟨m-1,by omega⟩;have hd:decide ((i:Int)<(l.length:Int))=true:=by rw[kJ];omega
  have hil:i<l.length:=by omega
  obtain⟨s,hsi⟩:∃s,l[i]?=some s:=⟨l[i],kN hil⟩;obtain⟨hs1,hs2⟩:=hs s (List.mem_of_getElem? hsi);rw[aQ hsi];obtain⟨id,off,cells,own,ix,_,hg,h4,h5,_⟩:=sl.at (i:=i) (e:=sbC s) (by rw[kX,hsi];rfl) .i64;have ld:A.load true 2 (.pointer (some ⟨id,off,none⟩)) h=some (.agg ⟨sbC s⟩):=uH hg h4 h5;obtain⟨h1,hh1⟩:∃h1,h1=h.push (.cells WzA.Z56L (some 0)):=⟨_,rfl⟩;have e1:A.zJ 2 WzA.Z56 h=some (aB h.next,h1):=by rw[hh1];rfl
  obtain⟨h2,hh2⟩:∃h2,h2=h1.put h.next (.cells (sbC s) (some 0)):=⟨_,rfl⟩;have g1:h1.get h.next=some (.cells WzA.Z56L (some 0)):=by rw[hh1,H.get_push,kB rfl]
  have hcl:aJ (.agg ⟨sbC s⟩)=some (sbC s):=rfl;have e2:A.store 2 (aB h.next) (.agg ⟨sbC s⟩) h1=some h2:=by
   rw[qU,g1,hcl,hh2];rfl
  have x2:Ext h h2:=by rw[hh2];exact(hh1▸Ext.push h _:Ext h h1).put _ _ (kF _)
  have g2:h2.get h.next=some (.cells (sbC s) (some 0)):=by rw[hh2,H.get_put,kB rfl]
  have n2:h.next<h2.next:=by rw[hh2,hh1];exact Nat.lt_succ_self _
  have l0:A.load false 1 (.pointer (some ⟨h.next,0,none⟩)) h2=some (str s.1):=by rw[qK,g2];rfl
  obtain⟨h3,e3,x3⟩:=ok.fi k h2 s.1 (hB.trans x2) hs1;have g3:h3.get h.next=some (.cells (sbC s) (some 0)):=by rw[x3.get _ n2];exact g2
  have l0':A.load false 1 (.pointer (some ⟨h.next,0,none⟩)) h3=some (str s.1):=by rw[qK,g3];rfl
  have l1:A.load false 1 (.pointer (some ⟨h.next,1,none⟩)) h3=some (.int .u8 (s.2:Int)):=by rw[qK,g3];rfl
  have w1:IntKind.i64.wrap (2+(s.1.length:Int))=((2+s.1.length:Nat):Int):=by rw[aS (by omega) (by omega)];omega
  have w2:IntKind.i64.wrap (((2+s.1.length:Nat):Int)+(more:Int))=((2+s.1.length+more:Nat):Int):=by rw[aS (by omega) (by omega)];omega
  have w3:IntKind.i64.wrap ((a:Int)+((2+s.1.length+more:Nat):Int))=((a+(2+s.1.length+more):Nat):Int):=by rw[aS (by omega) (by omega)];omega
  have hwr:IntKind.i64.wrap ((i:Int)+1)=((i+1:Nat):Int):=aI (by omega)
  cases hf:fi s.1 with
  |false=>
   rw[hf]at e3;refine⟨h3,?_,x2.trans x3⟩;rw[show suL fi most more (s::l.drop (i+1)) a=none by simp[suL,hf]];simp only[aEg,aKd,zZ,hd,WzO.S,aPs,ix,ld,e1,e2,WzO.n0,l0,e3];rfl
  |true=>
   rw[hf]at e3;by_cases hq:most<s.2
   ·have dq:decide ((most:Int)<(s.2:Int))=true:=kC (by omega);refine⟨h3,?_,x2.trans x3⟩;rw[show suL fi most more (s::l.drop (i+1)) a=none by simp[suL,hf,hq]];simp only[aEg,aKd,zZ,hd,WzO.S,aPs,ix,ld,e1,e2,WzO.n0,l0,e3,l1,zY,dq];rfl
   ·have dq:decide ((most:Int)<(s.2:Int))=false:=kD (by omega);obtain⟨h',e,y⟩:=ih (i+1) m h3 (a+(2+s.1.length+more)) (by omega) (by omega) ((hB.trans x2).trans x3) ((sl.ext x2).ext x3) (by omega);refine⟨h',?_,(x2.trans x3).trans y⟩;rw[show suL fi most more (s::l.drop (i+1)) a=suL fi most more (l.drop (i+1)) (a+(2+s.1.length+more)) by simp only[suL,hf,if_true,kA hq]];simp only[aEg,aKd,zZ,hd,WzO.S,aPs,ix,ld,e1,e2,WzO.n0,l0,e3,l1,zY,dq,l0',qJ,aG,w1,w2,w3,bDw,hwr];exact e
theorem cJs (k:Nat){p:Pq}{es:List Sb}{w:Value}(hw:aJ w=some [w])(hB:Ext B h)(bd:Bd p es)(sl:SliceE 2 h w (es.map sbC)):
 ∃h',aA prog 2 Q (k+1000901) 73 [.agg ⟨p.cells w⟩] h=some (oE (aAn fi p es),h')∧Ext h h':=by
 rw[bVa Q (k+1000900) _ h (ka.fr 73 _ (by decide))];obtain⟨ha,ea,b,x,_⟩:=cB p hw h;obtain⟨hb,eb,y⟩:=bIi ka (k+1000899) ha p hw;have eb:aA prog 2 Q (k+1000900) 72 [.agg ⟨p.cells w⟩] ha=_:=eb;have b2:=b.ext y;have l0:=b2.ld (i:=0) rfl;have l22:=b2.ld (i:=22) rfl;have slb:=(sl.ext x).ext y;have hlen:A.zG w=some (.int .i64 (es.length:Int)):=by have:=slb.len.1;rwa [pA]at this
 have step:∀(v:Value) (K:Value→Value→Value→Value→H→Option (Value×H)),aVl (aA prog 2 Q (k+1000900)) (k+1000900) (aB h.next) (.int .i64 1) (.int .u8 2) v hb K=K (aB h.next) (.int .i64 (rN p.kind:Int)) (.int .u8 (nL p.kind:Int)) v hb:=by
  intro v K;unfold rN nL;by_cases h10:p.kind=10
  ·have d:decide ((p.kind:Int)=10)=true:=deq (by omega);rw[kB h10,kB h10];simp only[aVl,WzO.S,WzO.n0,l0,zQ,d];rfl
  ·have d:decide ((p.kind:Int)=10)=false:=dne (by omega);rw[kA h10,kA h10];simp only[aVl,WzO.S,WzO.n0,l0,zQ,d];rfl
 unfold aAn
 cases hid:idO p with
 |none=>
  rw[hid]at eb;have eb:aA prog 2 Q (k+1000900) 72 [.agg ⟨p.cells w⟩] ha=some (.int .i64 (-1),hb):=eb;have c2:decide ((-1:Int)<0)=true:=rfl;refine⟨hb,?_,x.trans y⟩;simp only[F73,aLw,aVm,ea,WzO.S,b.all,eb];rw[step];simp only[aVk,zZ,c2,WzO.S];rfl
 |some n=>
  have hn:=rY hid;subst hn;rw[hid]at eb;have eb:aA prog 2 Q (k+1000900) 72 [.agg ⟨p.cells w⟩] ha=some (.int .i64 2,hb):=eb;have c2:decide ((2:Int)<0)=false:=rfl;by_cases hz:es=[]
  ·have dz:decide ((es.length:Int)=0)=true:=by rw[hz];rfl
   refine⟨hb,?_,x.trans y⟩;simp only[kB hz];simp only[F73,aLw,aVm,ea,WzO.S,b.all,eb];rw[step];simp only[aVk,zZ,c2,WzO.S,WzO.n0,l22,hlen,zQ,dz];rfl
  ·have hpos:0<es.length:=Nat.pos_of_ne_zero (fun e=>hz (List.eq_nil_of_length_eq_zero e));have dz:decide ((es.length:Int)=0)=false:=by rw[kI];omega
   obtain⟨h',e,z⟩:=cGl ka va ok k (k+1000900) (most:=nL p.kind) (aCh p.kind) bd.len bd.es es.length 0 (k+1000900) hb 2 (by omega) (by have:=bd.len;omega) ((hB.trans x).trans y) slb (by omega);rw[List.drop_zero]at e;refine⟨h',?_,(x.trans y).trans z⟩;simp only[kA hz];simp only[F73,aLw,aVm,ea,WzO.S,b.all,eb];rw[step];obtain⟨M,hM⟩:∃M,M=k+1000900:=⟨_,rfl⟩;rw[←hM]at e⊢;simp only[aVk,zZ,c2,WzO.S,WzO.n0,l22,hlen,zQ,dz,aYy,cEs,cEr];exact e
theorem aNq {p:Pq}{es:List Sb}(bd:Bd p es){n:Nat}(e:aAn fi p es=some n):n≤10000000000000:=by
 have _:=ka;have _:=va;have _:=ok;unfold aAn at e;split at e
 ·cases e
 ·rename_i a ea;have:=rY ea;split at e
  ·cases e
  ·have:=aIy fi _ _ (aCh p.kind) es a n bd.es e;have:=bd.len;omega
end
end Go.Proofs.YtohapjojkjjflaaGreatDoor.Wz

namespace Go.Proofs.YtohapjojkjjflaaGreatDoor.Wz
open Tryz (prog)
open Go Go.AM WzA
structure PkF where
 i:Nat→Int
 s:Nat→ByteArray
 b:Nat→Bool
 w:Value
def PkF.cells (f:PkF):List Value:=
 [.int .u8 (f.i 0),.bool (f.b 1),.int .u8 (f.i 2),.bool (f.b 3),.int .u16 (f.i 4),.string (f.s 5),.string (f.s 6),.int .u8 (f.i 7),.bool (f.b 8),.int .u16 (f.i 9),.string (f.s 10),.bool (f.b 11),.string (f.s 12),.string (f.s 13),.int .u8 (f.i 14),.bool (f.b 15),.bool (f.b 16),.bool (f.b 17),.string (f.s 18),.string (f.s 19),.bool (f.b 20),.int .u8 (f.i 21),f.w,.string (f.s 23)]
theorem fN {h:H}{t:Nat}{f:PkF}{o:Option Nat}(hg:h.get t=some (.cells f.cells o)){i:Nat}{v:Value}(hv:f.cells[i]?=some v):A.load false 1 (.pointer (some ⟨t,i,none⟩)) h=some v:=by
 rw[qK,hg];exact hv
theorem aOf {h:H}{t:Nat}{f:PkF}{o:Option Nat}(hg:h.get t=some (.cells f.cells o)):A.load true 4 (.pointer (some ⟨t,12,none⟩)) h=some (.agg ⟨[.string (f.s 12),.string (f.s 13),.int .u8 (f.i 14),.bool (f.b 15)]⟩):=by
 rw[bJ,hg];rfl
def cG (f:PkF):List Value:=[.int .u8 (f.i 0),.int .u8 (f.i 2),.int .u8 (f.i 7),.int .u8 (f.i 21),.bool (f.b 1),.bool (f.b 3),.bool (f.b 8),.bool (f.b 11),.bool (f.b 16),.bool (f.b 17),.bool (f.b 20),.int .u16 (f.i 4),.int .u16 (f.i 9),.string (f.s 5),.string (f.s 6),.string (f.s 10),.string (f.s 18),.string (f.s 19),.string (f.s 23),.string (f.s 12),.string (f.s 13),.int .u8 (f.i 14),.bool (f.b 15)]
theorem aIr (f:PkF):A.zF WzA.Z105L [(0,1,.int .u8 (f.i 0)),(1,1,.int .u8 (f.i 2)),(2,1,.int .u8 (f.i 7)),(3,1,.int .u8 (f.i 21)),(4,1,.bool (f.b 1)),(5,1,.bool (f.b 3)),(6,1,.bool (f.b 8)),(7,1,.bool (f.b 11)),(8,1,.bool (f.b 16)),(9,1,.bool (f.b 17)),(10,1,.bool (f.b 20)),(11,1,.int .u16 (f.i 4)),(12,1,.int .u16 (f.i 9)),(13,1,.string (f.s 5)),(14,1,.string (f.s 6)),(15,1,.string (f.s 10)),(16,1,.string (f.s 18)),(17,1,.string (f.s 19)),(18,1,.string (f.s 23)),(19,4,.agg ⟨[.string (f.s 12),.string (f.s 13),.int .u8 (f.i 14),.bool (f.b 15)]⟩)]=some (.agg ⟨cG f⟩):=by kernel_rfl
theorem aCs (f:PkF):splice WzA.Z105L 0 (cG f)=cG f:=by kernel_rfl
theorem aFk {Q:Orc}(kn:KnA Q)(k:Nat)(h:H)(f:PkF):∃h',aA prog 2 Q (k+1) 76 [.agg ⟨f.cells⟩] h=some (.agg ⟨cG f⟩,h')∧Ext h h':=by
 rw[bUx Q k _ h (kn.fr 76 _ (by decide))];obtain⟨h1,hh1⟩:∃h1,h1=h.push (.cells f.cells (some 0)):=⟨_,rfl⟩;obtain⟨h2,hh2⟩:∃h2,h2=h1.push (.cells WzA.Z105L (some 0)):=⟨_,rfl⟩;have b1:A.zJ 24 (.agg ⟨f.cells⟩) h=some (aB h.next,h1):=by rw[hh1];rfl
 have b2:A.zJ 23 WzA.Z105 h1=some (aB h1.next,h2):=by rw[hh2];rfl
 have x1:Ext h h1:=hh1▸Ext.push h _;have x2:Ext h1 h2:=hh2▸Ext.push h1 _;have n1:h1.next=h.next+1:=by rw[hh1];rfl
 have g2:h2.get h.next=some (.cells f.cells (some 0)):=by rw[x2.get _ (by omega),hh1,H.get_push,kB rfl]
 have g3:h2.get h1.next=some (.cells WzA.Z105L (some 0)):=by rw[hh2,H.get_push,kB rfl]
 have a0:=fN g2 (i:=0) (v:=.int .u8 (f.i 0)) rfl;have a2:=fN g2 (i:=2) (v:=.int .u8 (f.i 2)) rfl;have a7:=fN g2 (i:=7) (v:=.int .u8 (f.i 7)) rfl;have a21:=fN g2 (i:=21) (v:=.int .u8 (f.i 21)) rfl;have a1:=fN g2 (i:=1) (v:=.bool (f.b 1)) rfl;have a3:=fN g2 (i:=3) (v:=.bool (f.b 3)) rfl;have a8:=fN g2 (i:=8) (v:=.bool (f.b 8)) rfl;have a11:=fN g2 (i:=11) (v:=.bool (f.b 11)) rfl;have a16:=fN g2 (i:=16) (v:=.bool (f.b 16)) rfl;have a17:=fN g2 (i:=17) (v:=.bool (f.b 17)) rfl;have a20:=fN g2 (i:=20) (v:=.bool (f.b 20)) rfl;have a4:=fN g2 (i:=4) (v:=.int .u16 (f.i 4)) rfl;have a9:=fN g2 (i:=9) (v:=.int .u16 (f.i 9)) rfl;have a5:=fN g2 (i:=5) (v:=.string (f.s 5)) rfl;have a6:=fN g2 (i:=6) (v:=.string (f.s 6)) rfl;have a10:=fN g2 (i:=10) (v:=.string (f.s 10)) rfl;have a18:=fN g2 (i:=18) (v:=.string (f.s 18)) rfl;have a19:=fN g2 (i:=19) (v:=.string (f.s 19)) rfl;have a23:=fN g2 (i:=23) (v:=.string (f.s 23)) rfl;have aw:=aOf g2;obtain⟨h3,hh3⟩:∃h3,h3=h2.put h1.next (.cells (cG f) (some 0)):=⟨_,rfl⟩;have es:A.store 23 (aB h1.next) (.agg ⟨cG f⟩) h2=some h3:=by
  rw[qU,g3,hh3];have c1:Nat.beq (cG f).length 23=true:=rfl;have c2:Nat.ble (0+23) WzA.Z105L.length=true:=rfl;simp only[qP,c1,c2,Bool.and_self,cond_true,aCs]
 have gr:h3.get h1.next=some (.cells (cG f) (some 0)):=by rw[hh3,H.get_put,kB rfl]
 have lr:A.load true 23 (aB h1.next) h3=some (.agg ⟨cG f⟩):=by rw[bJ,gr];rfl
 have bl:=aIr f;refine⟨h3,?_,hh3▸(x1.trans x2).put _ _ (by omega)⟩;simp only[F76,aZu,cEk,b1,b2,WzO.S,cEj,WzO.n0,aw,a0,a2,a7,a21,a1,a3,a8,a11,a16,a17,a20,a4,a9,a5,a6,a10,a18,a19,a23,bl,es,cEi,lr,rP,iT]
def Pq.F (p:Pq)(w:Value):PkF where
 i:=fun n=>if n=0 then p.kind else if n=2 then p.qos else if n=4 then p.id else if n=7 then p.level else if n=9 then p.keep else if n=14 then p.wq else if n=21 then p.code else 0
 b:=fun n=>if n=1 then p.dup else if n=3 then p.retain else if n=8 then p.clean else if n=11 then p.will else if n=15 then p.wr else if n=16 then p.hu else if n=17 then p.hp else if n=20 then p.present else false
 s:=fun n=>if n=5 then⟨⟨p.topic⟩⟩else if n=6 then⟨⟨p.payload⟩⟩else if n=10 then⟨⟨p.client⟩⟩else if n=12 then⟨⟨p.wt⟩⟩else if n=13 then⟨⟨p.wp⟩⟩else if n=18 then⟨⟨p.user⟩⟩else if n=19 then⟨⟨p.pass⟩⟩else if n=23 then⟨⟨p.codes⟩⟩else⟨⟨[]⟩⟩
 w:=w
noncomputable def pe (f g:PkF):Bool:=(A.yF prog 20 105 (.agg ⟨cG f⟩) (.agg ⟨cG g⟩)).getD false
theorem bXi (b r:Bool):(bif b then some r else some false)=some (b&&r):=by cases b<;>rfl
theorem peE (f g:PkF):A.yF prog 20 105 (.agg ⟨cG f⟩) (.agg ⟨cG g⟩)=(bif (f.i 0==g.i 0)then(bif (f.i 2==g.i 2)then(bif (f.i 7==g.i 7)then(bif (f.i 21==g.i 21)then(bif (f.b 1==g.b 1)then(bif (f.b 3==g.b 3)then(bif (f.b 8==g.b 8)then(bif (f.b 11==g.b 11)then(bif (f.b 16==g.b 16)then(bif (f.b 17==g.b 17)then(bif (f.b 20==g.b 20)then(bif (f.i 4==g.i 4)then(bif (f.i 9==g.i 9)then(bif ((f.s 5).data.toList==(g.s 5).data.toList)then(bif ((f.s 6).data.toList==(g.s 6).data.toList)then(bif ((f.s 10).data.toList==(g.s 10).data.toList)then(bif ((f.s 18).data.toList==(g.s 18).data.toList)then(bif ((f.s 19).data.toList==(g.s 19).data.toList)then(bif ((f.s 23).data.toList==(g.s 23).data.toList)then(match(bif ((f.s 12).data.toList==(g.s 12).data.toList)then(bif ((f.s 13).data.toList==(g.s 13).data.toList)then(bif (f.i 14==g.i 14)then(bif (f.b 15==g.b 15)then some true else some false)else some false)else some false)else some false)with|some q=>(bif q then some true else some false)|none=>none)else some false)else some false)else some false)else some false)else some false)else some false)else some false)else some false)else some false)else some false)else some false)else some false)else some false)else some false)else some false)else some false)else some false)else some false)else some false):=by kernel_rfl
theorem aCd (f g:PkF):A.yF prog 20 105 (.agg ⟨cG f⟩) (.agg ⟨cG g⟩)=some (pe f g):=by
 have e:=peE f g;have:∃r,A.yF prog 20 105 (.agg ⟨cG f⟩) (.agg ⟨cG g⟩)=some r:=by
  rw[e];simp only[bXi];exact⟨_,rfl⟩
 obtain⟨r,hr⟩:=this;unfold pe;rw[hr];rfl
theorem aJc (p q:Pq):pe (p.F aF) (q.F aF)=decide (p=q):=by
 have i0:∀p:Pq,(p.F aF).i 0=(p.kind:Int):=fun _=>rfl;have i2:∀p:Pq,(p.F aF).i 2=(p.qos:Int):=fun _=>rfl;have i4:∀p:Pq,(p.F aF).i 4=(p.id:Int):=fun _=>rfl;have i7:∀p:Pq,(p.F aF).i 7=(p.level:Int):=fun _=>rfl;have i9:∀p:Pq,(p.F aF).i 9=(p.keep:Int):=fun _=>rfl;have i14:∀p:Pq,(p.F aF).i 14=(p.wq:Int):=fun _=>rfl;have i21:∀p:Pq,(p.F aF).i 21=(p.code:Int):=fun _=>rfl;have b1:∀p:Pq,(p.F aF).b 1=p.dup:=fun _=>rfl;have b3:∀p:Pq,(p.F aF).b 3=p.retain:=fun _=>rfl;have b8:∀p:Pq,(p.F aF).b 8=p.clean:=fun _=>rfl;have b11:∀p:Pq,(p.F aF).b 11=p.will:=fun _=>rfl;have b15:∀p:Pq,(p.F aF).b 15=p.wr:=fun _=>rfl;have b16:∀p:Pq,(p.F aF).b 16=p.hu:=fun _=>rfl;have b17:∀p:Pq,(p.F aF).b 17=p.hp:=fun _=>rfl;have b20:∀p:Pq,(p.F aF).b 20=p.present:=fun _=>rfl;have s5:∀p:Pq,((p.F aF).s 5).data.toList=p.topic:=fun _=>rfl;have s6:∀p:Pq,((p.F aF).s 6).data.toList=p.payload:=fun _=>rfl;have s10:∀p:Pq,((p.F aF).s 10).data.toList=p.client:=fun _=>rfl;have s12:∀p:Pq,((p.F aF).s 12).data.toList=p.wt:=fun _=>rfl;have s13:∀p:Pq,((p.F aF).s 13).data.toList=p.wp:=fun _=>rfl;have s18:∀p:Pq,((p.F aF).s 18).data.toList=p.user:=fun _=>rfl;have s19:∀p:Pq,((p.F aF).s 19).data.toList=p.pass:=fun _=>rfl;have s23:∀p:Pq,((p.F aF).s 23).data.toList=p.codes:=fun _=>rfl;unfold pe;rw[peE];simp only[bXi,i0,i2,i4,i7,i9,i14,i21,b1,b3,b8,b11,b15,b16,b17,b20,s5,s6,s10,s12,s13,s18,s19,s23];rw[Bool.eq_iff_iff]
 obtain⟨a0,a1,a2,a3,a4,a5,a6,a7,a8,a9,a10,a11,a12,a13,a14,a15,a16,a17,a18,a19,a20,a21,a22⟩:=p;obtain⟨c0,c1,c2,c3,c4,c5,c6,c7,c8,c9,c10,c11,c12,c13,c14,c15,c16,c17,c18,c19,c20,c21,c22⟩:=q;simp only[pC,kO,beq_iff_eq,pI,Pq.mk.injEq,Int.natCast_inj,Bool.cond_true_right,Bool.and_true];constructor
 ·intro h;simp[h]
 ·intro h;simp[h]
theorem aIt (p:Pq)(es:List Sb):fG p es=(if es≠[]∧p.kind≠8∧p.kind≠10 then false else pe (p.F aF) (({bz p with kind:=p.kind}:Pq).F aF)):=by
 unfold fG;rw[aJc]
theorem bBn (f g:PkF):A.zA prog .eql 105 (.agg ⟨cG f⟩) (.agg ⟨cG g⟩)=some (.bool (pe f g)):=oD rfl rfl (by kernel_rfl) (aCd f g)
theorem aNt (p:Pq):AM.same (.agg ⟨p.cells aF⟩) (.agg ⟨p.cells aF⟩)=true:=by
 simp[AM.same,AM.sameA,AM.sameL,Pq.cells,aF]
theorem bBe {h:H}{t:Nat}{p:Pq}(b:BQ h t p aF)(q:Pq):∃h',A.store 24 (aB t) (.agg ⟨q.cells aF⟩) h=some h'∧BQ h' t q aF∧ExtBut (fun i=>i=t) h h':=by
 obtain⟨h',hh⟩:∃h',h'=h.put t (.cells (q.cells aF) (some 0)):=⟨_,rfl⟩;refine⟨h',?_,⟨by rw[hh,H.get_put,kB rfl],by rw[hh];exact b.2⟩,by rw[hh];exact ExtBut.put ⟨kF _,fun _ _ _=>rfl⟩ t _ rfl⟩;have hcl:aJ (.agg ⟨q.cells aF⟩)=some (q.cells aF):=rfl;rw[qU,b.1,hcl,hh];rfl
section
variable {Q:Orc}(ka:KnA Q){h:H}
include ka
theorem cJr (k:Nat){p:Pq}{es:List Sb}{w:Value}(hw:aJ w=some [w])(bd:Bd p es):
 ∃h',aA prog 2 Q (k+1000901) 74 [.agg ⟨p.cells w⟩] h=some (oE (aBl p),h')∧Ext h h':=by
 rw[bUz Q (k+1000900) _ h (ka.fr 74 _ (by decide))];obtain⟨ha,ea,b,x,_⟩:=cB p hw h;obtain⟨hb,eb,y⟩:=bIi ka (k+1000899) ha p hw;have eb:aA prog 2 Q (k+1000900) 72 [.agg ⟨p.cells w⟩] ha=_:=eb;have b2:=b.ext y;have l23:=b2.ld (i:=23) rfl;have hc:=bd.codes;unfold aBl;refine⟨hb,?_,x.trans y⟩
 cases hid:idO p with
 |none=>
  rw[hid]at eb;have eb:aA prog 2 Q (k+1000900) 72 [.agg ⟨p.cells w⟩] ha=some (.int .i64 (-1),hb):=eb;have c2:decide ((-1:Int)<0)=true:=rfl;simp only[F74,aLv,aVj,ea,WzO.S,b.all,eb,zZ,c2];rfl
 |some n=>
  have hn:=rY hid;subst hn;rw[hid]at eb;have eb:aA prog 2 Q (k+1000900) 72 [.agg ⟨p.cells w⟩] ha=some (.int .i64 2,hb):=eb;have c2:decide ((2:Int)<0)=false:=rfl;have st:=cV p.codes [];have st:A.zA prog .eql 9 (str p.codes) (.string ⟨⟨[]⟩⟩)=_:=st;by_cases hz:p.codes=[]
  ·rw[kC hz]at st;simp only[kB hz];simp only[F74,aLv,aVj,ea,WzO.S,b.all,eb,zZ,c2,WzO.n0,l23,st];rfl
  ·rw[kD hz]at st;simp only[kA hz];have w1:IntKind.i64.wrap (2+(p.codes.length:Int))=((2+p.codes.length:Nat):Int):=by rw[aS (by omega) (by omega)];omega
   have lp:∀(d i m L:Nat),i+d=p.codes.length→d<m→
    aEf (aA prog 2 Q (k+1000900)) L (fun x2 h=>some (x2,h)) (fun x3 x1 h=>bDv (aA prog 2 Q (k+1000900)) L x3 x1 h (fun x2 h=>some (x2,h))) m (.int .i64 (p.codes.length:Int)) (.int .i64 (i:Int)) (.int .i64 2) (aB h.next) hb=some (oE (if(p.codes.drop i).all okc then some (2+p.codes.length)else none),hb):=by
    intro d
    induction d with
    |zero=>
     intro i m L hi hm;obtain⟨m,rfl⟩:∃r,m=r+1:=⟨m-1,by omega⟩;have hd:decide ((i:Int)<(p.codes.length:Int))=false:=by rw[kI];omega
     rw[pL (by omega:p.codes.length≤i)];simp only[aEf,aKc,zZ,hd,WzO.S,bDv,WzO.n0,l23,qJ,aG,w1,List.all_nil,if_true];rfl
    |succ d ih=>
     intro i m L hi hm;obtain⟨m,rfl⟩:∃r,m=r+1:=⟨m-1,by omega⟩;have hd:decide ((i:Int)<(p.codes.length:Int))=true:=by rw[kJ];omega
     obtain⟨c,hci⟩:∃c,p.codes[i]?=some c:=⟨_,kN (by omega)⟩;have ix:=ixS hci;have hwr:IntKind.i64.wrap ((i:Int)+1)=((i+1:Nat):Int):=aI (by omega);rw[aQ hci,List.all_cons];have next:=ih (i+1) m L (by omega) (by omega)
     by_cases g2:c.toNat≤2
     ·have dg:decide ((2:Int)<(c.toNat:Int))=false:=kD (by omega);have ho:okc c=true:=kC (.inl g2);rw[ho,Bool.true_and];simp only[aEf,aKc,zZ,hd,WzO.S,aPr,WzO.n0,l23,ix,zY,dg,aVi,aG,hwr];exact next
     ·have dg:decide ((2:Int)<(c.toNat:Int))=true:=kC (by omega);by_cases g8:c.toNat=128
      ·have d8:decide ((c.toNat:Int)=128)=true:=kC (by omega);have ho:okc c=true:=kC (.inr g8);rw[ho,Bool.true_and];simp only[aEf,aKc,zZ,hd,WzO.S,aPr,WzO.n0,l23,ix,zY,dg,aK,d8,aVi,aG,hwr];exact next
      ·have d8:decide ((c.toNat:Int)=128)=false:=kD (by omega);have ho:okc c=false:=kD (by omega);rw[ho,Bool.false_and];simp only[aEf,aKc,zZ,hd,WzO.S,aPr,WzO.n0,l23,ix,zY,dg,aK,d8,pB,if_false];rfl
   have lp:=lp p.codes.length 0 (k+1000900) (k+1000900) (by omega) (by omega);rw[List.drop_zero]at lp;obtain⟨M,hM⟩:∃M,M=k+1000900:=⟨_,rfl⟩;rw[←hM]at eb lp⊢;simp only[F74,aLv,aVj,ea,WzO.S,b.all,eb,zZ,c2,WzO.n0,l23,st,aYz,cEq,qJ];exact lp
theorem aOv {p:Pq}{es:List Sb}(bd:Bd p es){n:Nat}(e:aBl p=some n):n≤1001000:=by
 have _:=ka;have:=bd.codes;unfold aBl at e;split at e
 ·cases e
 ·rename_i a ea;have:=rY ea;split at e
  ·cases e
  ·split at e
   ·cases e;omega
   ·cases e
theorem bBd (k L:Nat)(p q:Pq){w:Value}{t1 t3:Nat}(b1:BQ h t1 p w)(b3:BQ h t3 q aF)(hne:t1≠t3):
 ∃h',bDt (aA prog 2 Q (k+1)) L (aB t1) (aB t3) h (fun x2 h=>some (x2,h))=some (.bool (pe (p.F aF) (({q with kind:=p.kind}:Pq).F aF)),h')∧ExtBut (fun i=>i=t3) h h':=by
 have l0:=b1.ld (i:=0) rfl;obtain⟨q',hq'⟩:∃q':Pq,q'={q with kind:=p.kind}:=⟨_,rfl⟩;rw[←hq'];obtain⟨h1,hh1⟩:∃h1,h1=h.put t3 (.cells (q'.cells aF) (some 0)):=⟨_,rfl⟩;have st:A.store 1 (.pointer (some ⟨t3,0,none⟩)) (.int .u8 (p.kind:Int)) h=some h1:=by
  rw[qU,b3.1,hh1,hq'];rfl
 have x1:ExtBut (fun i=>i=t3) h h1:=by rw[hh1];exact ExtBut.put ⟨kF _,fun _ _ _=>rfl⟩ t3 _ rfl
 have c3:BQ h1 t3 q' aF:=⟨by rw[hh1,H.get_put,kB rfl],by rw[hh1];exact b3.2⟩;have c1:BQ h1 t1 p w:=b1.but x1 hne;obtain⟨h2,e2,x2⟩:=aFk ka k h1 (p.F w);have e2:aA prog 2 Q (k+1) 76 [.agg ⟨p.cells w⟩] h1=some (.agg ⟨cG (p.F aF)⟩,h2):=e2;have d3:=c3.ext x2;obtain⟨h3,e3,x3⟩:=aFk ka k h2 (q'.F aF);have e3:aA prog 2 Q (k+1) 76 [.agg ⟨q'.cells aF⟩] h2=some (.agg ⟨cG (q'.F aF)⟩,h3):=e3;have ck:chk (some (.agg ⟨q'.cells aF⟩)) (.agg ⟨q'.cells aF⟩)=true:=aHg (aNt q');have pl:=bBn (p.F aF) (q'.F aF);refine⟨h3,?_,(x1.trans x2.but).trans x3.but⟩;simp only[bDt,WzO.S,WzO.n0,l0,st,c1.all,e2,d3.all,c3.all,ck,Bool.and_true,e3,pl]
theorem bJb (C:CF)(L:Nat){p:Pq}{w:Value}{t1 t3:Nat}(b1:BQ h t1 p w)(b3:BQ h t3 (zq 0) aF)(hne:t1≠t3):
 ∃h3,(∀K:Value→Value→H→Option (Value×H),tW C L (aB t1) (aB t3) h K=K (aB t1) (aB t3) h3)∧BQ h3 t1 p w∧BQ h3 t3 (bz p) aF∧ExtBut (fun i=>i=t3) h h3:=by
 have _:=ka;have l0:=b1.ld (i:=0) rfl;have s:=bBe b3;have w':∀{q:Pq} {h3:H},bz p=q→BQ h3 t3 q aF→ExtBut (fun i=>i=t3) h h3→BQ h3 t1 p w∧BQ h3 t3 (bz p) aF∧ExtBut (fun i=>i=t3) h h3:=fun e b x=>⟨b1.but x hne,by rw[e];exact b,x⟩;have l1:=b1.ld (i:=1) rfl;have l2:=b1.ld (i:=2) rfl;have l3:=b1.ld (i:=3) rfl;have l4:=b1.ld (i:=4) rfl;have l5:=b1.ld (i:=5) rfl;have l6:=b1.ld (i:=6) rfl;have l7:=b1.ld (i:=7) rfl;have l8:=b1.ld (i:=8) rfl;have l9:=b1.ld (i:=9) rfl;have l10:=b1.ld (i:=10) rfl;have l11:=b1.ld (i:=11) rfl;have l16:=b1.ld (i:=16) rfl;have l17:=b1.ld (i:=17) rfl;have l18:=b1.ld (i:=18) rfl;have l19:=b1.ld (i:=19) rfl;have l20:=b1.ld (i:=20) rfl;have l21:=b1.ld (i:=21) rfl;have l23:=b1.ld (i:=23) rfl;have l12:A.load true 4 (.pointer (some ⟨t1,12,none⟩)) h=some (.agg ⟨[str p.wt,str p.wp,.int .u8 (p.wq:Int),.bool p.wr]⟩):=by rw[bJ,b1.1];rfl
 by_cases k1:p.kind=1
 ·have d1:decide ((p.kind:Int)=1)=true:=deq (by omega);obtain⟨h3,e,b,x⟩:=s {zq 0 with level:=p.level,clean:=p.clean,keep:=p.keep,client:=p.client,will:=p.will,wt:=p.wt,wp:=p.wp,wq:=p.wq,wr:=p.wr,hu:=p.hu,hp:=p.hp,user:=p.user,pass:=p.pass};refine⟨h3,fun K=>?_,w' (by unfold bz;rw[kB k1]) b x⟩;have bd:A.zF WzA.Z38L [(7,1,.int .u8 (p.level:Int)),(8,1,.bool p.clean),(9,1,.int .u16 (p.keep:Int)),(10,1,str p.client),(11,1,.bool p.will),(12,4,.agg ⟨[str p.wt,str p.wp,.int .u8 (p.wq:Int),.bool p.wr]⟩),(16,1,.bool p.hu),(17,1,.bool p.hp),(18,1,str p.user),(19,1,str p.pass)]=some (.agg ⟨({zq 0 with level:=p.level,clean:=p.clean,keep:=p.keep,client:=p.client,will:=p.will,wt:=p.wt,wp:=p.wp,wq:=p.wq,wr:=p.wr,hu:=p.hu,hp:=p.hp,user:=p.user,pass:=p.pass}:Pq).cells aF⟩):=by kernel_rfl
  simp only[tW,aAq,WzO.S,WzO.n0,l0,aAp,zQ,d1,cEl,l7,l8,l9,l10,l11,l12,l16,l17,l18,l19,bd,e]
 have d1:decide ((p.kind:Int)=1)=false:=dne (by omega);by_cases k2:p.kind=2
 ·have d2:decide ((p.kind:Int)=2)=true:=deq (by omega);obtain⟨h3,e,b,x⟩:=s {zq 0 with present:=p.present,code:=p.code};refine⟨h3,fun K=>?_,w' (by unfold bz;rw[kA k1,kB k2]) b x⟩;have bd:A.zF WzA.Z38L [(20,1,.bool p.present),(21,1,.int .u8 (p.code:Int))]=some (.agg ⟨({zq 0 with present:=p.present,code:=p.code}:Pq).cells aF⟩):=by kernel_rfl
  simp only[tW,aAq,WzO.S,WzO.n0,l0,aAp,zQ,d1,d2,aDv,cEm,l20,l21,bd,e]
 have d2:decide ((p.kind:Int)=2)=false:=dne (by omega);by_cases k3:p.kind=3
 ·have d3:decide ((p.kind:Int)=3)=true:=deq (by omega);obtain⟨h3,e,b,x⟩:=s {zq 0 with dup:=p.dup,qos:=p.qos,retain:=p.retain,id:=p.id,topic:=p.topic,payload:=p.payload};refine⟨h3,fun K=>?_,w' (by unfold bz;rw[kA k1,kA k2,kB k3]) b x⟩;have bd:A.zF WzA.Z38L [(1,1,.bool p.dup),(2,1,.int .u8 (p.qos:Int)),(3,1,.bool p.retain),(4,1,.int .u16 (p.id:Int)),(5,1,str p.topic),(6,1,str p.payload)]=some (.agg ⟨({zq 0 with dup:=p.dup,qos:=p.qos,retain:=p.retain,id:=p.id,topic:=p.topic,payload:=p.payload}:Pq).cells aF⟩):=by kernel_rfl
  simp only[tW,aAq,WzO.S,WzO.n0,l0,aAp,zQ,d1,d2,d3,aDv,aFn,cEn,l1,l2,l3,l4,l5,l6,bd,e]
 have d3:decide ((p.kind:Int)=3)=false:=dne (by omega);by_cases k9:p.kind=9
 ·have d9:decide ((p.kind:Int)=9)=true:=deq (by omega);obtain⟨h3,e,b,x⟩:=s {zq 0 with id:=p.id,codes:=p.codes};refine⟨h3,fun K=>?_,w' (by unfold bz;rw[kA k1,kA k2,kA k3,kB k9]) b x⟩;have bd:A.zF WzA.Z38L [(4,1,.int .u16 (p.id:Int)),(23,1,str p.codes)]=some (.agg ⟨({zq 0 with id:=p.id,codes:=p.codes}:Pq).cells aF⟩):=by kernel_rfl
  simp only[tW,aAq,WzO.S,WzO.n0,l0,aAp,zQ,d1,d2,d3,d9,aDv,aFn,aKb,cEo,l4,l23,bd,e]
 have d9:decide ((p.kind:Int)=9)=false:=dne (by omega);by_cases k12:p.kind=12∨p.kind=13∨p.kind=14
 ·have hbz:bz p=zq 0:=by unfold bz;rw[kA k1,kA k2,kA k3,kA k9,kB k12]
  refine⟨h,fun K=>?_,b1,by rw[hbz];exact b3,⟨kF _,fun _ _ _=>rfl⟩⟩;rcases k12 with c|c|c
  ·have d12:decide ((p.kind:Int)=12)=true:=deq (by omega);simp only[tW,aAq,WzO.S,WzO.n0,l0,aAp,zQ,d1,d2,d3,d9,d12,aDv,aFn,aKb,aPo,aPn]
  ·have d12:decide ((p.kind:Int)=12)=false:=dne (by omega);have d13:decide ((p.kind:Int)=13)=true:=deq (by omega);simp only[tW,aAq,WzO.S,WzO.n0,l0,aAp,zQ,d1,d2,d3,d9,d12,d13,aDv,aFn,aKb,aPo,aPn]
  ·have d12:decide ((p.kind:Int)=12)=false:=dne (by omega);have d13:decide ((p.kind:Int)=13)=false:=dne (by omega);have d14:decide ((p.kind:Int)=14)=true:=deq (by omega);simp only[tW,aAq,WzO.S,WzO.n0,l0,aAp,zQ,d1,d2,d3,d9,d12,d13,d14,aDv,aFn,aKb,aPo,aPn]
 ·have d12:decide ((p.kind:Int)=12)=false:=dne (by omega);have d13:decide ((p.kind:Int)=13)=false:=dne (by omega);have d14:decide ((p.kind:Int)=14)=false:=dne (by omega);obtain⟨h3,e,b,x⟩:=s {zq 0 with id:=p.id};refine⟨h3,fun K=>?_,w' (by unfold bz;rw[kA k1,kA k2,kA k3,kA k9,kA k12]) b x⟩;have bd:A.zF WzA.Z38L [(4,1,.int .u16 (p.id:Int))]=some (.agg ⟨({zq 0 with id:=p.id}:Pq).cells aF⟩):=by kernel_rfl
  simp only[tW,aAq,WzO.S,WzO.n0,l0,aAp,zQ,d1,d2,d3,d9,d12,d13,d14,aDv,aFn,aKb,aPo,aPn,l4,bd,e]
theorem cJq (k:Nat){p:Pq}{es:List Sb}{w:Value}(hw:aJ w=some [w])(sl:SliceE 2 h w (es.map sbC)):
 ∃h',aA prog 2 Q (k+2) 75 [.agg ⟨p.cells w⟩] h=some (.bool (fG p es),h')∧Ext h h':=by
 rw[bUy Q (k+1) _ h (ka.fr 75 _ (by decide))];obtain⟨h1,e1,b1,x1,n1⟩:=cB p hw h;have l22:=b1.ld (i:=22) rfl;have l0:=b1.ld (i:=0) rfl;have hlen:A.zG w=some (.int .i64 (es.length:Int)):=by have:=sl.len.1;rwa [pA]at this
 have stepA:∀(kr:Value→H→Option (Value×H)) (K:Value→H→Option (Value×H)),aEs (aA prog 2 Q (k+1)) (k+1) (aB h.next) h1 kr K=if es≠[]∧p.kind≠8∧p.kind≠10 then kr (.bool false) h1 else K (aB h.next) h1:=by
  intro kr K;by_cases hz:es=[]
  ·have d:decide ((0:Int)<(es.length:Int))=false:=by rw[hz];rfl
   rw[kA (fun c=>c.1 hz)];simp only[aEs,aPq,WzO.S,WzO.n0,l22,hlen,zY,d,aPp]
  ·have hpos:0<es.length:=Nat.pos_of_ne_zero (fun e=>hz (List.eq_nil_of_length_eq_zero e));have d:decide ((0:Int)<(es.length:Int))=true:=by rw[kJ];omega
   by_cases h8:p.kind=8
   ·have d8:decide ((p.kind:Int)=8)=true:=deq (by omega);rw[kA (fun c=>c.2.1 h8)];simp only[aEs,aPq,WzO.S,WzO.n0,l22,hlen,zY,d,l0,aK,d8,aPp]
   ·have d8:decide ((p.kind:Int)=8)=false:=dne (by omega);by_cases h10:p.kind=10
    ·have d10:decide ((p.kind:Int)=10)=true:=deq (by omega);rw[kA (fun c=>c.2.2 h10)];simp only[aEs,aPq,WzO.S,WzO.n0,l22,hlen,zY,d,l0,aK,d8,d10,aPp]
    ·have d10:decide ((p.kind:Int)=10)=false:=dne (by omega);rw[kB ⟨hz,h8,h10⟩];simp only[aEs,aPq,WzO.S,WzO.n0,l22,hlen,zY,d,l0,aK,d8,d10,aPp]
 rw[aIt];by_cases hc:es≠[]∧p.kind≠8∧p.kind≠10
 ·refine⟨h1,?_,x1⟩;simp only[F75,aTn,bDu,e1,WzO.S];rw[stepA,kB hc,kB hc]
 ·obtain⟨h2,hh2⟩:∃h2,h2=h1.push (.cells WzA.Z38L (some 0)):=⟨_,rfl⟩;have e2:A.zJ 24 WzA.Z38 h1=some (aB h1.next,h2):=by rw[hh2];rfl
  have x2:Ext h1 h2:=by rw[hh2];exact Ext.push h1 _
  have b2:=b1.ext x2;have g2:BQ h2 h1.next (zq 0) aF:=⟨by rw[hh2,H.get_push,kB rfl];rfl,by rw[hh2];exact Nat.lt_succ_self _⟩;have hne:h.next≠h1.next:=by omega
  obtain⟨h3,e3,c1,c3,x3⟩:=bJb ka (aA prog 2 Q (k+1)) (k+1) b2 g2 hne;obtain⟨h4,e4,x4⟩:=bBd ka k (k+1) p (bz p) c1 c3 hne;have fin:Ext h h4:=⟨kG (x1.trans x2).next (x3.trans x4).next,fun i hi=>by rw[(x3.trans x4).get i (kH hi (x1.trans x2).next) (by omega),(x1.trans x2).get i hi]⟩;refine⟨h4,?_,fin⟩;simp only[F75,aTn,bDu,e1,WzO.S];rw[stepA,kA hc,kA hc];simp only[cEp,e2,WzO.S];rw[e3];exact e4
end
end Go.Proofs.YtohapjojkjjflaaGreatDoor.Wz

namespace Go.Proofs.YtohapjojkjjflaaGreatDoor.Wz
open Tryz (prog)
open Go Go.AM WzA
section
variable {Q:Orc}{B:H}{val nm fi:List UInt8→Bool}(ka:KnA Q)(va:VA Q B val)(ok:OK3 Q B nm fi){h:H}
include ka va ok
theorem aHt {p:Pq}{es:List Sb}(bd:Bd p es){n:Nat}(e:eN val nm fi p es=some n):n≤10000000000000:=by
 unfold eN at e;split at e
 ·have:=aOu ka va ok bd e;omega
 split at e
 ·split at e
  ·split at e
   ·cases e;omega
   ·split at e
    ·cases e
    ·cases e;omega
  ·cases e
 split at e
 ·have h1:=bd.topic;have h2:=bd.payload;unfold xE at e;split at e
  ·split at e
   ·cases e
   ·split at e
    ·cases e;omega
    ·split at e
     ·cases e
     ·cases e;omega
  ·cases e
 split at e
 ·have:=rY e;omega
 split at e
 ·exact aNq ka va ok bd e
 split at e
 ·have:=aOv ka bd e;omega
 split at e
 ·cases e;omega
 ·cases e
theorem bCk (k L:Nat){p:Pq}{es:List Sb}{w:Value}{t:Nat}(hw:aJ w=some [w])(hB:Ext B h)(bd:Bd p es)(sl:SliceE 2 h w (es.map sbC))(b:BQ h t p w):
 ∃hb,(∀K:Value→Value→H→Option (Value×H),pK (aA prog 2 Q (k+1000901)) L (aB t) (.int .i64 (-1)) h K=K (aB t) (oE (eN val nm fi p es)) hb)∧Ext h hb:=by
 have l0:=b.ld (i:=0) rfl;unfold eN;by_cases k1:p.kind=1
 ·have d1:decide ((p.kind:Int)=1)=true:=deq (by omega);obtain⟨hb,e,y⟩:=cJu ka va ok k hw hB bd;refine⟨hb,fun K=>?_,y⟩;rw[kB k1];simp only[pK,aDy,WzO.S,WzO.n0,l0,aDx,zQ,d1,bYd,b.all,e]
 have d1:decide ((p.kind:Int)=1)=false:=dne (by omega);rw[kA k1];by_cases k2:p.kind=2
 ·have d2:decide ((p.kind:Int)=2)=true:=deq (by omega);have l21:=b.ld (i:=21) rfl;have l20:=b.ld (i:=20) rfl;refine⟨h,fun K=>?_,Ext.refl h⟩;rw[kB k2];by_cases c5:p.code≤5
  ·have e5:decide ((p.code:Int)≤5)=true:=kC (by omega);rw[kB c5];by_cases c0:p.code=0
   ·have e0:decide ((p.code:Int)=0)=true:=kC (by omega);rw[kB c0];simp only[pK,aDy,WzO.S,WzO.n0,l0,aDx,zQ,d1,d2,aFq,aQj,l21,bK,e5,e0,aQi];rfl
   ·have e0:decide ((p.code:Int)=0)=false:=kD (by omega);rw[kA c0]
    cases hp:p.present with
    |true=>
     have l20:=l20.trans (congrArg (fun b=>some (Value.bool b)) hp);rw[kB rfl];simp only[pK,aDy,WzO.S,WzO.n0,l0,aDx,zQ,d1,d2,aFq,aQj,l21,bK,e5,e0,l20,aQi];rfl
    |false=>
     have l20:=l20.trans (congrArg (fun b=>some (Value.bool b)) hp);rw[kA (by decide)];simp only[pK,aDy,WzO.S,WzO.n0,l0,aDx,zQ,d1,d2,aFq,aQj,l21,bK,e5,e0,l20,aQi];rfl
  ·have e5:decide ((p.code:Int)≤5)=false:=kD (by omega);rw[kA c5];simp only[pK,aDy,WzO.S,WzO.n0,l0,aDx,zQ,d1,d2,aFq,aQj,l21,bK,e5,aQi];rfl
 have d2:decide ((p.kind:Int)=2)=false:=dne (by omega);rw[kA k2];by_cases k3:p.kind=3
 ·have d3:decide ((p.kind:Int)=3)=true:=deq (by omega);obtain⟨hb,e,y⟩:=cJt ka va ok k hw hB bd;refine⟨hb,fun K=>?_,y⟩;rw[kB k3];simp only[pK,aDy,WzO.S,WzO.n0,l0,aDx,zQ,d1,d2,d3,aFq,bEn,bYe,b.all,e]
 have d3:decide ((p.kind:Int)=3)=false:=dne (by omega);rw[kA k3];have st:∀(b4:Bool) (K:Value→Value→H→Option (Value×H)),
  (∀K':Value→Value→Value→Value→H→Option (Value×H),xP (aA prog 2 Q (k+1000901)) L (.bool false) (.int .u8 (p.kind:Int)) (aB t) (.int .i64 (-1)) h K'=K' (.bool b4) (.int .u8 (p.kind:Int)) (aB t) (.int .i64 (-1)) h)→
  pK (aA prog 2 Q (k+1000901)) L (aB t) (.int .i64 (-1)) h K=aLo (aA prog 2 Q (k+1000901)) L (.bool b4) (.int .u8 (p.kind:Int)) (aB t) (.int .i64 (-1)) h K:=by
  intro b4 K s;simp only[pK,aDy,WzO.S,WzO.n0,l0,aDx,zQ,d1,d2,d3,aFq,bEn,s]
 by_cases k4:p.kind=4∨p.kind=5∨p.kind=6∨p.kind=7∨p.kind=11
 ·obtain⟨hb,e,y⟩:=bIi ka (k+1000900) h p hw;have e:aA prog 2 Q (k+1000901) 72 [.agg ⟨p.cells w⟩] h=_:=e;refine⟨hb,fun K=>?_,y⟩;rw[kB k4];rw[st true K (fun K'=>?_)]
  ·simp only[aLo,WzO.S,bYf,b.all,e]
  ·by_cases c4:p.kind=4
   ·have d4:decide ((p.kind:Int)=4)=true:=deq (by omega);simp only[xP,aFp,zQ,WzO.S,d4,bYh]
   have d4:decide ((p.kind:Int)=4)=false:=dne (by omega);by_cases c5:p.kind=5
   ·have d5:decide ((p.kind:Int)=5)=true:=deq (by omega);simp only[xP,aFp,zQ,WzO.S,d4,d5,aKi]
   have d5:decide ((p.kind:Int)=5)=false:=dne (by omega);by_cases c6:p.kind=6
   ·have d6:decide ((p.kind:Int)=6)=true:=deq (by omega);simp only[xP,aFp,zQ,WzO.S,d4,d5,d6,aKi]
   have d6:decide ((p.kind:Int)=6)=false:=dne (by omega);by_cases c7:p.kind=7
   ·have d7:decide ((p.kind:Int)=7)=true:=deq (by omega);simp only[xP,aFp,zQ,WzO.S,d4,d5,d6,d7,aKi]
   have d7:decide ((p.kind:Int)=7)=false:=dne (by omega);have d11:decide ((p.kind:Int)=11)=true:=deq (by omega);simp only[xP,aFp,zQ,WzO.S,d4,d5,d6,d7,d11,aKi]
 rw[kA k4];have st:∀(K:Value→Value→H→Option (Value×H)),
  pK (aA prog 2 Q (k+1000901)) L (aB t) (.int .i64 (-1)) h K=vU (aA prog 2 Q (k+1000901)) L (.bool false) (.int .u8 (p.kind:Int)) (aB t) (.int .i64 (-1)) h K:=by
  intro K;have d4:decide ((p.kind:Int)=4)=false:=dne (by omega);have d5:decide ((p.kind:Int)=5)=false:=dne (by omega);have d6:decide ((p.kind:Int)=6)=false:=dne (by omega);have d7:decide ((p.kind:Int)=7)=false:=dne (by omega);have d11:decide ((p.kind:Int)=11)=false:=dne (by omega);rw[st false K (fun K'=>?_)]
  ·simp only[aLo,WzO.S]
  ·simp only[xP,aFp,zQ,WzO.S,d4,d5,d6,d7,d11,aKi]
 by_cases k8:p.kind=8∨p.kind=10
 ·obtain⟨hb,e,y⟩:=cJs ka va ok k hw hB bd sl;refine⟨hb,fun K=>?_,y⟩;rw[kB k8,st];by_cases c8:p.kind=8
  ·have d8:decide ((p.kind:Int)=8)=true:=deq (by omega);simp only[vU,aDw,zQ,WzO.S,d8,bEm,b.all,e]
  ·have d8:decide ((p.kind:Int)=8)=false:=dne (by omega);have d10:decide ((p.kind:Int)=10)=true:=deq (by omega);simp only[vU,aDw,zQ,WzO.S,d8,d10,bEm,b.all,e]
 have d8:decide ((p.kind:Int)=8)=false:=dne (by omega);have d10:decide ((p.kind:Int)=10)=false:=dne (by omega);rw[kA k8];by_cases k9:p.kind=9
 ·have d9:decide ((p.kind:Int)=9)=true:=deq (by omega);obtain⟨hb,e,y⟩:=cJr ka (h:=h) k hw bd;refine⟨hb,fun K=>?_,y⟩;rw[kB k9,st];simp only[vU,aDw,zQ,WzO.S,d8,d10,aKh,d9,bYg,b.all,e]
 have d9:decide ((p.kind:Int)=9)=false:=dne (by omega);rw[kA k9];refine⟨h,fun K=>?_,Ext.refl h⟩;rw[st];by_cases k12:p.kind=12∨p.kind=13∨p.kind=14
 ·rw[kB k12];rcases k12 with c|c|c
  ·have d12:decide ((p.kind:Int)=12)=true:=deq (by omega);simp only[vU,aDw,zQ,WzO.S,d8,d10,aKh,d9,aQl,d12,aQk];rfl
  ·have d12:decide ((p.kind:Int)=12)=false:=dne (by omega);have d13:decide ((p.kind:Int)=13)=true:=deq (by omega);simp only[vU,aDw,zQ,WzO.S,d8,d10,aKh,d9,aQl,d12,d13,aQk];rfl
  ·have d12:decide ((p.kind:Int)=12)=false:=dne (by omega);have d13:decide ((p.kind:Int)=13)=false:=dne (by omega);have d14:decide ((p.kind:Int)=14)=true:=deq (by omega);simp only[vU,aDw,zQ,WzO.S,d8,d10,aKh,d9,aQl,d12,d13,d14,aQk];rfl
 ·rw[kA k12];have d12:decide ((p.kind:Int)=12)=false:=dne (by omega);have d13:decide ((p.kind:Int)=13)=false:=dne (by omega);have d14:decide ((p.kind:Int)=14)=false:=dne (by omega);simp only[vU,aDw,zQ,WzO.S,d8,d10,aKh,d9,aQl,d12,d13,d14,aQk];rfl
theorem cJv (k:Nat){h:H}{p:Pq}{es:List Sb}{w:Value}(hB:Ext B h)(bd:Bd p es)(sl:SliceE 2 h w (es.map sbC)):
 ∃h',aA prog 2 Q (k+1000902) 50 [.agg ⟨p.cells w⟩] h=some (oE (iS val nm fi p es),h')∧Ext h h':=by
 have hw:=sl.cells;rw[bVu Q (k+1000901) _ h (ka.fr 50 _ (by decide))];obtain⟨ha,ea,b,x,_⟩:=cB p hw h;obtain⟨hb,ed,y⟩:=bCk ka va ok k (k+1000901) hw (hB.trans x) bd (sl.ext x) b;unfold iS;have hle:=fun{n:Nat}=>aHt ka va ok bd (n:=n)
 cases hr:eN val nm fi p es with
 |none=>
  rw[hr]at ed;have ed:∀K:Value→Value→H→Option (Value×H),pK (aA prog 2 Q (k+1000901)) (k+1000901) (aB h.next) (.int .i64 (-1)) ha K=K (aB h.next) (.int .i64 (-1)) hb:=ed;have c:decide ((-1:Int)<0)=true:=rfl;refine⟨hb,?_,x.trans y⟩;simp only[F50,aHe,aQm,ea,WzO.S];rw[ed];simp only[aQh,zZ,c,WzO.S,oE]
 |some n=>
  rw[hr]at ed;have hn:=hle hr;have ed:∀K:Value→Value→H→Option (Value×H),pK (aA prog 2 Q (k+1000901)) (k+1000901) (aB h.next) (.int .i64 (-1)) ha K=K (aB h.next) (.int .i64 (n:Int)) hb:=ed;have c:decide ((n:Int)<0)=false:=kD (by omega);by_cases hm:268435455<n
  ·have c2:decide ((268435455:Int)<(n:Int))=true:=kC (by omega);refine⟨hb,?_,x.trans y⟩;simp only[kB hm];simp only[F50,aHe,aQm,ea,WzO.S];rw[ed];simp only[aQh,zZ,c,WzO.S,zY,c2,oE]
  have c2:decide ((268435455:Int)<(n:Int))=false:=kD (by omega);have b2:=b.ext y;obtain⟨hc,ec,z⟩:=cJq ka (h:=hb) (k+1000899) (p:=p) hw ((sl.ext x).ext y);have ec:aA prog 2 Q (k+1000901) 75 [.agg ⟨p.cells w⟩] hb=_:=ec;simp only[kA hm];refine⟨hc,?_,(x.trans y).trans z⟩
  cases hbb:fG p es with
  |true=>
   rw[hbb]at ec;simp only[F50,aHe,aQm,ea,WzO.S];rw[ed];simp only[aQh,zZ,c,WzO.S,zY,c2,b2.all,ec,if_true,oE]
  |false=>
   rw[hbb]at ec;simp only[F50,aHe,aQm,ea,WzO.S];rw[ed];simp only[aQh,zZ,c,WzO.S,zY,c2,b2.all,ec,pB,if_false,oE]
theorem cKd (k:Nat){p:Pq}{es:List Sb}{w:Value}(hB:Ext B h)(bd:Bd p es)(sl:SliceE 2 h w (es.map sbC)):
 ∃h',aA prog 2 Q (k+1000903) 28 [.agg ⟨p.cells w⟩] h=some (.bool (iS val nm fi p es).isSome,h')∧Ext h h':=by
 have hw:=sl.cells;rw[bWp Q (k+1000902) _ h (ka.fr 28 _ (by decide))];obtain⟨ha,ea,b,x,_⟩:=cB p hw h;obtain⟨hb,ev,y⟩:=cJv ka va ok k (hB.trans x) bd (sl.ext x);refine⟨hb,?_,x.trans y⟩
 cases hr:iS val nm fi p es with
 |none=>
  rw[hr]at ev;have ev:aA prog 2 Q (k+1000902) 50 [.agg ⟨p.cells w⟩] ha=some (.int .i64 (-1),hb):=ev;have g:decide ((0:Int)≤ -1)=false:=rfl;simp only[F28,bAl,ea,WzO.S,b.all,ev,bA,g];rfl
 |some n=>
  rw[hr]at ev;have ev:aA prog 2 Q (k+1000902) 50 [.agg ⟨p.cells w⟩] ha=some (.int .i64 (n:Int),hb):=ev;have g:decide ((0:Int)≤(n:Int))=true:=kC (by omega);simp only[F28,bAl,ea,WzO.S,b.all,ev,bA,g];rfl
theorem bIt:RG Q B (fun p es=>(iS val nm fi p es).isSome):=⟨fun k h p es w hB bd sl=>by
 rw[show k+1001000=k+97+1000903 by omega];exact cKd ka va ok (k+97) hB bd sl⟩
end
end Go.Proofs.YtohapjojkjjflaaGreatDoor.Wz
