import Derived.Test.YtohapjojkjjflaaGreatDoorRj
import Derived.Test.YtohapjojkjjflaaGreatDoorRv
set_option maxRecDepth 100000
namespace Go.Proofs.YtohapjojkjjflaaGreatDoor.Wz
open Tryz (prog)
open Go Go.AM WzA WzB WzD
open Go.AM.Pk (K0 K1 K2 K3 K4 K5)
structure RF (p:Pq)(es:List Sb):Prop where
 ne:aN p.kind≠[45]
 only:p=iA (aN p.kind) p
 row:es=mJ (aN p.kind) es
 lists:cO fiR p es=true
 qos:p.qos≤2
 conn:p.kind=1→jF dI nmR p=true
 pub:p.kind=3→nmR p.topic=true∧(p.qos=0→p.id=0)∧(0<p.qos→p.id≠0)
 ids:p.kind≠3→aW (aN p.kind) 105=true→p.id≠0
theorem bIu {p:Pq}{es:List Sb}(h:eF dI nmR fiR p es=true):RF p es:=by
 unfold eF at h;split at h
 ·cases h
 rename_i h1;split at h
 ·cases h
 rename_i h2;split at h
 ·cases h
 rename_i h3;split at h
 ·cases h
 rename_i h4;split at h
 ·cases h
 rename_i h5;split at h
 ·cases h
 rename_i h6;have h2:=Decidable.not_not.1 h2;refine⟨h1,h2.1,h2.2,?_,Nat.le_of_not_lt fun h=>h3 (Or.inr h),fun k=>?_,fun k=>⟨?_,fun q=>?_,fun q i=>?_⟩,fun k b i=>h6 ⟨k,b,i⟩⟩
 ·cases hl:cO fiR p es with
  |true=>rfl
  |false=>exact absurd (Or.inl hl) h3
 ·cases hl:jF dI nmR p with
  |true=>rfl
  |false=>exact absurd (Or.inl ⟨k,hl⟩) h4
 ·cases hl:nmR p.topic with
  |true=>rfl
  |false=>exact absurd ⟨k,Or.inl hl⟩ h5
 ·exact Decidable.byContradiction fun i=>h5 ⟨k,Or.inr (Or.inl ⟨q,Or.inr i⟩)⟩
 ·exact h5 ⟨k,Or.inr (Or.inr ⟨q,i⟩)⟩
theorem RF.kind {p:Pq}{es:List Sb}(r:RF p es):1≤p.kind∧p.kind≤14:=by
 have h:=r.ne;refine⟨Nat.pos_of_ne_zero fun e=>h (by rw[e];rfl),Nat.le_of_not_lt fun e=>h ?_⟩;unfold aN;rw[List.getElem?_eq_none (by simp;omega)];rfl
section
variable {Q:Orc}(kd:KnB Q){h:H}
include kd
theorem U63 {n:Nat}(hn:1≤n)(c:Bool)(N:Nat):aA prog 2 Q n 63 [.bool c,.int .i64 (N:Int)] h=some (.int .i64 ((if c then N else 0:Nat):Int),h):=by
 obtain⟨n,rfl⟩:∃m,n=m+1:=⟨n-1,by omega⟩;rw[bVj Q n _ _ h (kd.fr 63 _ (by decide))];cases c<;>rfl
theorem cEu (N:Nat)(h:H):∃h',A.zD 1 1 WzB.Z3L [(0,1,.int .i64 (N:Int))] h=some (.slice (some ⟨h.next,0,none⟩) 1 3,h')∧h'.get h.next=some (.cells [.int .i64 (N:Int)] (some 1))∧Ext h h':=by
 have _:=kd;obtain⟨h',hh⟩:∃h',h'=h.push (.cells [.int .i64 (N:Int)] (some 1)):=⟨_,rfl⟩;exact⟨h',by rw[hh];exact cC h rfl rfl rfl,by rw[hh,H.get_push,kB rfl],by rw[hh];exact Ext.push h _⟩
theorem U82 {n:Nat}(hn:4≤n){N id:Nat}(g:h.get id=some (.cells [.int .i64 (N:Int)] (some 1)))(hN:N<2^40):∃h',aA prog 2 Q n 82 [.slice (some ⟨id,0,none⟩) 1 3] h=some (if N≤65535 then .tuple ⟨[str (bD N),.int .i64 0]⟩else .tuple ⟨[str [],.int .i64 1]⟩,h')∧Ext h h':=by
 obtain⟨n,rfl⟩:∃m,n=m+3:=⟨n-3,by omega⟩;rw[bUr Q (n+2) _ h (kd.fr 82 _ (by decide))];have l1:A.zG (.slice (some ⟨id,0,none⟩) 1 3)=some (.int .i64 1):=rfl;have ix:A.zH 1 (.slice (some ⟨id,0,none⟩) 1 3) (.int .i64 0)=some (.pointer (some ⟨id,0,none⟩)):=rfl;have ld:A.load false 1 (.pointer (some ⟨id,0,none⟩)) h=some (.int .i64 (N:Int)):=by rw[qK,g];rfl
 have d0:decide ((0:Int)<1)=true:=rfl;have d1:decide ((1:Int)<1)=false:=rfl;have dn:decide ((N:Int)<0)=false:=by rw[kI];omega
 have dg:decide ((65535:Int)<(N:Int))=decide (65535<N):=dlN 65535 N;have w1:IntKind.i64.wrap (0+1)=1:=rfl;obtain⟨M,hM⟩:∃M,M=n+2:=⟨_,rfl⟩;have hM2:M=n+1+1:=hM;rw[←hM];have w:∀(C:CF) (kr:K2 (Value×H)) (kx:K1 (Value×H)),aFy C M kr kx M (.int .i64 0) (.slice (some ⟨id,0,none⟩) 1 3) (str []) h=aEx h (.slice (some ⟨id,0,none⟩) 1 3) (str []) (.int .i64 0) kr kx (fun x5 x0 x4 h=>aFy C M kr kx (n+1) x5 x0 x4 h):=fun C kr kx=>by
  rw[hM2];rfl
 have w2:∀(C:CF) (x4:Value) (h:H) (kr:K2 (Value×H)) (kx:K1 (Value×H)),aFy C M kr kx (n+1) (.int .i64 1) (.slice (some ⟨id,0,none⟩) 1 3) x4 h=kx x4 h:=fun C x4 h kr kx=>by
  simp only[aFy,aEx,aVf,l1,WzO.S,zZ,d1]
 by_cases c:65535<N
 ·rw[kC c]at dg;refine⟨h,?_,Ext.refl h⟩;rw[kA (by omega)];have w:=w (aA prog 2 Q M) (fun x2 x3 h=>some (.tuple ⟨[x2,x3]⟩,h)) (fun x4 h=>aVe h x4 (fun x2 x3 h=>some (.tuple ⟨[x2,x3]⟩,h)));simp only[F82,aTk,bDr,aTe,bDq,WzO.S];refine Eq.trans w ?_;simp only[aEx,aVf,l1,WzO.S,zZ,d0,aSo,bDp,ix,ld,dn,zY,dg]
 ·rw[kD c]at dg;have q:A.zA prog .quo 3 (.int .i64 (N:Int)) (.int .i64 256)=some (.int .i64 ((N / 256:Nat):Int)):=bXj (c:=256) (by omega) (by omega);have r:A.zA prog .rem 3 (.int .i64 (N:Int)) (.int .i64 256)=some (.int .i64 ((N%256:Nat):Int)):=bDc (c:=256) (by omega);have hq:N / 256<256:=by omega
  have hr:N%256<256:=Nat.mod_lt _ (by omega);obtain⟨h1,e1,e2,x1,_⟩:=cGv h (z:=WzB.Z5L) rfl ((N / 256%256:Nat):Int) ((N%256%256:Nat):Int) (UInt8.ofNat (N / 256)) (UInt8.ofNat (N%256)) (by rw[Nat.mod_eq_of_lt hq];exact sM hq) (by rw[Nat.mod_eq_of_lt hr];exact sM hr);have bs:A.b2s (.slice (some ⟨h.next,0,none⟩) 2 5) h1=some (str (bD N)):=by simp only[A.b2s,e2,lV];rfl
  have ct:A.zA prog .add 9 (str []) (str (bD N))=some (str (bD N)):=nG (a:=[]) (b:=bD N) (by show 0+2≤_;omega);refine⟨h1,?_,x1⟩;rw[kB (by omega)];have w:=w (aA prog 2 Q M) (fun x2 x3 h=>some (.tuple ⟨[x2,x3]⟩,h)) (fun x4 h=>aVe h x4 (fun x2 x3 h=>some (.tuple ⟨[x2,x3]⟩,h)));simp only[F82,aTk,bDr,aTe,bDq,WzO.S];refine Eq.trans w ?_;simp only[aEx,aVf,l1,WzO.S,zZ,d0,aSo,bDp,cEf,cEe,ix,ld,dn,zY,dg,q,aJk,r,e1,bs,ct,aG,w1,w2,aVe]
theorem U66 {n:Nat}(hn:5≤n){N:Nat}(hN:N<65536):∃h',aA prog 2 Q n 66 [.int .u16 (N:Int)] h=some (str (bD N),h')∧Ext h h':=by
 obtain⟨n,rfl⟩:∃m,n=m+1:=⟨n-1,by omega⟩;rw[bVh Q n _ h (kd.fr 66 _ (by decide))];obtain⟨h1,e1,g1,x1⟩:=cEu kd N h;obtain⟨h2,e2,x2⟩:=U82 kd (n:=n) (by omega) g1 (by omega);rw[kB (by omega)]at e2;refine⟨h2,?_,x1.trans x2⟩;have t0:∀a b:Value,A.z 0 (.tuple ⟨[a,b]⟩)=some a:=fun _ _=>rfl;have t1:∀a b:Value,A.z 1 (.tuple ⟨[a,b]⟩)=some b:=fun _ _=>rfl;simp only[F66,bHp,aOr N hN,WzO.S,e1,e2,t0,t1]
theorem U64 {n:Nat}(hn:6≤n){s:List UInt8}(hs:s.length≤65535):∃h',aA prog 2 Q n 64 [str s] h=some (str (aH s),h')∧Ext h h':=by
 obtain⟨n,rfl⟩:∃m,n=m+2:=⟨n-2,by omega⟩;rw[bVi Q (n+1) _ h (kd.fr 64 _ (by decide))];obtain⟨h1,e1,g1,x1⟩:=cEu kd s.length h;obtain⟨h2,e2,x2⟩:=U82 kd (n:=n) (by omega) g1 (by omega);rw[kB hs]at e2;refine⟨h2,?_,x1.trans x2⟩;have t0:∀a b:Value,A.z 0 (.tuple ⟨[a,b]⟩)=some a:=fun _ _=>rfl;have t1:∀a b:Value,A.z 1 (.tuple ⟨[a,b]⟩)=some b:=fun _ _=>rfl;have ct:A.zA prog .add 9 (str (bD s.length)) (str s)=some (str (aH s)):=nG (by show 2+s.length≤_;omega);have d:A.zA prog .neq 3 (.int .i64 0) (.int .i64 0)=some (.bool false):=by rw[aK];rfl
 have e81:aA prog 2 Q (n+1) 81 [str s] h=some (.tuple ⟨[str (aH s),.int .i64 0]⟩,h2):=by
  rw[bUs Q n _ h (kd.fr 81 _ (by decide))];simp only[F81,bHm,qJ,WzO.S,e1,e2,t0,t1,d,ct]
 simp only[F64,bHq,e81,WzO.S,t0,t1]
theorem bJp (h:H):∃h',A.zD 1 15 WzB.Z3L [(0,1,(.int .i64 0)),(1,1,(.int .i64 0)),(2,1,(.int .i64 0)),(3,1,(.int .i64 0)),(4,1,(.int .i64 0)),(5,1,(.int .i64 0)),(6,1,(.int .i64 2)),(7,1,(.int .i64 0)),(8,1,(.int .i64 2)),(9,1,(.int .i64 0)),(10,1,(.int .i64 2)),(11,1,(.int .i64 0)),(12,1,(.int .i64 0)),(13,1,(.int .i64 0)),(14,1,(.int .i64 0))] h=some (.slice (some ⟨h.next,0,none⟩) 15 31,h')∧
 h'.get h.next=some (.cells [.int .i64 0,.int .i64 0,.int .i64 0,.int .i64 0,.int .i64 0,.int .i64 0,.int .i64 2,.int .i64 0,.int .i64 2,.int .i64 0,.int .i64 2,.int .i64 0,.int .i64 0,.int .i64 0,.int .i64 0] (some 1))∧Ext h h':=by
 have _:=kd;obtain⟨h',hh⟩:∃h',h'=h.push (.cells [.int .i64 0,.int .i64 0,.int .i64 0,.int .i64 0,.int .i64 0,.int .i64 0,.int .i64 2,.int .i64 0,.int .i64 2,.int .i64 0,.int .i64 2,.int .i64 0,.int .i64 0,.int .i64 0,.int .i64 0] (some 1)):=⟨_,rfl⟩;exact⟨h',by rw[hh];rfl,by rw[hh,H.get_push,kB rfl],by rw[hh];exact Ext.push h _⟩
theorem U41 {n:Nat}(hn:3≤n){p:Pq}{w:Value}(hw:aJ w=some [w])(k:p.kind≤14)(q:p.qos≤2):∃h',aA prog 2 Q n 41 [.agg ⟨p.cells w⟩] h=some (.int .i64 ((16*p.kind+dO p:Nat):Int),h')∧Ext h h':=by
 obtain⟨n,rfl⟩:∃m,n=m+1:=⟨n-1,by omega⟩;rw[bWd Q n _ h (kd.fr 41 _ (by decide))];obtain⟨h0,e0,b0,x0,_⟩:=cB p hw h;obtain⟨h1,e1,g1,x1⟩:=bJp kd h0;obtain⟨⟨l0,l1,l2,l3,_⟩,_⟩:=(b0.ext x1).lds;have ix:=lP 1 h0.next 0 15 31 p.kind .u8 (by omega);have ld:A.load false 1 (.pointer (some ⟨h0.next,0+p.kind*1,none⟩)) h1=some (.int .i64 ((if p.kind=6∨p.kind=8∨p.kind=10 then 2 else 0:Nat):Int)):=by
  rw[qK,g1];obtain⟨k0,hk⟩:∃k0,k0=p.kind:=⟨_,rfl⟩;rw[←hk]at k⊢;have:k0=0∨k0=1∨k0=2∨k0=3∨k0=4∨k0=5∨k0=6∨k0=7∨k0=8∨k0=9∨k0=10∨k0=11∨k0=12∨k0=13∨k0=14:=by omega
  rcases this with rfl|rfl|rfl|rfl|rfl|rfl|rfl|rfl|rfl|rfl|rfl|rfl|rfl|rfl|rfl<;>rfl
 have d3:decide ((p.kind:Int)=3)=decide (p.kind=3):=deN _ 3;refine⟨h1,?_,x0.trans x1⟩;have m16:A.zA prog .mul 3 (.int .i64 16) (.int .i64 (p.kind:Int))=some (.int .i64 ((16*p.kind:Nat):Int)):=by
  rw[gV,show(16:Int)*(p.kind:Int)=((16*p.kind:Nat):Int) by omega,aS (by omega) (by omega)]
 have c0:=dU p.kind (by omega);unfold dO;by_cases k3:p.kind=3
 ·rw[kC k3]at d3;have ck2:=aBt (p.qos:Int);have ck3:=aUm p.retain;have u8:=fun c=>U63 kd (h:=h1) (n:=n) (by omega) c 8;have u8:∀c,aA prog 2 Q n 63 [.bool c,.int .i64 8] h1=_:=u8;have u1:∀c,aA prog 2 Q n 63 [.bool c,.int .i64 1] h1=_:=fun c=>U63 kd (h:=h1) (n:=n) (by omega) c 1;have c2:=dU p.qos (by omega);have m2:A.zA prog .mul 3 (.int .i64 2) (.int .i64 (p.qos:Int))=some (.int .i64 ((2*p.qos:Nat):Int)):=by
   rw[gV,show(2:Int)*(p.qos:Int)=((2*p.qos:Nat):Int) by omega,aS (by omega) (by omega)]
  have hA:(if p.dup=true then 8 else 0)≤8:=by split<;>omega
  have hB:(if p.retain=true then 1 else 0)≤1:=by split<;>omega
  have a1:A.zA prog .add 3 (.int .i64 ((if p.dup=true then 8 else 0:Nat):Int)) (.int .i64 ((2*p.qos:Nat):Int))=_:=iZ (by omega)
  have a2:A.zA prog .add 3 (.int .i64 (((if p.dup=true then 8 else 0)+2*p.qos:Nat):Int)) (.int .i64 ((if p.retain=true then 1 else 0:Nat):Int))=_:=iZ (by omega)
  have a3:A.zA prog .add 3 (.int .i64 ((16*p.kind:Nat):Int)) (.int .i64 (((if p.dup=true then 8 else 0)+2*p.qos+(if p.retain=true then 1 else 0):Nat):Int))=_:=iZ (by omega)
  rw[kB k3];simp only[F41,aTt,bFb,e0,WzO.S,e1,WzO.n0,l0,bFa,zQ,d3,l1,u8,l2,ck2,Bool.and_true,c2,m2,a1,l3,ck3,u1,a2,bEz,c0,m16,a3];rw[Nat.zero_add]at ld;have ix:A.zH 1 (.slice (some ⟨h0.next,0,none⟩) 15 31) (.int .u8 (p.kind:Int))=_:=ix;rw[Nat.zero_add]at ix;simp only[ix,ld,WzO.S]
 ·rw[kD k3]at d3;have hB:(if p.kind=6∨p.kind=8∨p.kind=10 then 2 else 0)≤2:=by split<;>omega
  have a3:A.zA prog .add 3 (.int .i64 ((16*p.kind:Nat):Int)) (.int .i64 ((if p.kind=6∨p.kind=8∨p.kind=10 then 2 else 0:Nat):Int))=_:=iZ (by omega)
  rw[kA k3];rw[Nat.zero_add]at ld;have ix:A.zH 1 (.slice (some ⟨h0.next,0,none⟩) 15 31) (.int .u8 (p.kind:Int))=_:=ix;rw[Nat.zero_add]at ix;simp only[F41,aTt,bFb,e0,WzO.S,e1,WzO.n0,l0,ix,ld,bFa,zQ,d3,bEz,c0,m16,a3]
end
end Go.Proofs.YtohapjojkjjflaaGreatDoor.Wz

set_option maxRecDepth 100000
namespace Go.Proofs.YtohapjojkjjflaaGreatDoor.Wz
open Tryz (prog)
open Go Go.AM WzA WzB WzD
open Go.AM.Pk (K0 K1 K2 K3 K4 K5)
theorem gR (b:Bool)(N:Nat):(if b then N else 0)≤N:=by split<;>omega
section
variable {Q:Orc}(kd:KnB Q){h:H}{t n:Nat}{p:Pq}{w:Value}{es:List Sb}(hn:1002000≤n)(bd:Bd p es)(b:BQ h t p w)
include kd hn bd b
theorem cJc (hq:p.wq≤2)(β:Type)(kn:K2 β):bEu (aA prog 2 Q n) h (aB t) kn=kn (.int .i64 (cfN p:Int)) (aB t) h:=by
 have _:=bd;obtain⟨⟨l0,l1,l2,l3,l4,l5,l6,l7⟩,⟨l8,l9,l10,l11,l12,l13,l14,l15⟩,l16,l17,l18,l19,l20,l21,l22,l23⟩:=b.lds;have u128:∀c,aA prog 2 Q n 63 [.bool c,.int .i64 128] h=_:=fun c=>U63 kd (h:=h) (n:=n) (by omega) c 128;have u64:∀c,aA prog 2 Q n 63 [.bool c,.int .i64 64] h=_:=fun c=>U63 kd (h:=h) (n:=n) (by omega) c 64;have u32:∀c,aA prog 2 Q n 63 [.bool c,.int .i64 32] h=_:=fun c=>U63 kd (h:=h) (n:=n) (by omega) c 32;have u4:∀c,aA prog 2 Q n 63 [.bool c,.int .i64 4] h=_:=fun c=>U63 kd (h:=h) (n:=n) (by omega) c 4;have u2:∀c,aA prog 2 Q n 63 [.bool c,.int .i64 2] h=_:=fun c=>U63 kd (h:=h) (n:=n) (by omega) c 2;have b1:=gR p.hu 128;have b2:=gR p.hp 64;have b3:=gR p.wr 32;have b4:=gR p.will 4;have b5:=gR p.clean 2;obtain⟨A1,hA1⟩:∃x,x=if p.hu=true then 128 else 0:=⟨_,rfl⟩
 obtain⟨A2,hA2⟩:∃x,x=if p.hp=true then 64 else 0:=⟨_,rfl⟩
 obtain⟨A3,hA3⟩:∃x,x=if p.wr=true then 32 else 0:=⟨_,rfl⟩
 obtain⟨A4,hA4⟩:∃x,x=if p.will=true then 4 else 0:=⟨_,rfl⟩
 obtain⟨A5,hA5⟩:∃x,x=if p.clean=true then 2 else 0:=⟨_,rfl⟩
 have v1:=u128 p.hu;have v2:=u64 p.hp;have v3:=u32 p.wr;have v4:=u4 p.will;have v5:=u2 p.clean;rw[←hA1]at b1 v1;rw[←hA2]at b2 v2;rw[←hA3]at b3 v3;rw[←hA4]at b4 v4;rw[←hA5]at b5 v5;have c0:=dU p.wq (by omega);have m8:A.zA prog .mul 3 (.int .i64 8) (.int .i64 (p.wq:Int))=some (.int .i64 ((8*p.wq:Nat):Int)):=by
  rw[gV,show(8:Int)*(p.wq:Int)=((8*p.wq:Nat):Int) by omega,aS (by omega) (by omega)]
 have a1:=iZ (a:=A1) (b:=A2) (by omega);have a2:=iZ (a:=A1+A2) (b:=A3) (by omega);have a3:=iZ (a:=A1+A2+A3) (b:=8*p.wq) (by omega);have a4:=iZ (a:=A1+A2+A3+8*p.wq) (b:=A4) (by omega);have a5:=iZ (a:=A1+A2+A3+8*p.wq+A4) (b:=A5) (by omega);unfold cfN;rw[←hA1,←hA2,←hA3,←hA4,←hA5];simp only[bEu,WzO.S,WzO.n0,Nat.reduceAdd,l16,l17,l15,l14,l11,l8,v1,v2,v3,v4,v5,aUm,aBt,Bool.and_true,c0,m8,a1,a2,a3,a4,a5]
theorem t65 (N:Nat)(hN:N<256)(h:H):aA prog 2 Q n 65 [.int .i64 (N:Int)] h=some (str [UInt8.ofNat N],h):=by
 have _:=bd;have _:=b;obtain⟨m,hm⟩:∃m,n=m+1:=⟨n-1,by omega⟩;exact(congrArg (fun n=>aA prog 2 Q n 65 [.int .i64 (N:Int)] h) hm).trans (qB (kd.f65 N hN) m h)
theorem cJd (hc:p.client.length≤65535)(hq:p.wq≤2)(hv:p.level=4):∃h',Ext h h'∧∀(β:Type) (kn:K2 β),bEt (aA prog 2 Q n) h (aB t) (.int .i64 (cfN p:Int)) kn=kn (aB t) (str (aH MQTT++[UInt8.ofNat p.level,UInt8.ofNat (cfN p)]++bD p.keep++aH p.client)) h':=by
 obtain⟨⟨l0,l1,l2,l3,l4,l5,l6,l7⟩,⟨l8,l9,l10,l11,l12,l13,l14,l15⟩,l16,l17,l18,l19,l20,l21,l22,l23⟩:=b.lds;have hcf:cfN p<256:=by
  have b1:=gR p.hu 128;have b2:=gR p.hp 64;have b3:=gR p.wr 32;have b4:=gR p.will 4;have b5:=gR p.clean 2;unfold cfN;omega
 obtain⟨h1,e1,x1⟩:=U64 kd (h:=h) (n:=n) (s:=MQTT) (by omega) (by decide);have e1:aA prog 2 Q n 64 [.string ⟨⟨[77,81,84,84]⟩⟩] h=_:=e1;have e4:aA prog 2 Q n 65 [.int .i64 4] h1=some (str [4],h1):=t65 kd hn bd b 4 (by decide) h1;have ec:=t65 kd hn bd b (cfN p) hcf h1;have b1:=b.ext x1;obtain⟨_,⟨_,m9,m10,_⟩,_⟩:=b1.lds;obtain⟨h2,e2,x2⟩:=U66 kd (h:=h1) (n:=n) (by omega) bd.keep;obtain⟨_,⟨_,_,k10,_⟩,_⟩:=(b1.ext x2).lds;obtain⟨h3,e3,x3⟩:=U64 kd (h:=h2) (n:=n) (s:=p.client) (by omega) hc;have hf:(aH MQTT).length=6:=rfl;have hc2:=aU p.client;have hw2:(bD p.keep).length=2:=rfl;have c1:A.zA prog .add 9 (str (aH MQTT)) (str [4])=_:=nG (by rw[hf];decide);have c2:A.zA prog .add 9 (str (aH MQTT++[4])) (str [UInt8.ofNat (cfN p)])=_:=nG (by rw[kL,hf];show 6+1+1≤_;omega);have c3:A.zA prog .add 9 (str (aH MQTT++[4]++[UInt8.ofNat (cfN p)])) (str (bD p.keep))=_:=nG (by rw[kL,kL,hf,hw2];show 6+1+1+2≤_;omega);have c4:A.zA prog .add 9 (str (aH MQTT++[4]++[UInt8.ofNat (cfN p)]++bD p.keep)) (str (aH p.client))=_:=nG (by rw[kL,kL,kL,hf,hw2,hc2];show 6+1+1+2+_≤_;omega);refine⟨h3,x1.trans (x2.trans x3),fun β kn=>?_⟩;simp only[bEt,e1,WzO.S,e4,c1,ec,c2,WzO.n0,m9,l9,aOw,Bool.and_true,e2,c3,k10,m10,l10,aNe,e3,c4];rw[hv];simp
theorem cIz (S:List UInt8)(hA:S.length≤10000000)(hw:p.will=true→p.wt.length≤65535∧p.wp.length≤65535):∃h',Ext h h'∧∀(β:Type) (kn:K2 β),aWi (aA prog 2 Q n) h (aB t) (str S) kn=kn (aB t) (str (S++(if p.will then aH p.wt++aH p.wp else[]))) h':=by
 have _:=bd;obtain⟨⟨l0,l1,l2,l3,l4,l5,l6,l7⟩,⟨l8,l9,l10,l11,l12,l13,l14,l15⟩,l16,l17,l18,l19,l20,l21,l22,l23⟩:=b.lds
 cases hwl:p.will with
 |false=>
  rw[hwl]at l11;refine⟨h,Ext.refl h,fun β kn=>?_⟩;simp only[aWi,WzO.S,WzO.n0,l11];simp only[pB,if_false,List.append_nil]
 |true=>
  rw[hwl]at l11;obtain⟨hw1,hw2⟩:=hw hwl;obtain⟨h1,e1,x1⟩:=U64 kd (h:=h) (n:=n) (s:=p.wt) (by omega) hw1;obtain⟨_,⟨_,_,_,_,_,m13,_⟩,_⟩:=(b.ext x1).lds;obtain⟨h2,e2,x2⟩:=U64 kd (h:=h1) (n:=n) (s:=p.wp) (by omega) hw2;have f1:=aU p.wt;have f2:=aU p.wp;have c1:A.zA prog .add 9 (str S) (str (aH p.wt))=_:=nG (by omega);have c2:A.zA prog .add 9 (str (S++aH p.wt)) (str (aH p.wp))=_:=nG (by rw[kL];omega);refine⟨h2,x1.trans x2,fun β kn=>?_⟩;simp only[aWi,WzO.S,WzO.n0,Nat.reduceAdd,l11,l12,l13,m13,e1,c1,aNe,Bool.and_true,e2,c2];simp only[if_true,pT]
theorem cJa (S:List UInt8)(hA:S.length≤10000000)(hu:p.hu=true→p.user.length≤65535)(hp:p.hp=true→p.pass.length≤65535):∃h',Ext h h'∧∀(β:Type) (kn:K1 β),aKk (aA prog 2 Q n) h (aB t) (str S) kn=kn (str (S++(if p.hu then aH p.user else[])++(if p.hp then aH p.pass else[]))) h':=by
 have _:=bd;obtain⟨⟨l0,l1,l2,l3,l4,l5,l6,l7⟩,⟨l8,l9,l10,l11,l12,l13,l14,l15⟩,l16,l17,l18,l19,l20,l21,l22,l23⟩:=b.lds;have f1:=aU p.user;have f2:=aU p.pass
 cases hul:p.hu with
 |false=>
  rw[hul]at l16
  cases hpl:p.hp with
  |false=>
   rw[hpl]at l17;refine⟨h,Ext.refl h,fun β kn=>?_⟩;simp only[aKk,WzO.S,WzO.n0,l16,l17];simp only[pB,if_false,List.append_nil]
  |true=>
   rw[hpl]at l17;have hp:=hp hpl;obtain⟨h1,e1,x1⟩:=U64 kd (h:=h) (n:=n) (s:=p.pass) (by omega) hp;have c1:A.zA prog .add 9 (str S) (str (aH p.pass))=_:=nG (by omega);refine⟨h1,x1,fun β kn=>?_⟩;simp only[aKk,WzO.S,WzO.n0,l16,l17,l19,e1,c1];simp only[pB,if_false,if_true,List.append_nil]
 |true=>
  rw[hul]at l16;have hu:=hu hul;obtain⟨h1,e1,x1⟩:=U64 kd (h:=h) (n:=n) (s:=p.user) (by omega) hu;have c1:A.zA prog .add 9 (str S) (str (aH p.user))=_:=nG (by omega);obtain⟨_,_,_,m17,_,m19,_⟩:=(b.ext x1).lds
  cases hpl:p.hp with
  |false=>
   rw[hpl]at m17;refine⟨h1,x1,fun β kn=>?_⟩;simp only[aKk,WzO.S,WzO.n0,l16,l18,e1,c1,m17];simp only[pB,if_false,if_true,List.append_nil]
  |true=>
   rw[hpl]at m17;have hp:=hp hpl;obtain⟨h2,e2,x2⟩:=U64 kd (h:=h1) (n:=n) (s:=p.pass) (by omega) hp;have c2:A.zA prog .add 9 (str (S++aH p.user)) (str (aH p.pass))=_:=nG (by rw[kL];omega);refine⟨h2,x1.trans x2,fun β kn=>?_⟩;simp only[aKk,WzO.S,WzO.n0,l16,l18,e1,c1,m17,m19,e2,c2];simp only[if_true]
theorem cJb:∀(d i m:Nat) (h:H) (S:List UInt8) (L:Nat),i+d=es.length→d<m→S.length≤10+i*70000→(∀s∈es,s.1.length≤65535)→BQ h t p w→SliceE 2 h w (es.map sbC)→∃h',Ext h h'∧∀(β:Type) (kx:K1 β),
 aGd (aA prog 2 Q n) L kx m (.int .i64 (i:Int)) (aB t) (str S) h=kx (str (S++dD p.kind (es.drop i))) h':=by
 have hbl:=bd.len;have t65:=t65 kd hn bd b;clear b h;intro d
 induction d with
 |zero=>
  intro i m h S L hi hm hA hs b sl;obtain⟨m,rfl⟩:∃r,m=r+1:=⟨m-1,by omega⟩;obtain⟨_,_,_,_,_,_,_,_,l22,_⟩:=b.lds;have hlen:A.zG w=some (.int .i64 (es.length:Int)):=by have:=sl.len.1;rw[pA]at this;exact this
  have d:decide ((i:Int)<(es.length:Int))=false:=by rw[kI];omega
  refine⟨h,Ext.refl h,fun β kx=>?_⟩;rw[pL (by omega)];simp only[aGd,aQt,WzO.S,WzO.n0,l22,hlen,zZ,d];rw[show dD p.kind []=[]from rfl,List.append_nil]
 |succ d ih=>
  intro i m h S L hi hm hA hs b sl;obtain⟨m,rfl⟩:∃r,m=r+1:=⟨m-1,by omega⟩;obtain⟨_,_,_,_,_,_,_,_,l22,_⟩:=b.lds;have hlen:A.zG w=some (.int .i64 (es.length:Int)):=by have:=sl.len.1;rw[pA]at this;exact this
  have dl:decide ((i:Int)<(es.length:Int))=true:=by rw[kJ];omega
  obtain⟨s,hsi⟩:∃s,es[i]?=some s:=⟨_,kN (by omega)⟩;have hs1:=hs s (List.mem_of_getElem? hsi);have hs2:=(bd.es s (List.mem_of_getElem? hsi)).2;obtain⟨id,off,ix,lds⟩:=mR sl hsi;obtain⟨f0,_,_⟩:=lds h (Ext.refl h);obtain⟨h1,e1,x1⟩:=U64 kd (h:=h) (n:=n) (s:=s.1) (by omega) hs1;obtain⟨_,g1,_⟩:=lds h1 x1;obtain⟨⟨m0,_⟩,_,_,_,_,_,_,_,m22,_⟩:=(b.ext x1).lds;have wr:A.zA prog .add 3 (.int .i64 (i:Int)) (.int .i64 1)=some (.int .i64 ((i+1:Nat):Int)):=by rw[aG,aI (by omega)]
  have d8:decide ((p.kind:Int)=8)=decide (p.kind=8):=deN _ 8;have f1:=aU s.1;have hi2:i*70000≤1000301*70000:=Nat.mul_le_mul_right _ (by omega);have c1:A.zA prog .add 9 (str S) (str (aH s.1))=_:=nG (by omega);have e5:=t65 s.2 hs2 h1;have c53:=dU s.2 hs2;have c2:A.zA prog .add 9 (str (S++aH s.1)) (str [UInt8.ofNat s.2])=_:=nG (by rw[kL];show _+1≤_;omega);rw[aQ hsi,fY];by_cases k8:p.kind=8
  ·rw[kC k8]at d8;obtain⟨h2,x2,e2⟩:=ih (i+1) m h1 (S++aH s.1++[UInt8.ofNat s.2]) L (by omega) (by omega) (by rw[kL,kL];show _+1≤_;omega) hs (b.ext x1) (sl.ext x1);have hsb:nE p.kind s=aH s.1++[UInt8.ofNat s.2]:=by unfold nE;rw[kB k8]
   refine⟨h2,x1.trans x2,fun β kx=>?_⟩;simp only[aGd,aQt,WzO.S,WzO.n0,Nat.add_zero,l22,hlen,zZ,dl,ix,f0,e1,c1,m0,zQ,d8,m22,g1,c53,e5,c2,wr,e2,hsb];rw[pT,pT,pT]
  ·rw[kD k8]at d8;obtain⟨h2,x2,e2⟩:=ih (i+1) m h1 (S++aH s.1) L (by omega) (by omega) (by rw[kL];omega) hs (b.ext x1) (sl.ext x1);have hsb:nE p.kind s=aH s.1:=by unfold nE;rw[kA k8,List.append_nil]
   refine⟨h2,x1.trans x2,fun β kx=>?_⟩;simp only[aGd,aQt,WzO.S,WzO.n0,Nat.add_zero,l22,hlen,zZ,dl,ix,f0,e1,c1,m0,zQ,d8,wr,e2,hsb];rw[pT]
end
end Go.Proofs.YtohapjojkjjflaaGreatDoor.Wz

set_option maxRecDepth 100000
namespace Go.Proofs.YtohapjojkjjflaaGreatDoor.Wz
open Tryz (prog)
open Go Go.AM WzA WzB WzD
open Go.AM.Pk (K0 K1 K2 K3 K4 K5)
theorem aCe {s:List UInt8}(h:nmR s=true):dI s=true:=by
 unfold nmR at h;split at h
 ·cases h
 ·split at h
  ·rename_i hv;exact hv
  ·cases h
theorem aOk {s:List UInt8}(h:fiR s=true):dI s=true:=by
 unfold fiR at h;split at h
 ·cases h
 ·split at h
  ·rename_i hv;exact hv
  ·cases h
theorem nH {l:List UInt8}(h:dI l=true):l.length≤65535:=by
 unfold dI at h;split at h
 ·cases h
 ·omega
theorem aAb {p:Pq}(h:jF dI nmR p=true):p.level=4∧p.client.length≤65535∧p.wq≤2∧(p.will=true→p.wt.length≤65535∧p.wp.length≤65535)∧(p.hu=true→p.user.length≤65535)∧(p.hp=true→p.pass.length≤65535):=by
 unfold jF at h;split at h
 ·cases h
 rename_i h1;split at h
 ·cases h
 rename_i h2;split at h
 ·cases h
 rename_i h3;split at h
 ·cases h
 rename_i h4;have h5:=of_decide_eq_true h;have tr:∀{b:Bool},¬b=false→b=true:=fun{b} h=>by cases b with|true=>rfl|false=>exact absurd rfl h
 refine⟨Decidable.byContradiction fun e=>h1 (Or.inl e),nH (tr fun e=>h1 (Or.inr e)),?_,fun hw=>⟨nH (aCe (tr fun e=>h2 ⟨hw,Or.inl e⟩)),Nat.le_of_not_lt fun e=>h2 ⟨hw,Or.inr (Or.inl e)⟩⟩,fun hu=>nH (tr fun e=>h4 (Or.inl ⟨hu,e⟩)),fun hp=>h5.elim (fun h=>h.2) (fun h=>by rw[hp]at h;cases h.1)⟩
 cases hw:p.will with
 |true=>exact Nat.le_of_not_lt fun e=>h2 ⟨hw,Or.inr (Or.inr e)⟩
 |false=>exact Nat.le_of_not_lt fun e=>h3 ⟨hw,Or.inr (Or.inr (Or.inl (by omega)))⟩
theorem RF.c0 {p:Pq}{es:List Sb}(r:RF p es)(h:aW (aN p.kind) 109=false):p.codes=[]:=by
 have:=congrArg Pq.codes r.only;simp only[iA,h]at this;exact this
theorem RF.p0 {p:Pq}{es:List Sb}(r:RF p es)(h:aW (aN p.kind) 112=false):p.payload=[]:=by
 have:=congrArg Pq.payload r.only;simp only[iA,h]at this;exact this
theorem RF.i0 {p:Pq}{es:List Sb}(r:RF p es)(h:aW (aN p.kind) 105=false):p.id=0:=by
 have:=congrArg Pq.id r.only;simp only[iA,h]at this;exact this
theorem RF.e0 {p:Pq}{es:List Sb}(r:RF p es)(h:aW (aN p.kind) 98=false):es=[]:=by
 have:=r.row;simp only[mJ,h]at this;exact this
theorem RF.fl {p:Pq}{es:List Sb}(r:RF p es):∀s∈es,s.1.length≤65535:=by
 intro s hs;have h:=r.lists;unfold cO at h;simp only[kO,List.all_eq_true]at h;exact nH (aOk (h.1.1.1 s hs).1.1)
section
variable {Q:Orc}(kd:KnB Q){h:H}{t n:Nat}{p:Pq}{w:Value}{es:List Sb}(hn:1002000≤n)(bd:Bd p es)(b:BQ h t p w)(r:RF p es)
include kd hn bd b r
theorem bTo (k:p.kind=1):∃h',Ext h h'∧∀(β:Type) (kn:K1 β),nF (aA prog 2 Q n) n h (aB t) (str []) kn=kn (str (bX p es)) h':=by
 obtain⟨⟨l0,_⟩,_⟩:=b.lds;obtain⟨f1,f2,f3,f4,f5,f6⟩:=aAb (r.conn k);have e1:=cJc kd hn bd b f3;obtain⟨h2,x2,e2⟩:=cJd kd hn bd b f2 f3 f1;have hc2:=aU p.client;have l1:(aH MQTT++[UInt8.ofNat p.level,UInt8.ofNat (cfN p)]++bD p.keep++aH p.client).length≤100000:=by
  simp only[kL,hc2];show 6+2+2+_≤_;omega
 obtain⟨h3,x3,e3⟩:=cIz kd hn bd (b.ext x2) (aH MQTT++[UInt8.ofNat p.level,UInt8.ofNat (cfN p)]++bD p.keep++aH p.client) (by omega) f4;have l2:(aH MQTT++[UInt8.ofNat p.level,UInt8.ofNat (cfN p)]++bD p.keep++aH p.client++(if p.will=true then aH p.wt++aH p.wp else[])).length≤300000:=by
  rw[kL];have:(if p.will=true then aH p.wt++aH p.wp else[]).length≤140000:=by
   split
   ·rename_i hw;have:=f4 hw;rw[kL,aU,aU];omega
   ·exact pQ _
  omega
 obtain⟨h4,x4,e4⟩:=cJa kd hn bd ((b.ext x2).ext x3) _ (kG l2 (by omega)) f5 f6;have d1:decide ((p.kind:Int)=1)=true:=by rw[kJ];omega
 have hr:bX p es=oO p:=by unfold bX;rw[kB k]
 refine⟨h4,x2.trans (x3.trans x4),fun β kn=>?_⟩;simp only[nF,xH,xG,WzO.S,WzO.n0,l0,zQ,d1,e1,e2,e3,e4,hr];rfl
theorem bTn (k:p.kind=2):∃h',Ext h h'∧∀(β:Type) (kn:K1 β),nF (aA prog 2 Q n) n h (aB t) (str []) kn=kn (str (bX p es)) h':=by
 have _:=r;obtain⟨⟨l0,l1,l2,l3,l4,l5,l6,l7⟩,⟨l8,l9,l10,l11,l12,l13,l14,l15⟩,l16,l17,l18,l19,l20,l21,l22,l23⟩:=b.lds;have d1:decide ((p.kind:Int)=1)=false:=by rw[kI];omega
 have d2:decide ((p.kind:Int)=2)=true:=by rw[kJ];omega
 have u1:aA prog 2 Q n 63 [.bool p.present,.int .i64 1] h=_:=U63 kd (h:=h) (n:=n) (by omega) p.present 1;have b1:=gR p.present 1;have e1:=t65 kd hn bd b (if p.present=true then 1 else 0) (by omega) h
 have e2:=t65 kd hn bd b p.code bd.code h;have c0:=dU p.code bd.code;have ct:A.zA prog .add 9 (str [UInt8.ofNat (if p.present=true then 1 else 0)]) (str [UInt8.ofNat p.code])=_:=nG (by show 1+1≤_;omega)
 have hr:bX p es=[UInt8.ofNat (if p.present then 1 else 0)]++[UInt8.ofNat p.code]:=by unfold bX;rw[kA (by omega),kB k];rfl
 refine⟨h,Ext.refl h,fun β kn=>?_⟩;simp only[nF,xH,xG,aAs,bYs,WzO.S,WzO.n0,l0,zQ,d1,d2,l20,l21,u1,e1,aBt,Bool.and_true,c0,e2,ct,hr]
theorem bTm (k:p.kind=3):∃h',Ext h h'∧∀(β:Type) (kn:K1 β),nF (aA prog 2 Q n) n h (aB t) (str []) kn=kn (str (bX p es)) h':=by
 obtain⟨⟨l0,l1,l2,l3,l4,l5,l6,l7⟩,⟨l8,l9,l10,l11,l12,l13,l14,l15⟩,l16,l17,l18,l19,l20,l21,l22,l23⟩:=b.lds;have d1:decide ((p.kind:Int)=1)=false:=by rw[kI];omega
 have d2:decide ((p.kind:Int)=2)=false:=by rw[kI];omega
 have d3:decide ((p.kind:Int)=3)=true:=by rw[kJ];omega
 obtain⟨q1,q2,q3⟩:=r.pub k;have hc:=r.c0 (by rw[k];decide);have he:=r.e0 (by rw[k];decide);have tl:=nH (aCe q1);obtain⟨h1,e1,x1⟩:=U64 kd (h:=h) (n:=n) (s:=p.topic) (by omega) tl;obtain⟨⟨_,_,m2,_,m4,_,m6,_⟩,_⟩:=(b.ext x1).lds;have f1:=aU p.topic;have b1:=bd.payload;have dq:decide ((0:Int)<(p.qos:Int))=decide (0<p.qos):=dlN 0 _;have hr:bX p es=aH p.topic++(if 0<p.id then bD p.id else[])++p.payload:=by
  unfold bX;rw[kA (by omega),kA (by omega),kB k,he,hc,show dD p.kind []=[]from rfl,List.append_nil,List.append_nil]
 by_cases c:0<p.qos
 ·rw[kC c]at dq;obtain⟨h2,e2,x2⟩:=U66 kd (h:=h1) (n:=n) (by omega) bd.id;obtain⟨⟨_,_,_,_,_,_,k6,_⟩,_⟩:=((b.ext x1).ext x2).lds;have c1:A.zA prog .add 9 (str (aH p.topic)) (str (bD p.id))=_:=nG (by show _+2≤_;omega);have c2:A.zA prog .add 9 (str (aH p.topic++bD p.id)) (str p.payload)=_:=nG (by rw[kL];show _+2+_≤_;omega);have hi:=q3 c;refine⟨h2,x1.trans x2,fun β kn=>?_⟩;simp only[nF,xH,xG,aAs,aDz,bEv,WzO.S,WzO.n0,l0,zQ,d1,d2,d3,l5,e1,m2,zY,dq,m4,e2,c1,k6,c2,hr];rw[kB (by omega)]
 ·rw[kD c]at dq;have hi:=q2 (by omega);have c2:A.zA prog .add 9 (str (aH p.topic)) (str p.payload)=_:=nG (by omega);refine⟨h1,x1,fun β kn=>?_⟩;simp only[nF,xH,xG,aAs,aDz,bEv,WzO.S,WzO.n0,l0,zQ,d1,d2,d3,l5,e1,m2,zY,dq,m6,c2,hr];rw[kA (by omega),List.append_nil]
theorem bTl (sl:SliceE 2 h w (es.map sbC))(k:p.kind=8∨p.kind=10):∃h',Ext h h'∧∀(β:Type) (kn:K1 β),nF (aA prog 2 Q n) n h (aB t) (str []) kn=kn (str (bX p es)) h':=by
 obtain⟨⟨l0,l1,l2,l3,l4,l5,l6,l7⟩,⟨l8,l9,l10,l11,l12,l13,l14,l15⟩,l16,l17,l18,l19,l20,l21,l22,l23⟩:=b.lds;have d1:decide ((p.kind:Int)=1)=false:=by rw[kI];omega
 have d2:decide ((p.kind:Int)=2)=false:=by rw[kI];omega
 have d3:decide ((p.kind:Int)=3)=false:=by rw[kI];omega
 have d8:decide ((p.kind:Int)=8)=decide (p.kind=8):=deN _ 8;have d10:decide ((p.kind:Int)=10)=decide (p.kind=10):=deN _ 10;have hc:=r.c0 (by rcases k with k|k<;>rw[k]<;>decide)
 have hp:=r.p0 (by rcases k with k|k<;>rw[k]<;>decide)
 have hi:=r.ids (by omega) (by rcases k with k|k<;>rw[k]<;>decide)
 obtain⟨h1,e1,x1⟩:=U66 kd (h:=h) (n:=n) (by omega) bd.id;have hbl:=bd.len;obtain⟨h2,x2,e2⟩:=cJb kd hn bd (b.ext x1) es.length 0 n h1 (bD p.id) n (by omega) (by omega) (by show 2≤_;omega) r.fl (b.ext x1) (sl.ext x1);have hr:bX p es=bD p.id++dD p.kind es:=by
  unfold bX;rw[kA (by omega),kA (by omega),kA (by omega),kB (by omega),hc,hp,List.append_nil,List.append_nil,List.nil_append]
 refine⟨h2,x1.trans x2,fun β kn=>?_⟩;have e2:=e2 β kn;rw[List.drop_zero]at e2;by_cases k8:p.kind=8
 ·rw[kC k8]at d8;simp only[nF,xH,xG,aAs,aDz,aKl,bEw,WzO.S,WzO.n0,l0,zQ,d1,d2,d3,d8,l4,e1,hr];exact e2
 ·rw[kD k8]at d8;rw[kC (show p.kind=10 by omega)]at d10;simp only[nF,xH,xG,aAs,aDz,aKl,bEw,WzO.S,WzO.n0,l0,zQ,d1,d2,d3,d8,d10,l4,e1,hr];exact e2
theorem bTp (k:p.kind=4∨p.kind=5∨p.kind=6∨p.kind=7∨p.kind=9∨p.kind=11∨p.kind=12∨p.kind=13∨p.kind=14):∃h',Ext h h'∧∀(β:Type) (kn:K1 β),nF (aA prog 2 Q n) n h (aB t) (str []) kn=kn (str (bX p es)) h':=by
 obtain⟨⟨l0,l1,l2,l3,l4,l5,l6,l7⟩,⟨l8,l9,l10,l11,l12,l13,l14,l15⟩,l16,l17,l18,l19,l20,l21,l22,l23⟩:=b.lds;have d1:decide ((p.kind:Int)=1)=false:=by rw[kI];omega
 have d2:decide ((p.kind:Int)=2)=false:=by rw[kI];omega
 have d3:decide ((p.kind:Int)=3)=false:=by rw[kI];omega
 have d8:decide ((p.kind:Int)=8)=false:=by rw[kI];omega
 have d10:decide ((p.kind:Int)=10)=false:=by rw[kI];omega
 have d9:decide ((p.kind:Int)=9)=decide (p.kind=9):=deN _ 9;have d12:decide ((p.kind:Int)=12)=decide (p.kind=12):=deN _ 12;have d13:decide ((p.kind:Int)=13)=decide (p.kind=13):=deN _ 13;have d14:decide ((p.kind:Int)=14)=decide (p.kind=14):=deN _ 14;have hp:=r.p0 (by rcases k with k|k|k|k|k|k|k|k|k<;>rw[k]<;>decide)
 have he:=r.e0 (by rcases k with k|k|k|k|k|k|k|k|k<;>rw[k]<;>decide)
 have hr:bX p es=(if 0<p.id then bD p.id else[])++p.codes:=by
  unfold bX;rw[kA (by omega),kA (by omega),kA (by omega),hp,he,show dD p.kind []=[]from rfl,List.append_nil,List.append_nil,List.nil_append]
 by_cases k12:p.kind=12∨p.kind=13∨p.kind=14
 ·have hc:=r.c0 (by rcases k12 with k|k|k<;>rw[k]<;>decide)
  have hi:=r.i0 (by rcases k12 with k|k|k<;>rw[k]<;>decide)
  rw[kD (show¬p.kind=9 by omega)]at d9;rw[hc,hi,kA (by omega),List.append_nil]at hr;refine⟨h,Ext.refl h,fun β kn=>?_⟩;simp only[nF,xH,xG,aAs,aDz,aKl,aWj,bEy,bEx,WzO.S,WzO.n0,l0,zQ,d1,d2,d3,d8,d10,d9,d12,d13,d14,hr];by_cases c12:p.kind=12
  ·rw[kC c12];rfl
  ·rw[kD c12];by_cases c13:p.kind=13
   ·rw[kC c13];rfl
   ·rw[kD c13,kC (show p.kind=14 by omega)];rfl
 ·rw[kD (show¬p.kind=12 by omega)]at d12;rw[kD (show¬p.kind=13 by omega)]at d13;rw[kD (show¬p.kind=14 by omega)]at d14;have k:p.kind=4∨p.kind=5∨p.kind=6∨p.kind=7∨p.kind=9∨p.kind=11:=by omega
  have hi:=r.ids (by omega) (by rcases k with k|k|k|k|k|k<;>rw[k]<;>decide)
  obtain⟨h1,e1,x1⟩:=U66 kd (h:=h) (n:=n) (by omega) bd.id;obtain⟨_,_,_,_,_,_,_,_,_,m23⟩:=(b.ext x1).lds;have bc:=bd.codes;have ct:A.zA prog .add 9 (str (bD p.id)) (str p.codes)=_:=nG (by show 2+_≤_;omega);rw[kB (by omega)]at hr;refine⟨h1,x1,fun β kn=>?_⟩;by_cases k9:p.kind=9
  ·rw[kC k9]at d9;simp only[nF,xH,xG,aAs,aDz,aKl,aWj,bYt,WzO.S,WzO.n0,l0,zQ,d1,d2,d3,d8,d10,d9,l4,e1,m23,l23,aNe,Bool.and_true,ct,hr]
  ·rw[kD k9]at d9;have k:p.kind=4∨p.kind=5∨p.kind=6∨p.kind=7∨p.kind=11:=by omega
   have hc:=r.c0 (by rcases k with k|k|k|k|k<;>rw[k]<;>decide)
   rw[hc,List.append_nil]at hr;simp only[nF,xH,xG,aAs,aDz,aKl,aWj,bEy,bEx,WzO.S,WzO.n0,l0,zQ,d1,d2,d3,d8,d10,d9,d12,d13,d14,l4,e1,hr]
end
theorem U42 {Q:Orc}(kd:KnB Q){h:H}{n:Nat}{p:Pq}{w:Value}{es:List Sb}(hn:1002001≤n)(bd:Bd p es)(r:RF p es)(sl:SliceE 2 h w (es.map sbC)):
 ∃h',aA prog 2 Q n 42 [.agg ⟨p.cells w⟩] h=some (str (bX p es),h')∧Ext h h':=by
 obtain⟨n,rfl⟩:∃m,n=m+1:=⟨n-1,by omega⟩;rw[bWc Q n _ h (kd.fr 42 _ (by decide))];obtain⟨h0,e0,b0,x0,_⟩:=cB p sl.cells h;have k:=r.kind;obtain⟨h1,x1,e1⟩:∃h',Ext h0 h'∧∀(β:Type) (kn:K1 β),nF (aA prog 2 Q n) n h0 (aB h.next) (str []) kn=kn (str (bX p es)) h':=by
  by_cases k1:p.kind=1
  ·exact bTo kd (by omega) bd b0 r k1
  by_cases k2:p.kind=2
  ·exact bTn kd (by omega) bd b0 r k2
  by_cases k3:p.kind=3
  ·exact bTm kd (by omega) bd b0 r k3
  by_cases k8:p.kind=8∨p.kind=10
  ·exact bTl kd (by omega) bd b0 r (sl.ext x0) k8
  ·exact bTp kd (by omega) bd b0 r (by omega)
 refine⟨h1,?_,x0.trans x1⟩;simp only[F42,bAf,bYu,e0,WzO.S,e1,bYr]
end Go.Proofs.YtohapjojkjjflaaGreatDoor.Wz

set_option maxRecDepth 100000
namespace Go.Proofs.YtohapjojkjjflaaGreatDoor.Wz
open Tryz (prog)
open Go Go.AM WzA WzB WzD
open Go.AM.Pk (K0 K1 K2 K3 K4 K5 K6)
theorem jT:aZ (fun _=>true)=aM:=funext pU
structure GS (B h:H)(r u v:Nat)(l:List UInt8)(q:Pq)(w:Value):Prop where
 x:Ext B h
 cu:CU h r l
 bq:BQ h u q w
 z:h.get v=some (.cells WzB.Z38L (some 0))∧v<h.next
 hr:B.next≤r
 hu:B.next≤u
 hv:B.next≤v
 ru:r≠u
 vr:v≠r
 vu:v≠u
 le:l.length≤1000300
theorem GS.atr {B h h':H}{r u v:Nat}{l l':List UInt8}{q:Pq}{w:Value}(g:GS B h r u v l q w)(x:ExtBut (fun j=>j=r) h h')(c:CU h' r l')(hl:l'.length≤l.length):GS B h' r u v l' q w:=
 ⟨aT g.x x g.hr,c,g.bq.but x (fun e=>g.ru e.symm),⟨by rw[x.get v g.z.2 g.vr];exact g.z.1,kH g.z.2 x.next⟩,g.hr,g.hu,g.hv,g.ru,g.vr,g.vu,kG hl g.le⟩
theorem GS.atu {B h h':H}{r u v:Nat}{l:List UInt8}{q q':Pq}{w w':Value}(g:GS B h r u v l q w)(x:ExtBut (fun j=>j=u) h h')(c:BQ h' u q' w'):GS B h' r u v l q' w':=
 ⟨aT g.x x g.hu,g.cu.but x g.ru,c,⟨by rw[x.get v g.z.2 g.vu];exact g.z.1,kH g.z.2 x.next⟩,g.hr,g.hu,g.hv,g.ru,g.vr,g.vu,g.le⟩
theorem GS.put {B h:H}{r u v:Nat}{l:List UInt8}{q q':Pq}{w w' y:Value}{i:Nat}(g:GS B h r u v l q w)(hi:i<24)(hv:aJ y=some [y])(hp:q'.cells w'=(q.cells w).set i y):∃h',A.store 1 (.pointer (some ⟨u,i,none⟩)) y h=some h'∧GS B h' r u v l q' w':=by
 obtain⟨h',e,b,x⟩:=g.bq.set (q':=q') (w':=w') hi hv hp;exact⟨h',e,g.atu x b⟩
section
variable {Q:Orc}(kd:KnB Q){B h:H}{r u v n:Nat}{l:List UInt8}{q:Pq}{w:Value}(hn:100≤n)(g:GS B h r u v l q w)
include kd hn g
theorem GS.word:∃h',aA prog 2 Q n 55 [aB r] h=some (.int .i64 ((aX l).1:Int),h')∧GS B h' r u v (aX l).2.1 q w:=by
 obtain⟨n,rfl⟩:∃m,n=m+2:=⟨n-2,by omega⟩;obtain⟨h',e,c,x⟩:=U55 kd n g.cu;exact⟨h',e,g.atr x c (bZ l).1⟩
theorem GS.one:∃h',aA prog 2 Q n 54 [aB r] h=some (.int .i64 ((bR l).1:Int),h')∧GS B h' r u v (bR l).2.1 q w:=by
 obtain⟨n,rfl⟩:∃m,n=m+1:=⟨n-1,by omega⟩;obtain⟨h',e,c,x⟩:=U54 kd n g.cu;exact⟨h',e,g.atr x c (fJ l)⟩
theorem GS.data:∃h',aA prog 2 Q n 53 [aB r] h=some (str (aM l).1,h')∧GS B h' r u v (aM l).2.1 q w:=by
 obtain⟨n,rfl⟩:∃m,n=m+3:=⟨n-3,by omega⟩;obtain⟨h',e,c,x⟩:=U53 kd n (kG g.le (by omega)) g.cu;exact⟨h',e,g.atr x c (fV l).1⟩
end
theorem bAr {n:Nat}(h:n<256):A.conv prog 3 5 (.int .i64 (n:Int))=some (.int .u8 (n:Int)):=by rw[aJk,Nat.mod_eq_of_lt h]
theorem uV {x m c:Nat}(hx:x<256)(hm:0<m)(hc:0<c):A.zA prog .quo 3 (.int .i64 (x:Int)) (.int .i64 (m:Int))=some (.int .i64 ((x / m:Nat):Int))∧A.zA prog .rem 3 (.int .i64 ((x / m:Nat):Int)) (.int .i64 (c:Int))=some (.int .i64 ((x / m%c:Nat):Int)):=⟨bXj (by omega) hm,bDc hc⟩
section
variable {Q:Orc}(kd:KnB Q){B h:H}{r u v n:Nat}{l:List UInt8}(hn:100≤n)
include kd hn
theorem cJh {q:Pq}{w:Value}(g:GS B h r u v l q w):∃h' bad,(∀(β:Type) (kn:K3 β),aWk (aA prog 2 Q n) h (aB v) (aB r) (aB u) kn=kn (aB r) (aB u) (aB v) h')∧GS B h' r u v (bH (fun _=>true) (l,false,q)).1 (bH (fun _=>true) (l,false,q)).2.2 w∧bad=(bH (fun _=>true) (l,false,q)).2.1:=by
 obtain⟨_,⟨_,_,_,l11,_⟩,_⟩:=g.bq.lds
 cases hw:q.will with
 |false=>
  rw[hw]at l11;have e:bH (fun _=>true) (l,false,q)=(l,false,q):=by unfold bH;simp only[hw,pB,if_false]
  rw[e];refine⟨h,false,fun β kn=>?_,g,rfl⟩;simp only[aWk,WzO.S,WzO.n0,l11]
 |true=>
  rw[hw]at l11;obtain⟨h1,e1,g1⟩:=g.data kd hn;obtain⟨h2,e2,g2⟩:=g1.put (i:=12) (y:=str (aM l).1) (q':={q with wt:=(aM l).1}) (w':=w) (by omega) rfl rfl;obtain⟨h3,e3,g3⟩:=g2.data kd hn;obtain⟨h4,e4,g4⟩:=g3.put (i:=13) (y:=str (aM (aM l).2.1).1) (q':={q with wt:=(aM l).1,wp:=(aM (aM l).2.1).1}) (w':=w) (by omega) rfl rfl;have e:bH (fun _=>true) (l,false,q)=((aM (aM l).2.1).2.1,(false||(aM l).2.2||(aM (aM l).2.1).2.2),{q with wt:=(aM l).1,wp:=(aM (aM l).2.1).1}):=by unfold bH;simp only[hw,if_true,jT]
  rw[e];refine⟨h4,_,fun β kn=>?_,g4,rfl⟩;simp only[aWk,WzO.S,WzO.n0,Nat.reduceAdd,l11,e1,e2,e3,e4]
theorem cJi {q:Pq}{w:Value}(g:GS B h r u v l q w):∃h',(∀(β:Type) (kn:K2 β),aKm (aA prog 2 Q n) h (aB v) (aB r) (aB u) kn=kn (aB u) (aB v) h')∧GS B h' r u v (bU (bY (fun _=>true) (l,false,q))).1 (bU (bY (fun _=>true) (l,false,q))).2.2 w:=by
 obtain⟨_,_,l16,l17,_⟩:=g.bq.lds
 cases hu:q.hu with
 |false=>
  rw[hu]at l16;have e:bY (fun _=>true) (l,false,q)=(l,false,q):=by unfold bY;simp only[hu,pB,if_false]
  rw[e]
  cases hp:q.hp with
  |false=>
   rw[hp]at l17;have e:bU (l,false,q)=(l,false,q):=by unfold bU;simp only[hp,pB,if_false]
   rw[e];refine⟨h,fun β kn=>?_,g⟩;simp only[aKm,WzO.S,WzO.n0,l16,l17]
  |true=>
   rw[hp]at l17;obtain⟨h1,e1,g1⟩:=g.data kd hn;obtain⟨h2,e2,g2⟩:=g1.put (i:=19) (y:=str (aM l).1) (q':={q with pass:=(aM l).1}) (w':=w) (by omega) rfl rfl;have e:bU (l,false,q)=((aM l).2.1,(false||(aM l).2.2),{q with pass:=(aM l).1}):=by unfold bU;simp only[hp,if_true]
   rw[e];refine⟨h2,fun β kn=>?_,g2⟩;simp only[aKm,WzO.S,WzO.n0,l16,l17,e1,e2]
 |true=>
  rw[hu]at l16;obtain⟨h1,e1,g1⟩:=g.data kd hn;obtain⟨h2,e2,g2⟩:=g1.put (i:=18) (y:=str (aM l).1) (q':={q with user:=(aM l).1}) (w':=w) (by omega) rfl rfl;obtain⟨_,_,_,m17,_⟩:=g2.bq.lds;have e:bY (fun _=>true) (l,false,q)=((aM l).2.1,(false||(aM l).2.2),{q with user:=(aM l).1}):=by unfold bY;simp only[hu,if_true,jT]
  rw[e];obtain⟨q',hq'⟩:∃q':Pq,q'={q with user:=(aM l).1}:=⟨_,rfl⟩;rw[←hq']at g2 m17⊢
  cases hp:q'.hp with
  |false=>
   rw[hp]at m17;have e:∀bad,bU ((aM l).2.1,bad,q')=((aM l).2.1,bad,q'):=fun bad=>by unfold bU;simp only[hp,pB,if_false]
   rw[e];refine⟨h2,fun β kn=>?_,g2⟩;simp only[aKm,WzO.S,WzO.n0,l16,m17,e1,e2]
  |true=>
   rw[hp]at m17;obtain⟨h3,e3,g3⟩:=g2.data kd hn;obtain⟨h4,e4,g4⟩:=g3.put (i:=19) (y:=str (aM (aM l).2.1).1) (q':={q' with pass:=(aM (aM l).2.1).1}) (w':=w) (by omega) rfl rfl;have e:∀bad,bU ((aM l).2.1,bad,q')=((aM (aM l).2.1).2.1,bad||(aM (aM l).2.1).2.2,{q' with pass:=(aM (aM l).2.1).1}):=fun bad=>by unfold bU;simp only[hp,if_true]
   rw[e];refine⟨h4,fun β kn=>?_,g4⟩;simp only[aKm,WzO.S,WzO.n0,l16,m17,e1,e2,e3,e4]
theorem aCo (s:CS)(b:Bool):(bU (bY (fun _=>true) s)).2.2=(bU (bY (fun _=>true) (s.1,b,s.2.2))).2.2∧(bH (fun _=>true) s).1=(bH (fun _=>true) (s.1,b,s.2.2)).1∧(bH (fun _=>true) s).2.2=(bH (fun _=>true) (s.1,b,s.2.2)).2.2:=by
 have _:=kd;have _:=hn;obtain⟨l,b0,q⟩:=s;refine⟨?_,?_,?_⟩
 ·unfold bU bY;cases h1:q.hu<;>simp only[h1,pB,if_false,if_true]<;>cases h2:q.hp<;>simp[h2]
 ·unfold bH;cases h1:q.will<;>simp[h1]
 ·unfold bH;cases h1:q.will<;>simp[h1]
theorem bTs (g:GS B h r u v l (zq 1) aF):∃h' l',(∀(β:Type) (kn:K2 β),aSr (aA prog 2 Q n) h (aB v) (aB r) (aB u) kn=kn (aB u) (aB v) h')∧GS B h' r u v l' (eW (fun _=>true) (l,false,zq 1)).2.2 aF:=by
 obtain⟨h1,e1,g1⟩:=g.data kd hn;obtain⟨h2,e2,g2⟩:=g1.one kd hn;obtain⟨a,ha⟩:∃a,a=aM l:=⟨_,rfl⟩;rw[←ha]at e2 g2;obtain⟨b,hb⟩:∃b,b=bR a.2.1:=⟨_,rfl⟩;have hb1:=eM a.2.1;rw[←hb]at e2 g2 hb1;obtain⟨h3,e3,g3⟩:=g2.put (i:=7) (y:=.int .u8 (b.1:Int)) (q':={zq 1 with level:=b.1}) (w':=aF) (by omega) rfl rfl;obtain⟨h4,e4,g4⟩:=g3.one kd hn;obtain⟨c,hc⟩:∃c,c=bR b.2.1:=⟨_,rfl⟩;have hc1:=eM b.2.1;rw[←hc]at e4 g4 hc1;obtain⟨h5,e5,g5⟩:=g4.word kd hn;obtain⟨d,hd⟩:∃d,d=aX c.2.1:=⟨_,rfl⟩;have hd1:=(bZ c.2.1).2;rw[←hd]at e5 g5 hd1;obtain⟨h6,e6,g6⟩:=g5.put (i:=9) (y:=.int .u16 (d.1:Int)) (q':={zq 1 with level:=b.1,keep:=d.1}) (w':=aF) (by omega) rfl rfl;obtain⟨h7,e7,g7⟩:=g6.data kd hn;obtain⟨e,he⟩:∃e,e=aM d.2.1:=⟨_,rfl⟩;rw[←he]at e7 g7;obtain⟨h8,e8,g8⟩:=g7.put (i:=10) (y:=str e.1) (q':={zq 1 with level:=b.1,keep:=d.1,client:=e.1}) (w':=aF) (by omega) rfl rfl;obtain⟨h9,e9,g9⟩:=g8.put (i:=8) (y:=.bool (aO 2 c.1)) (q':={zq 1 with level:=b.1,keep:=d.1,client:=e.1,clean:=aO 2 c.1}) (w':=aF) (by omega) rfl rfl;obtain⟨h10,e10,g10⟩:=g9.put (i:=11) (y:=.bool (aO 4 c.1)) (q':={zq 1 with level:=b.1,keep:=d.1,client:=e.1,clean:=aO 2 c.1,will:=aO 4 c.1}) (w':=aF) (by omega) rfl rfl;obtain⟨h11,e11,g11⟩:=g10.put (i:=14) (y:=.int .u8 ((c.1 / 8%4:Nat):Int)) (q':={zq 1 with level:=b.1,keep:=d.1,client:=e.1,clean:=aO 2 c.1,will:=aO 4 c.1,wq:=c.1 / 8%4}) (w':=aF) (by omega) rfl rfl
 obtain⟨h12,e12,g12⟩:=g11.put (i:=15) (y:=.bool (aO 32 c.1)) (q':={zq 1 with level:=b.1,keep:=d.1,client:=e.1,clean:=aO 2 c.1,will:=aO 4 c.1,wq:=c.1 / 8%4,wr:=aO 32 c.1}) (w':=aF) (by omega) rfl rfl;obtain⟨h13,e13,g13⟩:=g12.put (i:=17) (y:=.bool (aO 64 c.1)) (q':={zq 1 with level:=b.1,keep:=d.1,client:=e.1,clean:=aO 2 c.1,will:=aO 4 c.1,wq:=c.1 / 8%4,wr:=aO 32 c.1,hp:=aO 64 c.1}) (w':=aF) (by omega) rfl rfl;obtain⟨h14,e14,g14⟩:=g13.put (i:=16) (y:=.bool (aO 128 c.1)) (q':={zq 1 with level:=b.1,keep:=d.1,client:=e.1,clean:=aO 2 c.1,will:=aO 4 c.1,wq:=c.1 / 8%4,wr:=aO 32 c.1,hp:=aO 64 c.1,hu:=aO 128 c.1}) (w':=aF) (by omega) rfl rfl;obtain⟨q,hq⟩:∃q:Pq,q={zq 1 with level:=b.1,keep:=d.1,client:=e.1,clean:=aO 2 c.1,will:=aO 4 c.1,wq:=c.1 / 8%4,wr:=aO 32 c.1,hp:=aO 64 c.1,hu:=aO 128 c.1}:=⟨_,rfl⟩;rw[←hq]at g14;obtain⟨h15,_,e15,g15,_⟩:=cJh kd hn g14;obtain⟨h16,e16,g16⟩:=cJi kd hn g15;have hs:(bU (bY (fun _=>true) ((bH (fun _=>true) (e.2.1,false,q)).1,false,(bH (fun _=>true) (e.2.1,false,q)).2.2))).2.2=(eW (fun _=>true) (l,false,zq 1)).2.2:=by
  obtain⟨bad,hbd⟩:∃bad,bT (fun _=>true) (cW (fun _=>true) (l,false,zq 1))=(e.2.1,bad,q):=⟨_,by
   simp only[bT,cW,jT];rw[←ha,←hb,←hc,←hd,←he,hq]⟩
  unfold eW;rw[hbd];have h1:=aCo kd hn (e.2.1,bad,q) false;have h2:=aCo kd hn (bH (fun _=>true) (e.2.1,bad,q)) false;rw[h2.1,h1.2.1,h1.2.2]
 rw[hs]at g16;refine⟨h16,_,fun β kn=>?_,g16⟩;obtain⟨q2,r2⟩:=uV (m:=2) (c:=2) hc1 (by omega) (by omega);obtain⟨q4,r4⟩:=uV (m:=4) (c:=2) hc1 (by omega) (by omega);obtain⟨q8,r8⟩:=uV (m:=8) (c:=4) hc1 (by omega) (by omega);obtain⟨q32,r32⟩:=uV (m:=32) (c:=2) hc1 (by omega) (by omega);obtain⟨q64,r64⟩:=uV (m:=64) (c:=2) hc1 (by omega) (by omega);obtain⟨q128,_⟩:=uV (m:=128) (c:=2) hc1 (by omega) (by omega);have b2:decide (((c.1 / 2%2:Nat):Int)=1)=aO 2 c.1:=deN _ 1;have b4:decide (((c.1 / 4%2:Nat):Int)=1)=aO 4 c.1:=deN _ 1;have b32:decide (((c.1 / 32%2:Nat):Int)=1)=aO 32 c.1:=deN _ 1;have b64:decide (((c.1 / 64%2:Nat):Int)=1)=aO 64 c.1:=deN _ 1;have b128:decide (((c.1 / 128:Nat):Int)=1)=aO 128 c.1:=(deN _ 1).trans (decide_eq_decide.2 (by omega));have q2:A.zA prog .quo 3 (.int .i64 (c.1:Int)) (.int .i64 2)=_:=q2;have q4:A.zA prog .quo 3 (.int .i64 (c.1:Int)) (.int .i64 4)=_:=q4;have q8:A.zA prog .quo 3 (.int .i64 (c.1:Int)) (.int .i64 8)=_:=q8;have q32:A.zA prog .quo 3 (.int .i64 (c.1:Int)) (.int .i64 32)=_:=q32;have q64:A.zA prog .quo 3 (.int .i64 (c.1:Int)) (.int .i64 64)=_:=q64;have q128:A.zA prog .quo 3 (.int .i64 (c.1:Int)) (.int .i64 128)=_:=q128;have r2:A.zA prog .rem 3 (.int .i64 ((c.1 / 2:Nat):Int)) (.int .i64 2)=_:=r2;have r4:A.zA prog .rem 3 (.int .i64 ((c.1 / 4:Nat):Int)) (.int .i64 2)=_:=r4;have r8:A.zA prog .rem 3 (.int .i64 ((c.1 / 8:Nat):Int)) (.int .i64 4)=_:=r8
 have r32:A.zA prog .rem 3 (.int .i64 ((c.1 / 32:Nat):Int)) (.int .i64 2)=_:=r32;have r64:A.zA prog .rem 3 (.int .i64 ((c.1 / 64:Nat):Int)) (.int .i64 2)=_:=r64;have cw:=bAr (n:=c.1 / 8%4) (by omega);simp only[aSr,bZc,bZb,WzO.S,WzO.n0,Nat.reduceAdd,zQ,e1,e2,bAr hb1,e3,e4,e5,iU hd1,e6,e7,e8,q2,r2,b2,e9,q4,r4,b4,e10,q8,r8,cw,e11,q32,r32,b32,e12,q64,r64,b64,e13,q128,b128,e14,e15,e16]
theorem bTr (g:GS B h r u v l (zq 2) aF):∃h' l',(∀(β:Type) (kn:K2 β),bFf (aA prog 2 Q n) h (aB v) (aB r) (aB u) kn=kn (aB u) (aB v) h')∧GS B h' r u v l' (wA (l,false,zq 2)).2.2 aF:=by
 obtain⟨h1,e1,g1⟩:=g.one kd hn;have hd:decide (((bR l).1:Int)=1)=decide ((bR l).1=1):=deN _ 1;obtain⟨h2,e2,g2⟩:=g1.put (i:=20) (y:=.bool (decide ((bR l).1=1))) (q':={zq 2 with present:=decide ((bR l).1=1)}) (w':=aF) (by omega) rfl rfl;obtain⟨h3,e3,g3⟩:=g2.one kd hn;have hb:=eM (bR l).2.1;obtain⟨h4,e4,g4⟩:=g3.put (i:=21) (y:=.int .u8 ((bR (bR l).2.1).1:Int)) (q':={zq 2 with present:=decide ((bR l).1=1),code:=(bR (bR l).2.1).1}) (w':=aF) (by omega) rfl rfl;refine⟨h4,_,fun β kn=>?_,g4⟩;simp only[bFf,WzO.S,WzO.n0,zQ,e1,hd,e2,e3,bAr hb,e4]
theorem bTq {c:Nat}(hc:c<256)(g:GS B h r u v l (zq 3) aF):∃h' l',(∀(β:Type) (kn:K2 β),aWl (aA prog 2 Q n) h (.int .u8 (c:Int)) (aB v) (aB r) (aB u) kn=kn (aB u) (aB v) h')∧GS B h' r u v l' (jR (fun _=>true) (c%16) (l,false,zq 3)).2.2 aF:=by
 have qr:∀m k:Nat,0<m→0<k→m<256→k<256→A.zA prog .quo 5 (.int .u8 (c:Int)) (.int .u8 (m:Int))=some (.int .u8 ((c / m:Nat):Int))∧A.zA prog .rem 5 (.int .u8 ((c / m:Nat):Int)) (.int .u8 (k:Int))=some (.int .u8 ((c / m%k:Nat):Int)):=by
  intro m k hm hk _ _;have e:(c:Int).tdiv (m:Int)=((c / m:Nat):Int):=by rw[Int.tdiv_eq_ediv_of_nonneg (by omega)];rfl
  have hle:c / m≤c:=Nat.div_le_self c m;obtain⟨z,hz⟩:∃z,z=c / m:=⟨_,rfl⟩;rw[←hz]at e hle⊢;refine⟨?_,?_⟩
  ·rw[uM prog 5 .u8 _ _ (by omega),e];have:IntKind.u8.wrap (z:Int)=(z:Int)%256:=rfl;rw[this,Int.emod_eq_of_lt (by omega) (by omega)]
  ·rw[rD prog 5 .u8 _ _ (by omega),Int.tmod_eq_emod_of_nonneg (by omega)];rfl
 obtain⟨q8,r8⟩:=qr 8 2 (by omega) (by omega) (by omega) (by omega);obtain⟨q2,r2⟩:=qr 2 4 (by omega) (by omega) (by omega) (by omega);have r1:A.zA prog .rem 5 (.int .u8 (c:Int)) (.int .u8 2)=some (.int .u8 ((c%2:Nat):Int)):=by
  rw[rD prog 5 .u8 _ _ (by omega),Int.tmod_eq_emod_of_nonneg (by omega)];rfl
 have q8:A.zA prog .quo 5 (.int .u8 (c:Int)) (.int .u8 8)=_:=q8;have r8:A.zA prog .rem 5 (.int .u8 ((c / 8:Nat):Int)) (.int .u8 2)=_:=r8;have q2:A.zA prog .quo 5 (.int .u8 (c:Int)) (.int .u8 2)=_:=q2;have r2:A.zA prog .rem 5 (.int .u8 ((c / 2:Nat):Int)) (.int .u8 4)=_:=r2;have b8:decide (((c / 8%2:Nat):Int)=1)=aO 8 (c%16):=(deN _ 1).trans (decide_eq_decide.2 (by omega));have b1:decide (((c%2:Nat):Int)=1)=aO 1 (c%16):=(deN _ 1).trans (decide_eq_decide.2 (by omega));have bq:c / 2%4=c%16 / 2%4:=by omega
 rw[bq]at r2;obtain⟨f,hf⟩:∃f,f=c%16:=⟨_,rfl⟩;rw[←hf]at r2 b8 b1⊢;obtain⟨h1,e1,g1⟩:=g.put (i:=1) (y:=.bool (aO 8 f)) (q':={zq 3 with dup:=aO 8 f}) (w':=aF) (by omega) rfl rfl;obtain⟨h2,e2,g2⟩:=g1.put (i:=2) (y:=.int .u8 ((f / 2%4:Nat):Int)) (q':={zq 3 with dup:=aO 8 f,qos:=f / 2%4}) (w':=aF) (by omega) rfl rfl;obtain⟨h3,e3,g3⟩:=g2.put (i:=3) (y:=.bool (aO 1 f)) (q':={zq 3 with dup:=aO 8 f,qos:=f / 2%4,retain:=aO 1 f}) (w':=aF) (by omega) rfl rfl;obtain⟨h4,e4,g4⟩:=g3.data kd hn;obtain⟨a,ha⟩:∃a,a=aM l:=⟨_,rfl⟩;rw[←ha]at e4 g4;obtain⟨h5,e5,g5⟩:=g4.put (i:=5) (y:=str a.1) (q':={zq 3 with dup:=aO 8 f,qos:=f / 2%4,retain:=aO 1 f,topic:=a.1}) (w':=aF) (by omega) rfl rfl;obtain⟨⟨_,_,l2,_⟩,_⟩:=g5.bq.lds;have l2:A.load false 1 (.pointer (some ⟨u,2,none⟩)) h5=some (.int .u8 ((f / 2%4:Nat):Int)):=l2;have dq:decide ((0:Int)<((f / 2%4:Nat):Int))=decide (0<f / 2%4):=dlN 0 _;by_cases c1:0<f / 2%4
 ·rw[kC c1]at dq;obtain⟨h6,e6,g6⟩:=g5.word kd hn;obtain⟨b,hb⟩:∃b,b=aX a.2.1:=⟨_,rfl⟩;have hb1:=(bZ a.2.1).2;rw[←hb]at e6 g6 hb1;obtain⟨h7,e7,g7⟩:=g6.put (i:=4) (y:=.int .u16 (b.1:Int)) (q':={zq 3 with dup:=aO 8 f,qos:=f / 2%4,retain:=aO 1 f,topic:=a.1,id:=b.1}) (w':=aF) (by omega) rfl rfl;have ld:=g7.cu.ld;obtain⟨h8,e8,g8⟩:=g7.put (i:=6) (y:=str b.2.1) (q':={zq 3 with dup:=aO 8 f,qos:=f / 2%4,retain:=aO 1 f,topic:=a.1,id:=b.1,payload:=b.2.1}) (w':=aF) (by omega) rfl rfl;have hp:(jR (fun _=>true) f (l,false,zq 3)).2.2={zq 3 with dup:=aO 8 f,qos:=f / 2%4,retain:=aO 1 f,topic:=a.1,id:=b.1,payload:=b.2.1}:=by
   unfold jR;simp only[jT,kB c1];rw[←ha,←hb]
  rw[hp];refine⟨h8,_,fun β kn=>?_,g8⟩;simp only[aWl,WzO.S,WzO.n0,zQ,q8,r8,b8,e1,q2,r2,e2,r1,b1,e3,e4,e5,l2,zY,dq,e6,iU hb1,e7,ld,e8]
 ·rw[kD c1]at dq;have ld:=g5.cu.ld;obtain⟨h8,e8,g8⟩:=g5.put (i:=6) (y:=str a.2.1) (q':={zq 3 with dup:=aO 8 f,qos:=f / 2%4,retain:=aO 1 f,topic:=a.1,payload:=a.2.1}) (w':=aF) (by omega) rfl rfl;have hp:(jR (fun _=>true) f (l,false,zq 3)).2.2={zq 3 with dup:=aO 8 f,qos:=f / 2%4,retain:=aO 1 f,topic:=a.1,payload:=a.2.1}:=by
   unfold jR;simp only[jT,kA c1];rw[←ha]
  rw[hp];refine⟨h8,_,fun β kn=>?_,g8⟩;simp only[aWl,WzO.S,WzO.n0,zQ,q8,r8,b8,e1,q2,r2,e2,r1,b1,e3,e4,e5,l2,zY,dq,ld,e8]
end
end Go.Proofs.YtohapjojkjjflaaGreatDoor.Wz

set_option maxRecDepth 100000
namespace Go.Proofs.YtohapjojkjjflaaGreatDoor.Wz
open Tryz (prog)
open Go Go.AM WzA WzB WzD
open Go.AM.Pk (K0 K1 K2 K3 K4 K5 K6)
def Off (B:H)(r u v:Nat)(w:Value):Prop:=∀i,sid w=some i→B.next≤i∧i≠r∧i≠u∧i≠v
theorem GS.mv {S:Nat→Prop}{B h h':H}{r u v:Nat}{l:List UInt8}{q:Pq}{w:Value}(g:GS B h r u v l q w)(x:ExtBut S h h')(s:∀i,S i→B.next≤i∧i≠r∧i≠u∧i≠v):GS B h' r u v l q w:=by
 have hr:¬S r:=fun e=>(s r e).2.1 rfl;have hu:¬S u:=fun e=>(s u e).2.2.1 rfl;have hv:¬S v:=fun e=>(s v e).2.2.2 rfl;exact⟨⟨kG g.x.next x.next,fun i hi=>by rw[x.get i (kH hi g.x.next) (fun e=>by have:=(s i e).1;omega)];exact g.x.get i hi⟩,
  g.cu.but x hr,g.bq.but x hu,⟨by rw[x.get v g.z.2 hv];exact g.z.1,kH g.z.2 x.next⟩,g.hr,g.hu,g.hv,g.ru,g.vr,g.vu,g.le⟩
theorem cFa {B h:H}{r u v tb:Nat}{l:List UInt8}{q:Pq}{w:Value}{es:List Sb}{s:Sb}(g:GS B h r u v l q w)(vv:Vec 2 h w (es.map sbC))(gt:h.get tb=some (.cells (sbC s) (some 0)))(sw:Off B r u v w)(hl:es.length≤1001000):
 ∃h1 h2 h3 w1 w2,A.load true 2 (aB tb) h=some (.agg ⟨sbC s⟩)∧A.load false 1 (.pointer (some ⟨u,22,none⟩)) h=some w∧A.zD 2 1 WzB.Z56L [(0,2,.agg ⟨sbC s⟩)] h=some (w1,h1)∧A.zK 2 24 w w1 h1=some (w2,h2)∧A.store 1 (.pointer (some ⟨u,22,none⟩)) w2 h2=some h3∧
  GS B h3 r u v l q w2∧Vec 2 h3 w2 ((es++[s]).map sbC)∧Off B r u v w2:=by
 have l2:A.load true 2 (aB tb) h=some (.agg ⟨sbC s⟩):=by rw[bJ,gt];rfl
 have lw:A.load false 1 (.pointer (some ⟨u,22,none⟩)) h=some w:=g.bq.ld (i:=22) rfl;obtain⟨h1,hh1⟩:∃h1,h1=h.push (.cells (sbC s) (some 2)):=⟨_,rfl⟩;have e1:A.zD 2 1 WzB.Z56L [(0,2,.agg ⟨sbC s⟩)] h=some (.slice (some ⟨h.next,0,none⟩) 1 3,h1):=by
  rw[hh1];exact cC h rfl rfl rfl
 have x1:Ext h h1:=by rw[hh1];exact Ext.push h _
 have n1:h1.next=h.next+1:=by rw[hh1];rfl
 have s1:SliceE 2 h1 (.slice (some ⟨h.next,0,none⟩) 1 3) [sbC s]:=by rw[hh1];exact fU rfl
 obtain⟨h2,e2,v2,n2,x2⟩:=eZ (bs:=24) (vv.ext x1) s1 (by simp) (by omega) (by rw[pA];simp;omega) (by rw[pA];simp;omega);have g1:GS B h1 r u v l q w:=g.mv (S:=fun _=>False) x1.but (fun i e=>e.elim);have g2:GS B h2 r u v l q w:=g1.mv x2 sw;obtain⟨w2,hw2⟩:∃w2,w2=Value.slice (some ⟨h1.next,0,none⟩) ((es.map sbC).length+[sbC s].length) (2*((es.map sbC).length+[sbC s].length)):=⟨_,rfl⟩;rw[←hw2]at e2 v2;obtain⟨h3,e3,b3,x3⟩:=g2.bq.set (i:=22) (v:=w2) (q':=q) (w':=w2) (by omega) (by rw[hw2];rfl) rfl;have g3:=g2.atu x3 b3;have hsid:sid w2=some (h.next+1):=by rw[hw2];show some h1.next=_;rw[n1]
 have a1:=g.cu.2;have a2:=g.bq.2;have a3:=g.z.2;have a4:=g.x.next;have off:Off B r u v w2:=fun i hi=>by
  rw[hsid]at hi;simp only[kE]at hi;omega
 refine⟨h1,h2,h3,_,w2,l2,lw,e1,e2,e3,g3,?_,off⟩;rw[List.map_append];exact v2.extBut x3 fun i hi e=>(off i hi).2.2.1 e
theorem lpR {Q:Orc}(kd:KnB Q){B:H}{r u v n:Nat}{q:Pq}(hn:100≤n)(L:Nat)(hk:q.kind=8∨q.kind=10):
 ∀(d m was:Nat) (h:H) (w:Value) (es:List Sb) (l:List UInt8),was≤d→d<m→es.length+d≤1000900→GS B h r u v l q w→Vec 2 h w (es.map sbC)→Off B r u v w→
  ∃h' w' l',(∀(β:Type) (kx:K2 β),xL (aA prog 2 Q n) L kx m (.int .i64 (was:Int)) (aB r) (aB u) (aB v) h=kx (aB u) (aB v) h')∧GS B h' r u v l' q w'∧Vec 2 h' w' ((es++gS q.kind d l was).map sbC)∧Off B r u v w':=by
 intro d;have k8:decide ((q.kind:Int)=8)=decide (q.kind=8):=deN _ 8;have k10:decide ((q.kind:Int)=10)=decide (q.kind=10):=deN _ 10;have ask:∀(h:H) (w:Value) (l:List UInt8) (was:Nat),GS B h r u v l q w→∀(β:Type) (kx:K2 β) (kn:K3 β),aEp h (aB v) (aB r) (aB u) (.int .i64 (was:Int)) kx kn=if l=[]∨was≤l.length then kx (aB u) (aB v) h else kn (aB r) (aB u) (aB v) h:=by
  intro h w l was g β kx kn;obtain⟨⟨l0,_⟩,_⟩:=g.bq.lds;have ld:=g.cu.ld;have d0:decide ((0:Int)<(l.length:Int))=decide (l≠[]):=decide_eq_decide.2 ⟨fun h e=>by rw[e]at h;simp at h,fun h=>by have:=List.length_pos_iff.2 h;omega⟩;have dw:decide ((l.length:Int)<(was:Int))=decide (l.length<was):=dlN _ _;have fin:(bif decide (l≠[])then bif decide (l.length<was)then kn (aB r) (aB u) (aB v) h else kx (aB u) (aB v) h else kx (aB u) (aB v) h)=if l=[]∨was≤l.length then kx (aB u) (aB v) h else kn (aB r) (aB u) (aB v) h:=by
   by_cases c1:l=[]
   ·rw[kD (not_not_intro c1),kB (Or.inl c1)];rfl
   ·rw[kC c1];by_cases c2:l.length<was
    ·rw[kC c2,kA (fun h=>h.elim c1 (fun h=>by omega))];rfl
    ·rw[kD c2,kB (Or.inr (by omega))];rfl
  rw[←fin];by_cases c8:q.kind=8
  ·rw[kC c8]at k8;simp only[aEp,aWo,aWn,WzO.S,WzO.n0,l0,ld,zQ,k8,qJ,zY,d0,zZ,dw]
  ·rw[kD c8]at k8;rw[kC (show q.kind=10 by omega)]at k10;simp only[aEp,aWo,aWn,WzO.S,WzO.n0,l0,ld,zQ,k8,k10,qJ,zY,d0,zZ,dw]
 induction d with
 |zero=>
  intro m was h w es l hw hm hle g vv sw;obtain⟨m,rfl⟩:∃r,m=r+1:=⟨m-1,by omega⟩;refine⟨h,w,l,fun β kx=>?_,g,by rw[show gS q.kind 0 l was=[]from rfl,List.append_nil];exact vv,sw⟩;simp only[xL,ask h w l was g,WzO.S];rw[kB (Or.inr (by omega))]
 |succ d ih=>
  intro m was h w es l hw hm hle g vv sw;obtain⟨m,rfl⟩:∃r,m=r+1:=⟨m-1,by omega⟩;by_cases hex:l=[]∨was≤l.length
  ·have hs:gS q.kind (d+1) l was=[]:=by unfold gS;rw[kB hex]
   rw[hs];refine⟨h,w,l,fun β kx=>?_,g,by rw[List.append_nil];exact vv,sw⟩;simp only[xL,ask h w l was g,WzO.S];rw[kB hex]
  ·have hs:gS q.kind (d+1) l was=((aM l).1,if q.kind=8 then(bR (aM l).2.1).1 else 0)::gS q.kind d (if q.kind=8 then(bR (aM l).2.1).2.1 else(aM l).2.1) l.length:=by
    conv=>lhs;unfold gS
    rw[kA hex]
   have hll:l.length≤d:=by
    have:¬was≤l.length:=fun h=>hex (Or.inr h);omega
   have ld:=g.cu.ld;obtain⟨h1,hc1,cu1,x1⟩:∃h1,aA prog 2 Q n 53 [aB r] h=some (str (aM l).1,h1)∧CU h1 r (aM l).2.1∧ExtBut (fun j=>j=r) h h1:=by
    obtain⟨n,rfl⟩:∃m,n=m+3:=⟨n-3,by omega⟩;exact U53 kd n (kG g.le (by omega)) g.cu
   have g1:=g.atr x1 cu1 (fV l).1;have v1:Vec 2 h1 w (es.map sbC):=vv.extBut x1 (fun i hi e=>(sw i hi).2.1 e);obtain⟨a,ha⟩:∃a,a=aM l:=⟨_,rfl⟩;rw[←ha]at hc1 g1 hs;have bd:A.zF WzB.Z56L [(0,1,str a.1)]=some (.agg ⟨sbC (a.1,0)⟩):=by kernel_rfl
   obtain⟨h2,hh2⟩:∃h2,h2=h1.push (.cells WzB.Z56L (some 0)):=⟨_,rfl⟩;have e2:A.zJ 2 WzB.Z56 h1=some (aB h1.next,h2):=by rw[hh2];rfl
   have x2:Ext h1 h2:=by rw[hh2];exact Ext.push h1 _
   have n2:h2.next=h1.next+1:=by rw[hh2];rfl
   obtain⟨h3,hh3⟩:∃h3,h3=h2.put h1.next (.cells (sbC (a.1,0)) (some 0)):=⟨_,rfl⟩;have gg2:h2.get h1.next=some (.cells WzB.Z56L (some 0)):=by rw[hh2,H.get_push,kB rfl]
   have hcl:aJ (.agg ⟨sbC (a.1,0)⟩)=some (sbC (a.1,0)):=rfl;have e3:A.store 2 (aB h1.next) (.agg ⟨sbC (a.1,0)⟩) h2=some h3:=by rw[qU,gg2,hcl,hh3];rfl
   have x3:Ext h1 h3:=by rw[hh3];exact x2.put _ _ (kF _)
   have n3:h3.next=h1.next+1:=by rw[hh3];exact n2
   have gg3:h3.get h1.next=some (.cells (sbC (a.1,0)) (some 0)):=by rw[hh3,H.get_put,kB rfl]
   have g3:GS B h3 r u v a.2.1 q w:=g1.mv (S:=fun _=>False) x3.but (fun i e=>e.elim);have v3:=v1.ext x3;obtain⟨⟨l0,_⟩,_⟩:=g3.bq.lds;by_cases c8:q.kind=8
   ·rw[kC c8]at k8;rw[kB c8,kB c8]at hs;obtain⟨h4,hc4,cu4,x4⟩:∃h4,aA prog 2 Q n 54 [aB r] h3=some (.int .i64 ((bR a.2.1).1:Int),h4)∧CU h4 r (bR a.2.1).2.1∧ExtBut (fun j=>j=r) h3 h4:=by
     obtain⟨n,rfl⟩:∃m,n=m+1:=⟨n-1,by omega⟩;exact U54 kd n g3.cu
    have g4:=g3.atr x4 cu4 (fJ _);have hb:=eM a.2.1;have r3:=g1.cu.2;have gg4:h4.get h1.next=some (.cells (sbC (a.1,0)) (some 0)):=by rw[x4.get _ (by omega) (by omega)];exact gg3
    obtain⟨h5,hh5⟩:∃h5,h5=h4.put h1.next (.cells (sbC (a.1,(bR a.2.1).1)) (some 0)):=⟨_,rfl⟩;have e5:A.store 1 (.pointer (some ⟨h1.next,1,none⟩)) (.int .u8 ((bR a.2.1).1:Int)) h4=some h5:=by rw[qU,gg4,hh5];rfl
    have x5:ExtBut (fun j=>j=h1.next) h4 h5:=by rw[hh5];exact ExtBut.put ⟨kF _,fun _ _ _=>rfl⟩ _ _ rfl
    have a1:=g1.bq.2;have a2:=g1.z.2;have a3:=g1.x.next;have g5:GS B h5 r u v (bR a.2.1).2.1 q w:=g4.mv x5 (fun i hi=>by omega);have v4:Vec 2 h4 w (es.map sbC):=v3.extBut x4 (fun i hi e=>(sw i hi).2.1 e);have hsl:=v1.slice.sid_lt;have v5:Vec 2 h5 w (es.map sbC):=v4.extBut x5 (fun i hi e=>by have:=hsl i hi;omega);obtain⟨h6,h7,h8,w1,w2,b1,b2,b3,b4,b5,g8,v8,off8⟩:=cFa g5 v5 (tb:=h1.next) (s:=(a.1,(bR a.2.1).1)) (by rw[hh5,H.get_put,kB rfl]) sw (by omega);obtain⟨h',w',l',f1,f2,f3,f4⟩:=ih m l.length h8 w2 (es++[(a.1,(bR a.2.1).1)]) (bR a.2.1).2.1 hll (by omega) (by simp;omega) g8 v8 off8;refine⟨h',w',l',fun β kx=>?_,f2,by rw[hs,show es++(a.1,(bR a.2.1).1)::gS q.kind d (bR a.2.1).2.1 l.length=es++[(a.1,(bR a.2.1).1)]++gS q.kind d (bR a.2.1).2.1 l.length by rw[pT];rfl];exact f3,f4⟩;simp only[xL,ask h w l was g,WzO.S];rw[kA hex];simp only[aWm,WzO.S,WzO.n0,Nat.reduceAdd,ld,qJ,hc1,bd,e2,e3,l0,zQ,k8,hc4,bAr hb,e5,b2,b1,b3,b4,b5,f1]
   ·rw[kD c8]at k8;rw[kA c8,kA c8]at hs;obtain⟨h6,h7,h8,w1,w2,b1,b2,b3,b4,b5,g8,v8,off8⟩:=cFa g3 v3 (tb:=h1.next) (s:=(a.1,0)) gg3 sw (by omega);obtain⟨h',w',l',f1,f2,f3,f4⟩:=ih m l.length h8 w2 (es++[(a.1,0)]) a.2.1 hll (by omega) (by simp;omega) g8 v8 off8;refine⟨h',w',l',fun β kx=>?_,f2,by rw[hs,show es++(a.1,0)::gS q.kind d a.2.1 l.length=es++[(a.1,0)]++gS q.kind d a.2.1 l.length by rw[pT];rfl];exact f3,f4⟩;simp only[xL,ask h w l was g,WzO.S];rw[kA hex];simp only[aWm,WzO.S,WzO.n0,Nat.reduceAdd,ld,qJ,hc1,bd,e2,e3,l0,zQ,k8,b2,b1,b3,b4,b5,f1]
theorem U39 {Q:Orc}(kd:KnB Q){h:H}{n c:Nat}(hn:1002000≤n)(hc:c<256){rest:List UInt8}(hl:rest.length≤1000300):
 ∃h' w',aA prog 2 Q n 39 [.int .u8 (c:Int),str rest] h=some (.agg ⟨(dQ c rest).1.cells w'⟩,h')∧SliceE 2 h' w' ((dQ c rest).2.map sbC)∧Ext h h'∧(∀i,sid w'=some i→h.next≤i):=by
 obtain⟨n,rfl⟩:∃m,n=m+1:=⟨n-1,by omega⟩;rw[bWf Q n _ _ h (kd.fr 39 _ (by decide))];obtain⟨h1,hh1⟩:∃h1,h1=h.push (.cells WzB.Z38L (some 0)):=⟨_,rfl⟩;have e1:A.zJ 24 WzB.Z38 h=some (aB h.next,h1):=by rw[hh1];rfl
 have x1:Ext h h1:=by rw[hh1];exact Ext.push h _
 have n1:h1.next=h.next+1:=by rw[hh1];rfl
 have g1:h1.get h.next=some (.cells WzB.Z38L (some 0)):=by rw[hh1,H.get_push,kB rfl]
 have b1:A.zF WzB.Z91L [(0,1,str rest)]=some (.agg ⟨[str rest]⟩):=by kernel_rfl
 obtain⟨h2,hh2⟩:∃h2,h2=h1.push (.cells [str rest] (some 0)):=⟨_,rfl⟩;have e2:A.zJ 1 (.agg ⟨[str rest]⟩) h1=some (aB h1.next,h2):=by rw[hh2];rfl
 have x2:Ext h1 h2:=by rw[hh2];exact Ext.push h1 _
 have n2:h2.next=h1.next+1:=by rw[hh2];rfl
 have g2:h2.get h1.next=some (.cells [str rest] (some 0)):=by rw[hh2,H.get_push,kB rfl]
 have hq:A.zA prog .quo 5 (.int .u8 (c:Int)) (.int .u8 16)=some (.int .u8 ((c / 16:Nat):Int)):=by
  rw[uM prog 5 .u8 _ _ (by omega)];have e:(c:Int).tdiv 16=((c / 16:Nat):Int):=by rw[Int.tdiv_eq_ediv_of_nonneg (by omega)];rfl
  rw[e];have:IntKind.u8.wrap ((c / 16:Nat):Int)=((c / 16:Nat):Int)%256:=rfl;rw[this,Int.emod_eq_of_lt (by omega) (by omega)]
 obtain⟨K,hK⟩:∃K,K=c / 16:=⟨_,rfl⟩;have hKl:K<16:=by omega
 rw[←hK]at hq;have b3:A.zF WzB.Z38L [(0,1,.int .u8 (K:Int))]=some (.agg ⟨(zq K).cells aF⟩):=by kernel_rfl
 obtain⟨h3,hh3⟩:∃h3,h3=h2.push (.cells WzB.Z38L (some 0)):=⟨_,rfl⟩;have e3:A.zJ 24 WzB.Z38 h2=some (aB h2.next,h3):=by rw[hh3];rfl
 have x3:Ext h2 h3:=by rw[hh3];exact Ext.push h2 _
 have n3:h3.next=h2.next+1:=by rw[hh3];rfl
 have g3:h3.get h2.next=some (.cells WzB.Z38L (some 0)):=by rw[hh3,H.get_push,kB rfl]
 obtain⟨h4,hh4⟩:∃h4,h4=h3.put h2.next (.cells ((zq K).cells aF) (some 0)):=⟨_,rfl⟩;have hcl:aJ (.agg ⟨(zq K).cells aF⟩)=some ((zq K).cells aF):=rfl;have e4:A.store 24 (aB h2.next) (.agg ⟨(zq K).cells aF⟩) h3=some h4:=by rw[qU,g3,hcl,hh4];rfl
 have x4:Ext h2 h4:=by rw[hh4];exact x3.put _ _ (kF _)
 have n4:h4.next=h3.next:=by rw[hh4];rfl
 have xh4:Ext h h4:=(x1.trans x2).trans x4;have G:GS h h4 h1.next h2.next h.next rest (zq K) aF:=by
  refine⟨xh4,⟨?_,by omega⟩,⟨by rw[hh4,H.get_put,kB rfl],by omega⟩,⟨?_,by omega⟩,by omega,by omega,kF _,by omega,by omega,by omega,hl⟩
  ·rw[x4.get _ (by omega)];exact g2
  ·rw[x4.get _ (by omega),x2.get _ (by omega)];exact g1
 have nl:Off h h1.next h2.next h.next aF:=fun i hi=>by cases hi
 obtain⟨h5,w',l',e5,G5,sl5,off5⟩:∃h5 w' l',(∀(β:Type) (kn:K2 β),aBj (aA prog 2 Q n) n h4 (.int .u8 (c:Int)) (aB h.next) (aB h1.next) (aB h2.next) kn=kn (aB h2.next) (aB h.next) h5)∧GS h h5 h1.next h2.next h.next l' (dQ c rest).1 w'∧SliceE 2 h5 w' ((dQ c rest).2.map sbC)∧Off h h1.next h2.next h.next w':=by
  obtain⟨⟨l0,_⟩,_⟩:=G.bq.lds;have l0:A.load false 1 (.pointer (some ⟨h2.next,0,none⟩)) h4=some (.int .u8 (K:Int)):=l0;have d1:decide ((K:Int)=1)=decide (K=1):=deN _ 1;have d2:decide ((K:Int)=2)=decide (K=2):=deN _ 2;have d3:decide ((K:Int)=3)=decide (K=3):=deN _ 3;by_cases k1:K=1
  ·rw[kC k1]at d1;have hg:dQ c rest=((eW (fun _=>true) (rest,false,zq 1)).2.2,[]):=by
    unfold dQ;rw[←hK,kA (by omega),k1];rfl
   obtain⟨h5,l',e,g'⟩:=bTs kd (n:=n) (by omega) (k1▸G);rw[hg];refine⟨h5,aF,l',fun β kn=>?_,g',(Vec.nil 2 h5).slice,nl⟩;simp only[aBj,aQx,aQw,WzO.S,WzO.n0,l0,zQ,d1,e]
  rw[kD k1]at d1;by_cases k2:K=2
  ·rw[kC k2]at d2;have hg:dQ c rest=((wA (rest,false,zq 2)).2.2,[]):=by
    unfold dQ;rw[←hK,kA (by omega),k2];rfl
   obtain⟨h5,l',e,g'⟩:=bTr kd (n:=n) (by omega) (k2▸G);rw[hg];refine⟨h5,aF,l',fun β kn=>?_,g',(Vec.nil 2 h5).slice,nl⟩;simp only[aBj,aQx,aQw,aWr,WzO.S,WzO.n0,l0,zQ,d1,d2,e]
  rw[kD k2]at d2;by_cases k3:K=3
  ·rw[kC k3]at d3;have hg:dQ c rest=((jR (fun _=>true) (c%16) (rest,false,zq 3)).2.2,[]):=by
    unfold dQ;rw[←hK,kA (by omega),k3];rfl
   obtain⟨h5,l',e,g'⟩:=bTq kd (n:=n) (by omega) hc (k3▸G);rw[hg];refine⟨h5,aF,l',fun β kn=>?_,g',(Vec.nil 2 h5).slice,nl⟩;simp only[aBj,aQx,aQw,aWr,bFg,WzO.S,WzO.n0,l0,zQ,d1,d2,d3,e]
  rw[kD k3]at d3;have pre:∀(β:Type) (kn:K2 β),aBj (aA prog 2 Q n) n h4 (.int .u8 (c:Int)) (aB h.next) (aB h1.next) (aB h2.next) kn=if K=12∨K=13∨K=14 then kn (aB h2.next) (aB h.next) h4 else aHa (aA prog 2 Q n) n h4 (aB h.next) (aB h1.next) (aB h2.next) kn:=by
   intro β kn;have d12:decide ((K:Int)=12)=decide (K=12):=deN _ 12;have d13:decide ((K:Int)=13)=decide (K=13):=deN _ 13;have d14:decide ((K:Int)=14)=decide (K=14):=deN _ 14;simp only[aBj,aQx,aQw,aWr,bFg,bZe,bZd,WzO.S,WzO.n0,l0,zQ,d1,d2,d3,d12,d13,d14];by_cases k12:K=12
   ·rw[kC k12,kB (Or.inl k12)];rfl
   ·rw[kD k12];by_cases k13:K=13
    ·rw[kC k13,kB (Or.inr (Or.inl k13))];rfl
    ·rw[kD k13];by_cases k14:K=14
     ·rw[kC k14,kB (Or.inr (Or.inr k14))];rfl
     ·rw[kD k14,kA (by omega)];rfl
  by_cases k12:K=12∨K=13∨K=14
  ·have hg:dQ c rest=(zq K,[]):=by
    unfold dQ fI;rw[←hK,kA (by omega)];rw[kA (show¬(zq K).kind=1 from k1),kA (show¬(zq K).kind=2 from k2),kA (show¬(zq K).kind=3 from k3),kB (show(zq K).kind=12∨(zq K).kind=13∨(zq K).kind=14 from k12)]
   rw[hg];refine⟨h4,aF,rest,fun β kn=>?_,G,(Vec.nil 2 h4).slice,nl⟩;rw[pre,kB k12]
  ·obtain⟨h5,e5,G5⟩:=G.word kd (n:=n) (by omega);obtain⟨b,hb⟩:∃b,b=aX rest:=⟨_,rfl⟩;have hb1:=(bZ rest).2;rw[←hb]at e5 G5 hb1;obtain⟨h6,e6,G6⟩:=G5.put (i:=4) (y:=.int .u16 (b.1:Int)) (q':={zq K with id:=b.1}) (w':=aF) (by omega) rfl rfl;obtain⟨⟨m0,_⟩,_⟩:=G6.bq.lds;have m0:A.load false 1 (.pointer (some ⟨h2.next,0,none⟩)) h6=some (.int .u8 (K:Int)):=m0;have ld6:=G6.cu.ld;have d9:decide ((K:Int)=9)=decide (K=9):=deN _ 9;have d8:decide ((K:Int)=8)=decide (K=8):=deN _ 8;have d10:decide ((K:Int)=10)=decide (K=10):=deN _ 10;have hb2:=G6.le;have w1:IntKind.i64.wrap ((b.2.1.length:Int)+1)=((b.2.1.length+1:Nat):Int):=aI (by omega);by_cases k8:K=8∨K=10
   ·have hg:dQ c rest=({zq K with id:=b.1},gS K (b.2.1.length+1) b.2.1 (b.2.1.length+1)):=by
     unfold dQ;rw[←hK,kB k8,←hb]
    rw[hg];rw[kD (show¬K=9 by omega)]at d9;obtain⟨h7,w',l',e7,G7,v7,off7⟩:=lpR kd (n:=n) (by omega) n (q:={zq K with id:=b.1}) k8 (b.2.1.length+1) n (b.2.1.length+1) h6 aF [] b.2.1 (kF _) (by omega) (by simp;omega) G6 (Vec.nil 2 h6) nl;refine⟨h7,w',l',fun β kn=>?_,G7,v7.slice,off7⟩;rw[pre,kA k12];simp only[aHa,aWq,e5,WzO.S,iU hb1,WzO.n0,e6,m0,zQ,d9,aWp,ld6,qJ,aG,w1];exact e7 β kn
   ·rw[kD (show¬K=8 by omega)]at d8;rw[kD (show¬K=10 by omega)]at d10;have ex:∀(q:Pq) (h7:H) (m:Nat) (y:Value),0<m→A.load false 1 (.pointer (some ⟨h2.next,0,none⟩)) h7=some (.int .u8 (K:Int))→∀(β:Type) (kn:K2 β),xL (aA prog 2 Q n) n kn m y (aB h1.next) (aB h2.next) (aB h.next) h7=kn (aB h2.next) (aB h.next) h7:=by
     intro q h7 m y hm k0 β kn;obtain⟨m,rfl⟩:∃r,m=r+1:=⟨m-1,by omega⟩;simp only[xL,aEp,aWo,aWn,WzO.S,WzO.n0,k0,zQ,d8,d10]
    have hga:dQ c rest=((cY (fun _=>true) (b.2.1,false||b.2.2,{zq K with id:=b.1})).1.2.2,(cY (fun _=>true) (b.2.1,false||b.2.2,{zq K with id:=b.1})).2):=by
     unfold dQ fI;rw[←hK,kA k8];rw[kA (show¬(zq K).kind=1 from k1),kA (show¬(zq K).kind=2 from k2),kA (show¬(zq K).kind=3 from k3),kA (show¬((zq K).kind=12∨(zq K).kind=13∨(zq K).kind=14)from k12),←hb]
    by_cases k9:K=9
    ·rw[kC k9]at d9;have hg:dQ c rest=({zq K with id:=b.1,codes:=b.2.1},[]):=by
      rw[hga];unfold cY;rw[kB (show({zq K with id:=b.1}:Pq).kind=9 from k9)]
     rw[hg];obtain⟨h7,e7,G7⟩:=G6.put (i:=23) (y:=str b.2.1) (q':={zq K with id:=b.1,codes:=b.2.1}) (w':=aF) (by omega) rfl rfl;obtain⟨⟨k0,_⟩,_⟩:=G7.bq.lds;have ld7:=G7.cu.ld;refine⟨h7,aF,_,fun β kn=>?_,G7,(Vec.nil 2 h7).slice,nl⟩;rw[pre,kA k12];simp only[aHa,aWq,e5,WzO.S,iU hb1,WzO.n0,e6,m0,zQ,d9,ld6,e7,aWp,ld7,qJ,aG,w1];exact ex (zq 0) h7 n _ (by omega) k0 β kn
    ·rw[kD k9]at d9;have hg:dQ c rest=({zq K with id:=b.1},[]):=by
      rw[hga];unfold cY;rw[kA (show¬({zq K with id:=b.1}:Pq).kind=9 from k9),kA (show¬(({zq K with id:=b.1}:Pq).kind=8∨({zq K with id:=b.1}:Pq).kind=10)from k8)]
     rw[hg];refine⟨h6,aF,_,fun β kn=>?_,G6,(Vec.nil 2 h6).slice,nl⟩;rw[pre,kA k12];simp only[aHa,aWq,e5,WzO.S,iU hb1,WzO.n0,e6,m0,zQ,d9,aWp,ld6,qJ,aG,w1];exact ex (zq 0) h6 n _ (by omega) m0 β kn
 obtain⟨h6,e6,ld,x6⟩:=bHv (zs:=WzB.Z38L) rfl G5.z.1 (dQ c rest).1 w';have la:=G5.bq.all;have xx:Ext h h6:=aT G5.x x6 (kF _);refine⟨h6,w',?_,sl5.extBut x6 (fun i hi e=>(off5 i hi).2.2.2 e),xx,fun i hi=>(off5 i hi).1⟩;simp only[F39,bAh,bZf,e1,WzO.S,b1,e2,hq,b3,e3,e4,e5,bZa,la,e6,ld];rfl
theorem wL (l:List UInt8):∀f scale n used,(∀j,used≤j→j<used+f→∃b,l[j]?=some b∧128≤b.toNat)→rlF l f scale n used=(0,0,4)
 |0,_,_,_=>fun _=>rfl
 |f+1,scale,n,used=>fun h=>by
  obtain⟨b,hb,h1⟩:=h used (kF _) (by omega);show(match l[used]? with|none=>_|some b=>_)=_
  rw[hb];simp only[kA (show¬b.toNat<128 by omega)];exact wL l f _ _ _ fun j h1 h2=>h j (by omega) (by omega)
theorem aCc (l:List UInt8):∀d f scale n used,used+d=l.length→d<f→(∀j,used≤j→j<l.length→∃b,l[j]?=some b∧128≤b.toNat)→rlF l f scale n used=(0,0,2)
 |0,f,scale,n,used=>fun h1 h2 _=>by
  obtain⟨f,rfl⟩:∃m,f=m+1:=⟨f-1,by omega⟩;show(match l[used]? with|none=>_|some b=>_)=_
  rw[List.getElem?_eq_none (by omega)]
 |d+1,f,scale,n,used=>fun h1 h2 h=>by
  obtain⟨f,rfl⟩:∃m,f=m+1:=⟨f-1,by omega⟩;obtain⟨b,hb,h3⟩:=h used (kF _) (by omega);show(match l[used]? with|none=>_|some b=>_)=_
  rw[hb];simp only[kA (show¬b.toNat<128 by omega)];exact aCc l d f _ _ _ (by omega) (by omega) fun j h1 h2=>h j (by omega) h2
theorem aJa (l:List UInt8):∀f scale n used,n<scale→(rlF l f scale n used).1<scale*128^f
 |0,scale,n,_=>fun h=>by show 0<_;rw[Nat.pow_zero,Nat.mul_one];omega
 |f+1,scale,n,used=>fun h=>by
  have hp:0<128^f:=Nat.pow_pos (by omega);have e:scale*128^(f+1)=scale*128*128^f:=by rw[Nat.pow_succ,Nat.mul_assoc,Nat.mul_comm (128^f)]
  have hs:scale*128≤scale*128*128^f:=Nat.le_mul_of_pos_right _ hp;rw[e];unfold rlF
  cases l[used]? with
  |none=>show 0<_;omega
  |some b=>
   simp only;have hy:b.toNat%128<128:=Nat.mod_lt _ (by omega);have hm:b.toNat%128*scale≤127*scale:=Nat.mul_le_mul_right _ (by omega);split
   ·show n+b.toNat%128*scale<_;omega
   ·exact aJa l f (scale*128) (n+b.toNat%128*scale) (used+1) (by omega)
section
variable {Q:Orc}(kd:KnB Q){h:H}
include kd
theorem U38 {n:Nat}{l:List UInt8}(hn:l.length+10≤n)(hl:l.length≤1001000):aA prog 2 Q n 38 [str l] h=some (.tuple ⟨[.int .i64 ((rlF l 4 1 0 0).1:Int),.int .i64 ((rlF l 4 1 0 0).2.1:Int),.int .i64 ((rlF l 4 1 0 0).2.2:Int)]⟩,h):=by
 obtain⟨n,rfl⟩:∃m,n=m+1:=⟨n-1,by omega⟩;rw[bWg Q n _ h (kd.fr 38 _ (by decide))];obtain⟨N,hN⟩:∃N,n=N+1:=⟨n-1,by omega⟩;have e52:=fun(j:Nat) (hj:j<4)=>(congrArg (fun n=>aA prog 2 Q n 52 [.int .i64 (j:Int)] h) hN).trans (qB (kd.f52 j hj) N h);have lp:∀(d i m:Nat),i+d=l.length→d<m→∃i',i≤i'∧i'≤l.length∧(∀j,i≤j→j<i'→∃b,l[j]?=some b∧128≤b.toNat)∧(i'=l.length∨∃b,l[i']?=some b∧b.toNat<128)∧∀(C:CF) (L:Nat) (β:Type) (kx:K2 β),aBc C L kx m (str l) (.int .i64 (i:Int)) h=kx (str l) (.int .i64 (i':Int)) h:=by
  intro d
  induction d with
  |zero=>
   intro i m hi hm;obtain⟨m,rfl⟩:∃r,m=r+1:=⟨m-1,by omega⟩;have dl:decide ((i:Int)<(l.length:Int))=false:=by rw[kI];omega
   refine⟨i,kF _,by omega,fun j h1 h2=>by omega,Or.inl (by omega),fun C L β kx=>?_⟩;simp only[aBc,aQy,qJ,WzO.S,zZ,dl]
  |succ d ih=>
   intro i m hi hm;obtain⟨m,rfl⟩:∃r,m=r+1:=⟨m-1,by omega⟩;have dl:decide ((i:Int)<(l.length:Int))=true:=by rw[kJ];omega
   obtain⟨b,hb⟩:∃b,l[i]?=some b:=⟨_,kN (by omega)⟩;have ix:=ixS hb;have dg:decide ((128:Int)≤(b.toNat:Int))=decide (128≤b.toNat):=aMh 128 _;by_cases c:128≤b.toNat
   ·rw[kC c]at dg;obtain⟨i',f1,f2,f3,f4,f5⟩:=ih (i+1) m (by omega) (by omega);refine⟨i',by omega,f2,fun j h1 h2=>?_,f4,fun C L β kx=>?_⟩
    ·by_cases e:j=i
     ·rw[e];exact⟨b,hb,c⟩
     ·exact f3 j (by omega) h2
    ·simp only[aBc,aQy,qJ,WzO.S,zZ,dl,ix,bA,dg,aG,aI (show i+1<2^63 by omega),f5]
   ·rw[kD c]at dg;refine⟨i,kF _,by omega,fun j h1 h2=>by omega,Or.inr ⟨b,hb,by omega⟩,fun C L β kx=>?_⟩;simp only[aBc,aQy,qJ,WzO.S,zZ,dl,ix,bA,dg]
 obtain⟨i,_,i2,i3,i4,e1⟩:=lp l.length 0 n (by omega) (by omega);have e1:∀(C:CF) (L:Nat) (β:Type) (kx:K2 β),aBc C L kx n (str l) (.int .i64 0) h=kx (str l) (.int .i64 (i:Int)) h:=e1;have d4:decide ((4:Int)≤(i:Int))=decide (4≤i):=aMh 4 _;have de:decide ((i:Int)=(l.length:Int))=decide (i=l.length):=deN _ _;by_cases c4:4≤i
 ·rw[kC c4]at d4;rw[wL l 4 1 0 0 (fun j h1 h2=>i3 j h1 (by omega))];simp only[F38,aMd,aWu,e1,aWt,bA,d4,WzO.S];rfl
 rw[kD c4]at d4;by_cases ce:i=l.length
 ·rw[kC ce]at de;rw[aCc l l.length 4 1 0 0 (by omega) (by omega) (fun j h1 h2=>i3 j h1 (by omega))];simp only[F38,aMd,aWu,e1,aWt,bA,d4,WzO.S,qJ,zQ,de];rfl
 rw[kD ce]at de;obtain⟨b,hb,hb1⟩:=i4.resolve_left ce;have sum:∀(d j m x:Nat),j+d=i→d+1<m→x<128^j→∃y,rlF l (4-j) (128^j) x j=(y,i+1,0)∧∀(β:Type) (kx:K2 β),aBb (aA prog 2 Q n) n kx m (.int .i64 (j:Int)) (str l) (.int .i64 (x:Int)) (.int .i64 (i:Int)) h=kx (.int .i64 (y:Int)) (.int .i64 (i:Int)) h:=by
  intro d;have round:∀(j x m:Nat) (b:UInt8),j≤i→x<128^j→l[j]?=some b→∀(β:Type) (kx:K2 β),aBb (aA prog 2 Q n) n kx (m+1) (.int .i64 (j:Int)) (str l) (.int .i64 (x:Int)) (.int .i64 (i:Int)) h=aBb (aA prog 2 Q n) n kx m (.int .i64 ((j+1:Nat):Int)) (str l) (.int .i64 ((x+b.toNat%128*128^j:Nat):Int)) (.int .i64 (i:Int)) h:=by
   intro j x m b hj hx hb β kx;have dj:decide ((j:Int)≤(i:Int))=true:=by rw[kJ];omega
   have ix:=ixS hb;have hlt:=b.toNat_lt;have rm:A.zA prog .rem 5 (.int .u8 (b.toNat:Int)) (.int .u8 128)=some (.int .u8 ((b.toNat%128:Nat):Int)):=by
    rw[rD prog 5 .u8 _ _ (by omega),Int.tmod_eq_emod_of_nonneg (by omega)];rfl
   have c53:=dU (b.toNat%128) (by omega);have hp:128^j≤2097152:=Nat.pow_le_pow_right (n:=128) (by omega) (show j≤3 by omega);have hy:b.toNat%128<128:=Nat.mod_lt _ (by omega);obtain⟨P,hP⟩:∃P,P=128^j:=⟨_,rfl⟩;have e5:=e52 j (by omega);rw[←hP]at e5 hp hx⊢;have hm:b.toNat%128*P≤127*P:=Nat.mul_le_mul_right _ (by omega);have ml:A.zA prog .mul 3 (.int .i64 ((b.toNat%128:Nat):Int)) (.int .i64 (P:Int))=some (.int .i64 ((b.toNat%128*P:Nat):Int)):=by
    have e:((b.toNat%128:Nat):Int)*(P:Int)=((b.toNat%128*P:Nat):Int):=by rw[Int.natCast_mul]
    rw[gV,e,aS (by omega) (by omega)]
   have a1:A.zA prog .add 3 (.int .i64 (x:Int)) (.int .i64 ((b.toNat%128*P:Nat):Int))=_:=iZ (by omega);simp only[aBb,aWs,bK,dj,WzO.S,ix,rm,c53,e5,ml,a1,aG,aI (show j+1<2^63 by omega)]
  induction d with
  |zero=>
   intro j m x hj hm hx;obtain⟨m,rfl⟩:∃r,m=r+2:=⟨m-2,by omega⟩;have hj:j=i:=hj;subst hj;refine⟨x+b.toNat%128*128^j,?_,fun β kx=>?_⟩
   ·rw[show 4-j=(3-j)+1 by omega];show(match l[j]? with|none=>_|some b=>_)=_
    rw[hb];simp only[kB hb1]
   ·rw[round j x (m+1) b (kF _) hx hb β kx];have dj:decide (((j+1:Nat):Int)≤(j:Int))=false:=by rw[kI];omega
    simp only[aBb,aWs,bK,dj,WzO.S]
  |succ d ih=>
   intro j m x hj hm hx;obtain⟨m,rfl⟩:∃r,m=r+1:=⟨m-1,by omega⟩;obtain⟨c,hc,hc1⟩:=i3 j (pQ _) (by omega);have hy:c.toNat%128<128:=Nat.mod_lt _ (by omega);have hm2:c.toNat%128*128^j≤127*128^j:=Nat.mul_le_mul_right _ (by omega);have hx2:x+c.toNat%128*128^j<128^(j+1):=by rw[Nat.pow_succ];omega
   obtain⟨y,f1,f2⟩:=ih (j+1) m (x+c.toNat%128*128^j) (by omega) (by omega) hx2;refine⟨y,?_,fun β kx=>?_⟩
   ·rw[show 4-j=(4-(j+1))+1 by omega];show(match l[j]? with|none=>_|some b=>_)=_
    rw[hc];simp only[kA (show¬c.toNat<128 by omega)];rw[←Nat.pow_succ];exact f1
   ·rw[round j x m c (by omega) hx hc β kx];exact f2 β kx
 obtain⟨y,f1,f2⟩:=sum i 0 n 0 (by omega) (by omega) (by decide);have f1:rlF l 4 1 0 0=(y,i+1,0):=f1;have f2:∀(β:Type) (kx:K2 β),aBb (aA prog 2 Q n) n kx n (.int .i64 0) (str l) (.int .i64 0) (.int .i64 (i:Int)) h=kx (.int .i64 (y:Int)) (.int .i64 (i:Int)) h:=f2;rw[f1];simp only[F38,aMd,aWu,e1,aWt,bA,d4,WzO.S,qJ,zQ,de,aYs,bZh,f2,bZg,aG,aI (show i+1<2^63 by omega)];rfl
end
theorem aBy (kind:Nat):∀(n:Nat) {l:List UInt8} (was:Nat),l.length≤1000300→(gS kind n l was).length≤n∧∀s∈gS kind n l was,s.1.length≤1000300∧s.2<256
 |0,l,was,_=>⟨kF _,fun s hs=>by cases hs⟩
 |n+1,l,was,h=>by
  by_cases c:l=[]∨was≤l.length
  ·have e:gS kind (n+1) l was=[]:=by unfold gS;rw[kB c]
   rw[e];exact⟨pQ _,fun s hs=>by cases hs⟩
  ·have e:gS kind (n+1) l was=((aM l).1,if kind=8 then(bR (aM l).2.1).1 else 0)::gS kind n (if kind=8 then(bR (aM l).2.1).2.1 else(aM l).2.1) l.length:=by
    conv=>lhs;unfold gS
    rw[kA c]
   rw[e];have h1:=fV l;have h2:=fJ (aM l).2.1;have h3:=eM (aM l).2.1;have h4:(if kind=8 then(bR (aM l).2.1).2.1 else(aM l).2.1).length≤1000300:=by split<;>omega
   obtain⟨i1,i2⟩:=aBy kind n l.length h4;refine⟨Nat.succ_le_succ i1,fun s hs=>?_⟩;rcases List.mem_cons.1 hs with rfl|hs
   ·refine⟨by show(aM l).1.length≤_;omega,?_⟩;show(if kind=8 then _ else 0)<256
    split<;>omega
   ·exact i2 s hs
theorem aJg {c:Nat}(hc:c<256){rest:List UInt8}(hl:rest.length≤1000300):Bd (dQ c rest).1 (dQ c rest).2:=by
 unfold dQ;split
 ·have h1:=bZ rest;obtain⟨i1,i2⟩:=aBy (c / 16) ((aX rest).2.1.length+1) (l:=(aX rest).2.1) ((aX rest).2.1.length+1) (by omega);have hlen:(gS (c / 16) ((aX rest).2.1.length+1) (aX rest).2.1 ((aX rest).2.1.length+1)).length≤1000301:=by omega
  exact{aMs (show c / 16<256 by omega)with id:=h1.2,len:=hlen,es:=i2}
 ·exact aCp _ ⟨hl,aMs (by omega)⟩
theorem U18 {Q:Orc}(kd:KnB Q){h:H}{n:Nat}(hn:1003000≤n){l:List UInt8}(hl:l.length≤1000300):D7 (aA prog 2 Q n 18 [str l] h) h (pN dI nmR fiR l):=by
 obtain⟨n,rfl⟩:∃m,n=m+1:=⟨n-1,by omega⟩;rw[bWw Q n _ h (kd.fr 18 _ (by decide))];obtain⟨h1,hh1⟩:∃h1,h1=h.push (.cells WzB.Z38L (some 0)):=⟨_,rfl⟩;have e1:A.zJ 24 WzB.Z38 h=some (aB h.next,h1):=by rw[hh1];rfl
 have g1:h1.get h.next=some (.cells WzB.Z38L (some 0)):=by rw[hh1,H.get_push,kB rfl]
 have x1:Ext h h1:=by rw[hh1];exact Ext.push h _
 have n1:h1.next=h.next+1:=by rw[hh1];rfl
 have b0:A.zF WzB.Z38L []=some (.agg ⟨(zq 0).cells aF⟩):=rfl;have toE:∀{hx h':H},Ext h hx→ExtBut (fun i=>i=h.next) hx h'→Ext h h':=fun a b=>aT a b (kF _);obtain⟨hz,ez,fz,xz⟩:=aFe (zs:=WzB.Z38L) rfl g1 (zq 0) aF
 cases l with
 |nil=>
  have d:A.zA prog .eql 9 (str []) (.string ⟨⟨[]⟩⟩)=some (.bool true):=cV [] [];refine D7.bad 2 rfl ?_ (by omega) (toE x1 xz);simp only[F18,xU,aEb,e1,WzO.S,d,b0,ez];exact fz _ _
 |cons c t=>
  have d:A.zA prog .eql 9 (str (c::t)) (.string ⟨⟨[]⟩⟩)=some (.bool false):=by
   have:=cV (c::t) [];rw[kD (by simp)]at this;exact this
  have ix:A.zB (str (c::t)) (.int .i64 0)=some (u8 c):=ixS (i:=0) rfl;have hc4:=c.toNat_lt;obtain⟨N,hN⟩:∃N,n=N+1:=⟨n-1,by omega⟩;have e37:aA prog 2 Q n 37 [u8 c] h1=_:=(congrArg (fun n=>aA prog 2 Q n 37 [u8 c] h1) hN).trans (qB (kd.f37 c.toNat hc4) N h1)
  cases hf:bG c.toNat with
  |false=>
   rw[hf]at e37;have hr:pN dI nmR fiR (c::t)=none:=by unfold pN;simp only[hf,pB,if_false]
   refine D7.bad 4 hr ?_ (by omega) (toE x1 xz);simp only[F18,xU,aEb,e1,WzO.S,d,ix,e37,b0,ez];exact fz _ _
  |true=>
   rw[hf]at e37;have sl1:A.zE (str (c::t)) (some (.int .i64 1)) none=some (str t):=slS (l:=c::t) (k:=1) (by simp);have hl:t.length+1≤1000300:=hl;have e38:=U38 kd (h:=h1) (n:=n) (l:=t) (by omega) (by omega);have hu:=mX t 4 1 0 0;have hR1:=aJa t 4 1 0 0 (by omega);obtain⟨R,hR⟩:∃R,R=rlF t 4 1 0 0:=⟨_,rfl⟩;rw[←hR]at e38 hu hR1;have hR1:R.1<268435456:=hR1;have t0:A.z 0 (.tuple ⟨[.int .i64 (R.1:Int),.int .i64 (R.2.1:Int),.int .i64 (R.2.2:Int)]⟩)=some (.int .i64 (R.1:Int)):=rfl;have t1:A.z 1 (.tuple ⟨[.int .i64 (R.1:Int),.int .i64 (R.2.1:Int),.int .i64 (R.2.2:Int)]⟩)=some (.int .i64 (R.2.1:Int)):=rfl;have t2:A.z 2 (.tuple ⟨[.int .i64 (R.1:Int),.int .i64 (R.2.1:Int),.int .i64 (R.2.2:Int)]⟩)=some (.int .i64 (R.2.2:Int)):=rfl;by_cases he:R.2.2=0
   ·have hu:=hu he;have dn:A.zA prog .neq 3 (.int .i64 (R.2.2:Int)) (.int .i64 0)=some (.bool false):=by rw[aK,kC (by omega)];rfl
    have a1:A.zA prog .add 3 (.int .i64 1) (.int .i64 (R.2.1:Int))=some (.int .i64 ((R.2.1+1:Nat):Int)):=by
     rw[aG,aS (by omega) (by omega)];congr 2;omega
    obtain⟨U,hU⟩:∃U,U=R.2.1+1:=⟨_,rfl⟩;rw[←hU]at a1;have hUl:U≤(c::t).length:=by show U≤t.length+1;omega
    have a2:A.zA prog .add 3 (.int .i64 (U:Int)) (.int .i64 (R.1:Int))=some (.int .i64 ((U+R.1:Nat):Int)):=iZ (by omega);by_cases hlt:(c::t).length-U<R.1
    ·have hr:pN dI nmR fiR (c::t)=none:=by
      show(if bG c.toNat=true then _ else _)=_
      rw[kB hf,←hR,kB he,←hU,kB hlt]
     have dl:decide ((((c::t).length:Nat):Int)<((U+R.1:Nat):Int))=true:=kC (by omega);refine D7.bad 2 hr ?_ (by omega) (toE x1 xz);simp only[F18,xU,aEb,e1,WzO.S,d,ix,e37,sl1,e38,t0,t1,t2,aKo,dn,a1,a2,qJ,zZ,dl,b0,ez];exact fz _ _
    ·have dl:decide ((((c::t).length:Nat):Int)<((U+R.1:Nat):Int))=false:=kD (by omega);have sl2:=aUs (l:=c::t) (a:=U) (b:=U+R.1) (by omega) (by omega);rw[Nat.add_sub_cancel_left]at sl2;obtain⟨rest,hrest⟩:∃rest,rest=((c::t).drop U).take R.1:=⟨_,rfl⟩;have rlen:rest.length=R.1:=by rw[hrest,kT,kU];omega
     have rl3:rest.length≤1000300:=by rw[hrest,kT,kU];show min _ (t.length+1-U)≤_;omega
     rw[←hrest]at sl2;have d16:decide ((c.toNat:Int)=16)=decide (c.toNat=16):=deN _ 16;have d6:decide ((6:Int)<(rest.length:Int))=decide (6<rest.length):=dlN 6 _;have k16:c.toNat / 16=1↔c.toNat=16:=by
      obtain⟨_,_,hx⟩:=wW hc4 hf;constructor
      ·intro k;have:=hx.resolve_left (by omega);rw[kA (by omega)]at this;omega
      ·intro k;rw[k]
     have lv:∀(kn:K5 (Value×H)),bGi h1 (str (c::t)) (aB h.next) (.int .i64 ((U+R.1:Nat):Int)) (str rest) kn=kn (.bool (decide (lv7 (c.toNat / 16) rest))) (str (c::t)) (str rest) (.int .i64 ((U+R.1:Nat):Int)) (aB h.next) h1:=by
      intro kn;simp only[bGi,ix,WzO.S,zQ,d16,qJ,zY,d6];by_cases c1:c.toNat=16
      ·rw[kC c1];by_cases c2:6<rest.length
       ·rw[kC c2];have se:=cV (rest.take 6) aAi;have se:A.zA prog .eql 9 (str (rest.take 6)) (.string ⟨⟨[0,4,77,81,84,84]⟩⟩)=_:=se;obtain⟨b,hb⟩:∃b,rest[6]?=some b:=⟨_,kN c2⟩;have ix6:A.zB (str rest) (.int .i64 6)=some (u8 b):=ixS (i:=6) hb;have db:decide ((b.toNat:Int)=4)=decide (b=4):=u8l 4;simp only[WzO.S,bXg (show 6≤rest.length by omega),se,ix6,aK,db];by_cases c3:rest.take 6=aAi
        ·rw[kC c3];by_cases c4:b=4
         ·rw[kC c4,kD (show¬lv7 (c.toNat / 16) rest from fun h=>h.2.2.2 (by rw[hb,c4]))];rfl
         ·rw[kD c4,kC ⟨k16.2 c1,c2,c3,fun h=>by rw[hb]at h;exact c4 (kP h)⟩];rfl
        ·rw[kD c3,kD (show¬lv7 (c.toNat / 16) rest from fun h=>c3 h.2.2.1)];rfl
       ·rw[kD c2,kD (show¬lv7 (c.toNat / 16) rest from fun h=>c2 h.2.1)];rfl
      ·rw[kD c1,kD (show¬lv7 (c.toNat / 16) rest from fun h=>c1 (k16.1 h.1))];rfl
     by_cases hv:lv7 (c.toNat / 16) rest
     ·obtain⟨b,hb⟩:∃b,rest[6]?=some b:=⟨_,kN hv.2.1⟩;have hr:pN dI nmR fiR (c::t)=some ({zq 1 with level:=b.toNat},[],U+R.1):=by
       show(if bG c.toNat=true then _ else _)=_
       rw[kB hf,←hR,kB he,←hU,kA hlt,←hrest];refine(kB hv).trans ?_;rw[hb];rfl
      have ix6:A.zB (str rest) (.int .i64 6)=some (u8 b):=ixS (i:=6) hb;have bl:A.zF WzB.Z38L [(0,1,.int .u8 1),(7,1,u8 b)]=some (.agg ⟨({zq 1 with level:=b.toNat}:Pq).cells aF⟩):=rfl;obtain⟨hy,ey,fy,xy⟩:=aFe (zs:=WzB.Z38L) rfl g1 ({zq 1 with level:=b.toNat}:Pq) aF;have dv:=kC hv;refine D7.good (w:=aF) hr ?_ (Vec.nil 2 hy).slice (fun i hi=>by cases hi) (toE x1 xy);simp only[F18,xU,aEb,e1,WzO.S,d,ix,e37,sl1,e38,t0,t1,t2,aKo,dn,a1,a2,qJ,zZ,dl,sl2,aLi,lv,dv,aXk,ix6,bl,ey];exact fy _ _
     ·have dv:decide (lv7 (c.toNat / 16) rest)=false:=kD hv;obtain⟨h2,w,e39,sl,x2,sw⟩:=U39 kd (h:=h1) (n:=n) (by omega) hc4 rl3;have bd:=aJg hc4 rl3;obtain⟨p,hp⟩:∃p,p=dQ c.toNat rest:=⟨_,rfl⟩;rw[←hp]at e39 sl bd;obtain⟨h3,hh3⟩:∃h3,h3=h2.push (.cells WzB.Z38L (some 0)):=⟨_,rfl⟩;have e3:A.zJ 24 WzB.Z38 h2=some (aB h2.next,h3):=by rw[hh3];rfl
      have x3:Ext h2 h3:=by rw[hh3];exact Ext.push h2 _
      have n3:h3.next=h2.next+1:=by rw[hh3];rfl
      have g3:h3.get h2.next=some (.cells WzB.Z38L (some 0)):=by rw[hh3,H.get_push,kB rfl]
      obtain⟨h4,hh4⟩:∃h4,h4=h3.put h2.next (.cells (p.1.cells w) (some 0)):=⟨_,rfl⟩;have hcl:aJ (.agg ⟨p.1.cells w⟩)=some (p.1.cells w):=rfl;have e4:A.store 24 (aB h2.next) (.agg ⟨p.1.cells w⟩) h3=some h4:=by rw[qU,g3,hcl,hh4];rfl
      have x4:Ext h2 h4:=by rw[hh4];exact x3.put _ _ (kF _)
      have n4:h4.next=h3.next:=by rw[hh4];rfl
      have b4:BQ h4 h2.next p.1 w:=⟨by rw[hh4,H.get_put,kB rfl],by omega⟩;have sl4:=sl.ext x4;obtain⟨h5,e5,x5⟩:=U40 kd (h:=h4) (n:=n) (by omega) bd sl4;have x14:=x2.trans x4;have la4:=b4.all;have hr:pN dI nmR fiR (c::t)=if eF dI nmR fiR p.1 p.2=true∧16*p.1.kind+dO p.1=c.toNat∧bX p.1 p.2=rest then some (p.1,p.2,U+R.1)else none:=by
       show(if bG c.toNat=true then _ else _)=_
       rw[kB hf,←hR,kB he,←hU,kA hlt,←hrest];refine(kA hv).trans ?_;rw[hp]
      have getz:∀{h':H},Ext h1 h'→h'.get h.next=some (.cells WzB.Z38L (some 0)):=fun x=>by rw[x.get _ (by omega)];exact g1
      have bad:∀{h':H},Ext h1 h'→pN dI nmR fiR (c::t)=none→(∀kr kn:K3 (Value×H),aEu (aA prog 2 Q n) h4 (str (c::t)) (aB h.next) (.int .i64 ((U+R.1:Nat):Int)) (str rest) (aB h2.next) kr kn=bnd (A.zF WzB.Z38L []) fun a=>bnd (A.store 24 (aB h.next) a h') fun c=>kr (aB h.next) (.int .i64 0) (.int .i64 4) c)→
       D7 (F18 (aA prog 2 Q n) n (str (c::t)) h) h (pN dI nmR fiR (c::t)):=by
       intro h' x' hr st;obtain⟨hy,ey,fy,xy⟩:=aFe (zs:=WzB.Z38L) rfl (getz x') (zq 0) aF;refine D7.bad 4 hr ?_ (by omega) (toE (x1.trans x') xy);simp only[F18,xU,aEb,e1,WzO.S,d,ix,e37,sl1,e38,t0,t1,t2,aKo,dn,a1,a2,qJ,zZ,dl,sl2,aLi,lv,dv,aXk,bGh,e39,e3,e4,st,b0,ey];exact fy _ _
      cases hrt:eF dI nmR fiR p.1 p.2 with
      |false=>
       rw[hrt]at e5;refine bad (x14.trans x5) (by rw[hr,hrt,kA (fun h=>by cases h.1)]) fun kr kn=>?_;simp only[aEu,aRs,la4,WzO.S,e5,aRr]
      |true=>
       rw[hrt]at e5;have r:=bIu hrt;have b5:=b4.ext x5;have la5:=b5.all;have sl5:=sl4.ext x5;obtain⟨h6,e6,x6⟩:=U41 kd (h:=h5) (n:=n) (by omega) sl5.cells (show p.1.kind≤14 from r.kind.2) r.qos;have b6:=b5.ext x6;have la6:=b6.all;have sl6:=sl5.ext x6;have c53:=dU c.toNat hc4;have df:decide (((16*p.1.kind+dO p.1:Nat):Int)=(c.toNat:Int))=decide (16*p.1.kind+dO p.1=c.toNat):=deN _ _;by_cases c1:16*p.1.kind+dO p.1=c.toNat
       ·rw[kC c1]at df;obtain⟨h7,e7,x7⟩:=U42 kd (h:=h6) (n:=n) (by omega) bd r sl6;have b7:=b6.ext x7;have la7:=b7.all;have x17:=x14.trans (x5.trans (x6.trans x7));have sn:=dS (bX p.1 p.2) rest;by_cases c2:bX p.1 p.2=rest
        ·rw[kC c2]at sn;have hr2:pN dI nmR fiR (c::t)=some (p.1,p.2,U+R.1):=by rw[hr,kB ⟨hrt,c1,c2⟩]
         obtain⟨hy,ey,fy,xy⟩:=aFe (zs:=WzB.Z38L) rfl (getz x17) p.1 w;have sl7:=sl6.ext x7;refine D7.good (w:=w) hr2 ?_ (sl7.extBut xy (fun i hi e=>by have:=sw i hi;omega)) (fun i hi=>by have:=sw i hi;omega) (toE (x1.trans x17) xy);simp only[F18,xU,aEb,e1,WzO.S,d,ix,e37,sl1,e38,t0,t1,t2,aKo,dn,a1,a2,qJ,zZ,dl,sl2,aLi,lv,dv,aXk,bGh,e39,e3,e4,aEu,aRs,la4,e5,la5,e6,c53,aK,df,la6,e7,sn,aRr,cBe,la7,ey];exact fy _ _
        ·rw[kD c2]at sn;refine bad x17 (by rw[hr,kA (fun h=>c2 h.2.2)]) fun kr kn=>?_;simp only[aEu,aRs,la4,WzO.S,e5,la5,e6,ix,c53,aK,df,la6,e7,sn,aRr]
       ·rw[kD c1]at df;refine bad (x14.trans (x5.trans x6)) (by rw[hr,kA (fun h=>c1 h.2.1)]) fun kr kn=>?_;simp only[aEu,aRs,la4,WzO.S,e5,la5,e6,ix,c53,aK,df,aRr]
   ·have dn:A.zA prog .neq 3 (.int .i64 (R.2.2:Int)) (.int .i64 0)=some (.bool true):=by rw[aK,kD (by omega)];rfl
    have hr:pN dI nmR fiR (c::t)=none:=by
     show(if bG c.toNat=true then _ else _)=_
     rw[kB hf,←hR,kA he]
    refine D7.bad R.2.2 hr ?_ (by omega) (toE x1 xz);simp only[F18,xU,aEb,e1,WzO.S,d,ix,e37,sl1,e38,t0,t1,t2,aKo,dn,b0,ez];exact fz _ _
end Go.Proofs.YtohapjojkjjflaaGreatDoor.Wz
