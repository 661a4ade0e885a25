import Derived.Test.YtpanfoafajepcaaGreatDoorGg
import Derived.Test.YtpanfoafajepcaaGreatDoorRcR
import Derived.Test.YtpanfoafajepcaaGreatDoorGr
set_option maxRecDepth 100000
namespace Go.Proofs.YtpanfoafajepcaaGreatDoor.Ra
open Tryz (prog)
open Go Go.AM Go.RowKit Go.ChangeShapes Go.WideShapes Go.ChangeAt
def RA:List Nat:=[128,191,160,191,128,159,144,191,128,143]++List.replicate 22 0
theorem laid_at {P:Program}{W:World}{name:String}{d:DataW Unit}{r:List (String×DataW Unit)}{ps:List MemPlace}{k:Nat}{t:TypeId}(h:DataW.LaidVars P W ((name,d)::r) ps)(hg:P.globalNamed name=some k)(ht:(P.globals[k]?).map (·.type)=some t):
 (∃ccs ty fz fuel p,W.heap[k]?=some (.cells ccs ty fz)∧DataW.trod (fun _=>()) P W 0 (fun _=>true) false fuel t ccs.toList=some (d,p))∧∃q,DataW.LaidVars P W r q:=by
 obtain⟨g,t',cs,fuel,p,q,hg',ht',hv,hd,hr,_⟩:=h;obtain rfl:=kP (hg.symm.trans hg');obtain rfl:=kP (ht.symm.trans ht');refine⟨?_,q,hr⟩;simp only[World.var?,hg,pD]at hv;obtain⟨ccs,ty,fz,hh⟩:∃ccs ty fz,W.heap[k]?=some (.cells ccs ty fz):=by
  split at hv
  ·rename_i c t fr hb;exact⟨c,t,fr,hb⟩
  ·cases hv
 rw[hh]at hv;obtain rfl:=kP hv;exact⟨ccs,ty,fz,fuel,p,hh,hd⟩
section
variable {Hn:Type}{enc:TypeId×Value→Hn}{P:Program}{W:World}{base:Nat}{spare:Nat→Bool}{held:Bool}{fuel:Nat}{t e:TypeId}
theorem tY {cs:List Value}{x:DataW Hn×List MemPlace}(he:P.underlying e=some (.int .u8))(h:DataW.trod enc P W base spare held fuel e cs=some x):∃n:Nat,cs=[.int .u8 (n:Int)]∧x.1=.lit (.int .u8 (n:Int)):=by
 obtain⟨n,e1,e2,e3⟩:=DataW.trod_int he h;have hq:IntKind.u8.min≤n∧n≤IntKind.u8.max:=by simpa[Lit.wf]using e3
 have m1:IntKind.u8.min=0:=rfl;have hn:((n.toNat:Nat):Int)=n:=Int.toNat_of_nonneg (by omega);exact⟨n.toNat,by rw[hn];exact e1,by rw[hn,e2]⟩
theorem arr_bytes {n:Nat}{cs:List Value}{x:DataW Hn×List MemPlace}(ht:P.underlying t=some (.array n e))(he:P.underlying e=some (.int .u8))(hc:P.cellsOf e=1)(hct:P.cellsOf t=n)(h:DataW.trod enc P W base spare held fuel t cs=some x):
 cs.length=n∧∃xs:List (DataW Hn),x.1=.agg xs∧∀i,i<n→∃b:Nat,cs[i]?=some (.int .u8 (b:Int))∧xs[i]?=some (.lit (.int .u8 (b:Int))):=by
 obtain⟨ys,m,_,hx,hlen,hn,hel⟩:=DataW.trod_array ht h;refine⟨by rw[hlen,hct],ys.map (·.1),by rw[hx],fun i hi=>?_⟩;have h1:=hel i hi;rw[hc,Nat.mul_one]at h1;have hy:ys[i]?=some ys[i]:=kN (by omega);rw[hy]at h1;obtain⟨b,e1,e2⟩:=tY he h1;refine⟨b,?_,by rw[kX,hy];exact congrArg some e2⟩;have:=congrArg (fun l:List Value=>l[0]?) e1;simpa using this
theorem arr_pairs {n:Nat}{s:TypeId}{fs:Array Field}{cs:List Value}{x:DataW Hn×List MemPlace}(ht:P.underlying t=some (.array n s))(hs:P.underlying s=some (.struct fs))(h0:∃f,fs[0]?=some f∧f.type=e∧f.offset=0)(h1:∃f,fs[1]?=some f∧f.type=e∧f.offset=1)
 (he:P.underlying e=some (.int .u8)) (hc:P.cellsOf e=1) (hcs:P.cellsOf s=2) (hct:P.cellsOf t=2*n) (h:DataW.trod enc P W base spare held fuel t cs=some x):
 cs.length=2*n∧∃xs:List (DataW Hn),x.1=.agg xs∧∀i,i<2*n→∃(b:Nat) (zs:List (DataW Hn)),cs[i]?=some (.int .u8 (b:Int))∧xs[i / 2]?=some (.agg zs)∧zs[i%2]?=some (.lit (.int .u8 (b:Int))):=by
 obtain⟨ys,m,_,hx,hlen,hn,hel⟩:=DataW.trod_array ht h;refine⟨by rw[hlen,hct],ys.map (·.1),by rw[hx],fun i hi=>?_⟩;have e1:=hel (i / 2) (by omega);rw[hcs]at e1;have hy:ys[i / 2]?=some ys[i / 2]:=kN (by omega);rw[hy]at e1;obtain⟨zs,k,_,hzx,_,hz,hf⟩:=DataW.trod_struct hs e1;have hxy:(ys.map (·.1))[i / 2]?=some (.agg (zs.map (·.1))):=by rw[kX,hy];exact congrArg (fun z=>some z.1) hzx
 have one:∀{j:Nat} {f:Field},fs[j]?=some f→f.type=e→f.offset=j→i%2=j→∃(b:Nat) (zs:List (DataW Hn)),cs[i]?=some (.int .u8 (b:Int))∧(ys.map (·.1))[i / 2]?=some (.agg zs)∧zs[i%2]?=some (.lit (.int .u8 (b:Int))):=by
  intro j f hj hty hoff hm;have e2:=hf j f hj;have hjl:j<zs.length:=by rw[hz];exact(Array.getElem?_eq_some_iff.1 hj).1
  have hzj:zs[j]?=some zs[j]:=kN hjl;rw[hzj,hty,hc,hoff]at e2;obtain⟨b,e3,e5⟩:=tY he e2;refine⟨b,zs.map (·.1),?_,hxy,by rw[hm,kX,hzj];exact congrArg some e5⟩;have e4:=congrArg (fun l:List Value=>l[0]?) e3;simp only[kY]at e4;rw[pX,kB (by omega),pY,pX,kB (by omega),pY]at e4;rw[←e4];congr 1;omega
 obtain⟨f0,a0,b0,c0⟩:=h0;obtain⟨f1,a1,b1,c1⟩:=h1;by_cases hm:i%2=0
 ·exact one a0 b0 c0 hm
 ·exact one a1 b1 c1 (by omega)
end
def mu3:Mu:=fun id=>if id=1 then some ⟨1,0,0,256⟩else if id=2 then some ⟨2,0,0,32⟩else if id=0 then some ⟨0,0,0,0⟩else none
def h3 (xs A:List Nat):AM.H:=((⟨.nil,3⟩:AM.H).put 1 (.cells (cV xs) none)).put 2 (.cells (cV A) none)
theorem mU (xs A:List Nat)(id:Nat):(h3 xs A).get id=if id=2 then some (.cells (cV A) none)else if id=1 then some (.cells (cV xs) none)else none:=by
 unfold h3;rw[H.get_put,H.get_put];rfl
theorem aDh {id:Nat}{l:AM.Loc}(h:mu3 id=some l):id<3∧l.blk=id∧l.off=0∧(id=1→l.size=256)∧(id=2→l.size=32):=by
 unfold mu3 at h;split at h
 ·subst_vars;cases h;exact⟨by omega,rfl,rfl,fun _=>rfl,fun h=>by omega⟩
 split at h
 ·subst_vars;cases h;exact⟨by omega,rfl,rfl,fun h=>by omega,fun _=>rfl⟩
 split at h
 ·subst_vars;cases h;exact⟨by omega,rfl,rfl,fun h=>by omega,fun h=>by omega⟩
 ·cases h
theorem ro3 {W:World}{xs A:List Nat}{c0 c1:Array Value}{y0 y1:TypeId}{z0 z1:Nat×Nat}(hx:xs.length=256)(hA:A.length=32)(hs:2<W.heap.size)(g0:W.heap[1]?=some (.cells c0 y0 z0))(g1:W.heap[2]?=some (.cells c1 y1 z1))(s0:c0.size=256)(s1:c1.size=32)
 (e0:∀(i x:Nat),xs[i]?=some x→c0[i]?=some (.int .u8 (x:Int))) (e1:∀(i x:Nat),A[i]?=some x→c1[i]?=some (.int .u8 (x:Int))):RO 3 mu3 (h3 xs A) W:=by
 have cellsOK:∀{l:List Nat} {c:Array Value},(∀(i x:Nat),l[i]?=some x→c[i]?=some (.int .u8 (x:Int)))→∀(i:Nat) (v:Value),(cV l)[i]?=some v→∃q,c[0+i]?=some q∧VR mu3 v q∧cellish v=true:=by
  intro l c e i v hv;simp only[cV,kX,Option.map_eq_some_iff]at hv;obtain⟨x,hx,rfl⟩:=hv;exact⟨_,by rw[Nat.zero_add];exact e i x hx,.int _ _,rfl⟩
 refine⟨⟨kF _,fun id b h=>?_,fun id b l h hl=>?_,fun id b l id' b' l' h ho=>?_,fun id l h=>?_,fun g hg=>?_⟩,fun id b h=>?_,fun id hid=>?_⟩
 ·rw[mU]at h;show id<3;split at h
  ·omega
  ·split at h
   ·omega
   ·cases h
 ·obtain⟨_,hb,hoff,hz0,hz1⟩:=aDh hl;rw[mU]at h;split at h
  ·rename_i hid;obtain rfl:=kP h;have hz:=hz1 hid;refine⟨c1,y1,z1,by rw[hb,hid];exact g1,by rw[hz,s1],by rw[hoff,hz];simp[cV,hA],fun i v hv=>?_,⟨fun h=>by(cases h),fun _ h=>by(cases h)⟩⟩;rw[hoff];exact cellsOK e1 i v hv
  ·split at h
   ·rename_i hid;obtain rfl:=kP h;have hz:=hz0 hid;refine⟨c0,y0,z0,by rw[hb,hid];exact g0,by rw[hz,s0],by rw[hoff,hz];simp[cV,hx],fun i v hv=>?_,⟨fun h=>by(cases h),fun _ h=>by(cases h)⟩⟩;rw[hoff];exact cellsOK e0 i v hv
   ·cases h
 ·rw[mU]at h;split at h
  ·obtain rfl:=kP h;cases ho
  ·split at h
   ·obtain rfl:=kP h;cases ho
   ·cases h
 ·obtain⟨hid,hb,_⟩:=aDh h;rw[hb];omega
 ·have h4:g=0∨g=1∨g=2:=by omega
  rcases h4 with rfl|rfl|rfl
  ·exact⟨_,rfl,rfl,rfl⟩
  ·exact⟨_,rfl,rfl,rfl⟩
  ·exact⟨_,rfl,rfl,rfl⟩
 ·rw[mU]at h;split at h
  ·obtain rfl:=kP h;rfl
  ·split at h
   ·obtain rfl:=kP h;rfl
   ·cases h
 ·have hid:3≤id:=hid;unfold mu3;rw[kA (by omega),kA (by omega),kA (by omega)]
theorem jD:∀l:List Nat,bS (cV l)=true
 |[]=>rfl
 |_::r=>jD r
theorem bKs (xs A:List Nat):aBa 3 (h3 xs A):=⟨rfl,fun id b h=>by
 rw[mU]at h;split at h
 ·obtain rfl:=kP h;exact⟨by omega,_,rfl,jD _⟩
 ·split at h
  ·obtain rfl:=kP h;exact⟨by omega,_,rfl,jD _⟩
  ·cases h⟩
theorem law_calls {Hn:Type}{enc:TypeId×Value→Hn}{base:Nat}{W:World}(ro:RO 3 mu3 (h3 Go.Pinned.utf8FirstZ RA) W)(hpos:0<W.heap.size)(hzp:aK prog=true)(hm:prog.follows .mixedOrders=true)(hn:eJ prog=true)
 {args:Array Value} {ds:List (DataW Hn)} {ps:List MemPlace} {n b0:Nat} (hok:∀t∈[22,22,5],okT prog n t=true)
 (hw:∀(j:Nat) t v,[22,22,5][j]?=some t→args.toList[j]?=some v→Value.okWide prog W .any b0 t v) (ht:DataW.TrodAll enc prog W base (fun _=>true) true [22,22,5] args.toList ds ps):
 Calls prog 3 args W fun e W'=>e=.returned (.bool true)∧Below W.heap.size W W':=by
 obtain⟨μ,h,vs,r,e,l,tya⟩:=uD (NG:=3) hpos [22,22,5] args.toList ds ps hok hw ht _ _ ro;obtain⟨x0,x1,x2,rfl,t0,t1,t2⟩:∃a b c,vs=[a,b,c]∧TyV prog h 22 a∧TyV prog h 22 b∧TyV prog h 5 c:=by
  match vs,tya with
  |[a,b,c],ty=>exact⟨a,b,c,rfl,ty.1,ty.2.1,ty.2.2.1⟩
 obtain⟨ls0,s0,no0,eo0⟩:=aHz t0;obtain⟨ls1,s1,no1,eo1⟩:=aHz t1;obtain⟨k,rfl,hk⟩:=aLj t2;have tab:=bKs Go.Pinned.utf8FirstZ RA;have bt:aCj (h3 Go.Pinned.utf8FirstZ RA) RA:=⟨kF _,by rw[mU,kA (by omega),kB rfl],by rw[mU,kB rfl],rfl⟩;have hT:HasT (h3 Go.Pinned.utf8FirstZ RA) h:=fun id b hb=>e.2.1 id b hb;have hC:=aAn hzp hm hn (bGb tab);obtain⟨dm,rl,ok,L,hr⟩:=W3 (aYg bt tab) hC (fun h=>aLn h) hT e.2.2 s0 s1 no0 no1 eo0 eo1 k hk;refine(jM hzp hm hC ok hr r.rh r.fr l).mono ?_;rintro e' w' ⟨v,h',rfl,cv,μ',he,hst,hv⟩;have:=hv.bool_inv;subst this;exact⟨he,hst.below r.ro⟩
end Go.Proofs.YtpanfoafajepcaaGreatDoor.Ra
