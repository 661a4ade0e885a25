import Derived.Test.YtbmdhjdgpeleoaaGreatDoorGf
import Derived.Test.YtbmdhjdgpeleoaaGreatDoorGg
import Derived.Test.YtbmdhjdgpeleoaaGreatDoorTcR
import Derived.Test.YtbmdhjdgpeleoaaGreatDoorGr
set_option linter.defProp false
set_option maxRecDepth 100000
namespace Go.Proofs.YtbmdhjdgpeleoaaGreatDoor.Ra
open Tryz (prog)
open Go Go.AM Go.RowKit Go.ChangeShapes Go.WideShapes Go.ChangeAt
variable {base k n:Nat}{B x:kC MemPlace}{a:kC kA}{W w:kE}{s t:kF}
def laid_at {P:kD}{n:String}{d:DataW Unit}{r:kC (String×DataW Unit)}(h:DataW.LaidVars P w ((n,d)::r) x)(i:P.globalNamed n=some k)(u:(P.globals[k]?).map (·.type)=some t):
 (∃a y f Z p,w.heap[k]?=some (.cells a y f)∧DataW.trod (fun _=>()) P w 0 (fun _=>true) false Z t a.toList=some (d,p))∧∃q,DataW.LaidVars P w r q:=by
 obtain⟨g,B,z,Z,p,q,b,e,v,o,s,_⟩:=h;obtain rfl:=pB (i.symm.trans b);obtain rfl:=pB (u.symm.trans e);refine⟨?_,q,s⟩;simp only[World.var?,i,pR]at v;obtain⟨a,y,f,j⟩:∃a y f,w.heap[k]?=some (.cells a y f):=by
  split at v
  ·rename_i c t l m;exact⟨c,t,l,m⟩
  ·cases v
 rw[j]at v;obtain rfl:=pB v;exact⟨a,y,f,Z,p,j,o⟩
section
variable {V:Type}{enc:kF×kA→V}{P:kD}{Y:Nat→Bool}{X:Bool}{Z:Nat}{e:kF}
def aDx {x:DataW V×kC MemPlace}(g:P.underlying e=some (.int .u8))(h:DataW.trod enc P W base Y X Z e a=some x):∃n:Nat,a=[iU (n:Int)]∧x.1=.lit (.int .u8 (n:Int)):=by
 obtain⟨n,c,d,f⟩:=DataW.trod_int g h;have q:IntKind.u8.min≤n∧n≤IntKind.u8.max:=by simpa[Lit.wf]using f
 have m:IntKind.u8.min=0:=rfl;have b:((n.toNat:Nat):Int)=n:=Int.toNat_of_nonneg (by omega);exact⟨n.toNat,by rw[b];exact c,by rw[b,d]⟩
def arr_bytes {x:DataW V×kC MemPlace}(u:P.underlying t=some (.array n e))(q:P.underlying e=some (.int .u8))(p:P.cellsOf e=1)(f:P.cellsOf t=n)(h:DataW.trod enc P W base Y X Z t a=some x):
 a.length=n∧∃s:kC (DataW V),x.1=.agg s∧∀i,i<n→∃b:Nat,a[i]?=some (iU (b:Int))∧s[i]?=some (.lit (.int .u8 (b:Int))):=by
 obtain⟨y,m,_,v,c,w,g⟩:=DataW.trod_array u h;refine⟨by rw[c,f],y.map (·.1),by rw[v],fun i r=>?_⟩;have d:=g i r;rw[p,tA]at d;have j:y[i]?=some y[i]:=kZ (by omega);rw[j]at d;obtain⟨b,k,o⟩:=aDx q d;refine⟨b,?_,by rw[pL,j];exact sX some o⟩;have:=sX (fun l:kC kA=>l[0]?) k;simpa using this
def arr_pairs {fs:kH Field}{x:DataW V×kC MemPlace}(ht:P.underlying t=some (.array n s))(hs:P.underlying s=some (.struct fs))(U:∃f,fs[0]?=some f∧f.type=e∧f.offset=0)(h1:∃f,fs[1]?=some f∧f.type=e∧f.offset=1)(he:P.underlying e=some (.int .u8))(hc:P.cellsOf e=1)(r:P.cellsOf s=2)(u:P.cellsOf t=2*n)(h:DataW.trod enc P W base Y X Z t a=some x):
 a.length=2*n∧∃K:kC (DataW V),x.1=.agg K∧∀i,i<2*n→∃(b:Nat) (c:kC (DataW V)),a[i]?=some (iU (b:Int))∧K[i / 2]?=some (.agg c)∧c[i%2]?=some (.lit (.int .u8 (b:Int))):=by
 obtain⟨y,m,_,hx,d,hn,v⟩:=DataW.trod_array ht h;refine⟨by rw[d,u],y.map (·.1),by rw[hx],fun i hi=>?_⟩;have p:=v (i / 2) (by omega);rw[r]at p;have J:y[i / 2]?=some y[i / 2]:=kZ (by omega);rw[J]at p;obtain⟨c,k,_,E,_,hz,hf⟩:=DataW.trod_struct hs p;have D:(y.map (·.1))[i / 2]?=some (.agg (c.map (·.1))):=by rw[pL,J];exact sX (fun z=>some z.1) E
 have one:∀{j:Nat} {f:Field},fs[j]?=some f→f.type=e→f.offset=j→i%2=j→∃(b:Nat) (c:kC (DataW V)),a[i]?=some (iU (b:Int))∧(y.map (·.1))[i / 2]?=some (.agg c)∧c[i%2]?=some (.lit (.int .u8 (b:Int))):=by
  intro j f I C o B;have G:=hf j f I;have w:j<c.length:=by rw[hz];exact(sT.1 I).1
  have g:c[j]?=some c[j]:=kZ w;rw[g,C,hc,o]at G;obtain⟨b,R,S⟩:=aDx he G;refine⟨b,c.map (·.1),?_,D,by rw[B,pL,g];exact sX some S⟩;have q:=sX (fun l:kC kA=>l[0]?) R;simp only[pM]at q;rw[sK,kM (by omega),sL,sK,kM (by omega),sL]at q;rw[←q];congr 1;omega
 obtain⟨f0,L,N,Q⟩:=U;obtain⟨f1,M,O,c1⟩:=h1;by_cases B:i%2=0
 ·exact one L N Q B
 ·exact one M O c1 (by omega)
end
def mu3:Mu:=fun id=>if id=1 then some ⟨1,0,0,256⟩else if id=2 then some ⟨2,0,0,32⟩else if id=0 then some ⟨0,0,0,0⟩else none
def h3 (x A:kC Nat):AM.H:=((⟨.nil,3⟩:AM.H).put 1 (.cells (gR x) none)).put 2 (.cells (gR A) none)
def vK (x A:kC Nat)(id:Nat):(h3 x A).get id=if id=2 then some (.cells (gR A) none)else if id=1 then some (.cells (gR x) none)else none:=by
 unfold h3;rw[H.get_put,H.get_put];rfl
def aOg {id:Nat}{l:AM.Loc}(h:mu3 id=some l):id<3∧l.blk=id∧l.off=0∧(id=1→l.size=256)∧(id=2→l.size=32):=by
 unfold mu3 at h;split at h
 ·subst_vars;cases h;exact⟨by omega,rfl,rfl,fun _=>rfl,fun h=>by omega⟩
 split at h
 ·subst_vars;cases h;exact⟨by omega,rfl,rfl,fun h=>by omega,fun _=>rfl⟩
 split at h
 ·subst_vars;cases h;exact⟨by omega,rfl,rfl,fun h=>by omega,fun h=>by omega⟩
 ·cases h
def ro3 {s A:kC Nat}{j c1:kH kA}{y u:kF}{w B:Nat×Nat}(m:s.length=256)(J:A.length=32)(Q:2<W.heap.size)(E:W.heap[1]?=some (.cells j y w))(G:W.heap[2]?=some (.cells c1 u B))(s0:j.size=256)(M:c1.size=32)(C:∀(i x:Nat),s[i]?=some x→j[i]?=some (iU (x:Int)))(D:∀(i x:Nat),A[i]?=some x→c1[i]?=some (iU (x:Int))):RO 3 mu3 (h3 s A) W:=by
 have d:∀{l:kC Nat} {c:kH kA},(∀(i x:Nat),l[i]?=some x→c[i]?=some (iU (x:Int)))→∀(i:Nat) (v:kA),(gR l)[i]?=some v→∃q,c[0+i]?=some q∧VR mu3 v q∧cellish v=true:=by
  intro l c e i v f;simp only[gR,pL,sZ]at f;obtain⟨x,m,rfl⟩:=f;exact⟨_,by rw[sR];exact e i x m,.int _ _,rfl⟩
 refine⟨⟨kQ _,fun id b h=>?_,fun id b l h K=>?_,fun id b l L N R h r=>?_,fun id l h=>?_,fun g O=>?_⟩,fun id b h=>?_,fun id a=>?_⟩
 ·rw[vK]at h;show id<3;split at h
  ·omega
  ·split at h
   ·omega
   ·cases h
 ·obtain⟨_,k,o,n,p⟩:=aOg K;rw[vK]at h;split at h
  ·rename_i a;obtain rfl:=pB h;have z:=p a;refine⟨c1,u,B,by rw[k,a];exact G,by rw[z,M],by rw[o,z];simp[gR,J],fun i v f=>?_,⟨fun h=>by(cases h),fun _ h=>by(cases h)⟩⟩;rw[o];exact d D i v f
  ·split at h
   ·rename_i a;obtain rfl:=pB h;have z:=n a;refine⟨j,y,w,by rw[k,a];exact E,by rw[z,s0],by rw[o,z];simp[gR,m],fun i v f=>?_,⟨fun h=>by(cases h),fun _ h=>by(cases h)⟩⟩;rw[o];exact d C i v f
   ·cases h
 ·rw[vK]at h;split at h
  ·obtain rfl:=pB h;cases r
  ·split at h
   ·obtain rfl:=pB h;cases r
   ·cases h
 ·obtain⟨a,k,_⟩:=aOg h;rw[k];omega
 ·have I:g=0∨g=1∨g=2:=by omega
  rcases I with rfl|rfl|rfl
  ·exact⟨_,rfl,rfl,rfl⟩
  ·exact⟨_,rfl,rfl,rfl⟩
  ·exact⟨_,rfl,rfl,rfl⟩
 ·rw[vK]at h;split at h
  ·obtain rfl:=pB h;rfl
  ·split at h
   ·obtain rfl:=pB h;rfl
   ·cases h
 ·have a:3≤id:=a;unfold mu3;rw[kL (by omega),kL (by omega),kL (by omega)]
def qE:∀l:kC Nat,cQ (gR l)=true
 |[]=>rfl
 |_::r=>qE r
def cKy (x A:kC Nat):aKj 3 (h3 x A):=⟨rfl,fun id b h=>by
 rw[vK]at h;split at h
 ·obtain rfl:=pB h;exact⟨by omega,_,rfl,qE _⟩
 ·split at h
  ·obtain rfl:=pB h;exact⟨by omega,_,rfl,qE _⟩
  ·cases h⟩
def law_calls {V:Type}{enc:kF×kA→V}(Q:RO 3 mu3 (h3 Go.Pinned.utf8FirstZ RA) W)(p:0<W.heap.size)(z:aL prog=true)(w:prog.follows .mixedOrders=true)(J:iB prog=true){args:kH kA}{u:kC (DataW V)}{i:Nat}(d:∀t∈[22],okT prog n t=true)(N:∀(j:Nat) t v,[22][j]?=some t→args.toList[j]?=some v→Value.okWide prog W .any i t v)(M:DataW.TrodAll enc prog W base (fun _=>true) true [22] args.toList u B):
 Calls prog 3 args W fun e W'=>e=.returned (.bool true)∧Below W.heap.size W W':=by
 obtain⟨μ,h,D,r,e,l,y⟩:=aEf (NG:=3) p [22] args.toList u B d N M _ _ Q;obtain⟨x0,rfl,R⟩:∃a,D=[a]∧TyV prog h 22 a:=by
  match D,y with
  |[a],ty=>exact⟨a,rfl,ty.1⟩
 obtain⟨ls,s0,m,o,s⟩:=bKv R;have c:=cKy Go.Pinned.utf8FirstZ RA;have q:aMh (h3 Go.Pinned.utf8FirstZ RA) RA:=⟨kQ _,by rw[vK,kL (by omega),kM rfl],by rw[vK,kM rfl],rfl⟩;have E:HasT (h3 Go.Pinned.utf8FirstZ RA) h:=fun id b G=>e.2.1 id b G;have C:=aJt z w J (cEc c);have k:=cJn aOf q c;have x:=bVe q c;have g:aJx RA=cA:=funext bKr;rw[aZt k,aZq k,aZa k,g]at x;obtain⟨dm,rl,O,L,K⟩:=W3 x (bVd bFa) C (fun h=>bAl h) E e.2.2 s0 m o s;refine(qT z w C O K r.rh r.fr l).mono ?_;rintro e' w' ⟨v,h',rfl,U,S,I,f,g⟩;have:=g.bool_inv;subst this;exact⟨I,f.below r.ro⟩
end Go.Proofs.YtbmdhjdgpeleoaaGreatDoor.Ra
