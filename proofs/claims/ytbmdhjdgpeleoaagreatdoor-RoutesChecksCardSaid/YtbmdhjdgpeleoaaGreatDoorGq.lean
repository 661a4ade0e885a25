import Derived.Test.YtbmdhjdgpeleoaaGreatDoorGm
import Derived.Test.YtbmdhjdgpeleoaaGreatDoorGd
import Derived.Carry
import Derived.ProofKit
import Derived.OpenShut
import Derived.WalkKit
set_option linter.defProp false
namespace Go.AM
open Go Go.RowKit Go.ChangeShapes Go.WideShapes Go.ChangeAt
variable {h:H}{i n nt:Nat}{a:kC kA}
section
variable {H:Type}{enc:kF×kA→H}
def tC {P:kD}(f:laidOutB P=true){w W:kE}(e:Below w.heap.size w W):∀(ts:kC kF) (vs:kC kA) (ds:kC (DataW H)) (ps:kC MemPlace),
 (∀t∈ts,P.readableRec t=true∧t<P.types.size)→DataW.TrodAll enc P w 0 (fun _=>true) true ts vs ds ps→
 DataW.TrodAll enc P W 0 (fun b=>decide (b<w.heap.size)) true ts vs ds ps
 |[],vs,ds,ps,_,h=>by
  obtain⟨rfl,rfl,rfl⟩:=trodAll_nil h;exact trodAll_mk0
 |t::ts,vs,ds,ps,ht,h=>by
  have l:=h.lt;obtain⟨v,c,d,s,p,q,rfl,rfl,rfl,g,i⟩:=trodAll_cons h;exact⟨p,q,Below.trod f (ht t (by simp)).1 (ht t (by simp)).2 g e (fun x j=>l x (by simp[j])),tC f e ts c s q (fun t a=>ht t (by simp[a])) i,rfl⟩
def xA {P:kD}{w:kE}{base:Nat}{s:Nat→Bool}{J:Bool}:∀(ts:kC kF) (vs:kC kA) (ds:kC (DataW H)) (ps:kC MemPlace),DataW.TrodAll enc P w base s J ts vs ds ps→ds.length=ts.length
 |[],vs,ds,ps,h=>by obtain⟨rfl,rfl,rfl⟩:=trodAll_nil h;rfl
 |t::ts,vs,ds,ps,h=>by
  obtain⟨v,b,d,a,p,q,rfl,rfl,rfl,e,c⟩:=trodAll_cons h;simp[xA ts b a q c]
end
section
variable {P:kD}{NG:Nat}
def iP (P:kD)(f:kI)(a:kC kA)(v:kA):Prop:=
 (∃n c,P.funcs[f]?=some n∧n.body=some c∧n.name≠ "runtime.NumGoroutine")∧eU a=true∧aJ v=true∧
 ∀w:kE,Calls P f ⟨a⟩ w fun e b=>e=.returned v∧Below w.heap.size w b
abbrev Orc:=kI→kC kA→kB kA
def aK (P:kD)(NG:Nat)(Q:Orc):Nat→CF
 |0=>fun _ _ _=>none
 |n+1=>fun f a h=>
  match Q f a with
  |some v=>some (v,h)
  |none=>
   match P.funcs[f]? with
   |none=>none
   |some b=>match b.body with
    |none=>tT (xS b) a h
    |some c=>fR P (aK P NG Q n) n NG b c a h fun v h=>some (v,h)
def rA (z:aL P=true)(K:P.follows .mixedOrders=true)(o:iB P=true){Q:Orc}(E:∀f a v,Q f a=some v→iP P f a v):∀(n:Nat),aO P NG (aK P NG Q n):=by
 intro n
 induction n with
 |zero=>intro f a h v D r;simp[aK]at r
 |succ n M=>
  intro f a h v D r;simp only[aK]at r
  cases y:Q f a with
  |some u=>
   rw[y]at r;simp only[kP,kW]at r;obtain⟨rfl,rfl⟩:=r;obtain⟨⟨q,c,b,t,g⟩,G,L,m⟩:=E _ _ _ y;have x:=(nL o b).2;refine⟨kQ _,fun _=>⟨q,b,g,.inl ⟨⟨c,t⟩,fun B w p N _ J=>?_⟩⟩,fun id U e=>dC x (aCk e)⟩;have:=J.eq_of_plain G;subst this;exact(m w).mono fun e V ⟨I,s⟩=>⟨u,B,I,Step.ofBelow N s,VR.of_plain B u L⟩
  |none=>
  rw[y]at r;simp only[]at r;split at r
  ·cases r
  ·rename_i q b;split at r
   ·rename_i s;exact aDp o b s r
   ·rename_i c m;unfold fR at r;obtain⟨l,r⟩:=aB r;have l:=ble_iff.1 l;obtain⟨C,R,S,k,i⟩:=lJ z K M (nt:=q.ntmps) c _ _ _ _ _ _ r
    cases C with
    |exit j=>simp[yV]at k
    |normal=>
     simp only[yV]at k;obtain⟨O,d,k⟩:=bind_some k;simp only[kP,kW]at k;obtain⟨rfl,rfl⟩:=k;exact oI o b m l i (.inl rfl) d
    |ret=>
     simp only[yV]at k;obtain⟨O,d,k⟩:=bind_some k;simp only[kP,kW]at k;obtain⟨rfl,rfl⟩:=k;exact oI o b m l i (.inr rfl) d
def aFa {f:kI}{v:kA}(z:aL P=true)(D:P.follows .mixedOrders=true)(r:iB P=true)(q:∃g c,P.funcs[f]?=some g∧g.body=some c∧g.name≠ "runtime.NumGoroutine")(o:eU a=true)(t:aJ v=true)(J:aK P 0 (fun _ _=>none) n f a ⟨.nil,0⟩=some (v,h)):iP P f a v:=by
 refine⟨q,o,t,fun w=>?_⟩;obtain⟨g,c,d,p,_⟩:=q;obtain⟨_,l,_⟩:=rA (NG:=0) z D r (Q:=fun _ _=>none) (fun _ _ _ e=>nomatch e) n f a _ _ _ J
 obtain⟨u,b,_,⟨_,l⟩|⟨j,_⟩⟩:=l (nL r d).2
 case inr=>rw[d]at b;simp only[kP]at b;subst b;rw[j]at p;simp at p
 refine(l (fun _=>none) w a (RH.nothing w) (fun _ _ _=>rfl) (LR.of_plain_mem _ fun G x=>?_)).mono fun e K ⟨I,E,y,s,m⟩=>?_
 ·obtain⟨i,B⟩:=mM.1 x;exact fD a o i G B
 ·have:=m.eq_of_plain t;subst this;exact⟨y,s.below fun id k C=>by simp[H.get]at C⟩
def aUs {Q:Orc}{R:kC Tmp}{b:Func}{c:Code}(e:Q n a=none)(k:P.funcs[n]?=some b)(j:b.body=some c)(d:b.ntmps=nt)(r:jC b=R)(l:Nat.ble a.length nt=true){f:T kA}(g:nH 0 a=f):
 aK P NG Q (i+1) n a h=execK P (aK P NG Q i) i NG nt R c R [] f h (yV P b fun v h=>some (v,h)):=by
 subst d;subst r;subst g;simp only[aK,e,k,j,fR,l,sV]
abbrev Tab:=kC (kI×kC kA×kA)
def Tab.orc (t:Tab):Orc:=fun f a=>(t.find? fun e=>Nat.beq e.1 f&&sameL e.2.1 a).map fun e=>e.2.2
def Tab.none {t:Tab}{f:kI}(h:(t.all fun e=>!Nat.beq e.1 f)=true)(args:kC kA):t.orc f args=Option.none:=by
 unfold Tab.orc;rw[List.find?_eq_none.2];rfl;intro e a;have:=mB.1 h e a;simp only[Bool.not_eq_true']at this;rw[this,mG];simp
noncomputable def okE (P:kD)(n:Nat)(e:kI×kC kA×kA):Bool:=
 (match P.funcs[e.1]? with|some f=>f.body.isSome&&!(f.name== "runtime.NumGoroutine")|none=>false)&&(eU e.2.1&&(aJ e.2.2&&(match aK P 0 (fun _ _=>none) n e.1 e.2.1 ⟨.nil,0⟩with|some (v,_)=>same v e.2.2|none=>false)))
def aAp (z:aL P=true)(m:P.follows .mixedOrders=true)(k:iB P=true){e:kI×kC kA×kA}(h:okE P n e=true):iP P e.1 e.2.1 e.2.2:=by
 unfold okE at h;simp only[pA]at h;obtain⟨a,g,h3,b⟩:=h;have j:∃f c,P.funcs[e.1]?=some f∧f.body=some c∧f.name≠ "runtime.NumGoroutine" :=by
  split at a
  ·rename_i f d;simp only[pA]at a;obtain⟨c,i⟩:=Option.isSome_iff_exists.1 a.1;exact⟨f,c,d,i,by simpa using a.2⟩
  ·cases a
 split at b
 ·rename_i v l r;have:=lV _ _ b;subst this;exact aFa z m k j g h3 r
 ·cases b
def Tab.closed {t:Tab}(h:∀e∈t,iP P e.1 e.2.1 e.2.2):∀f a v,t.orc f a=some v→iP P f a v:=by
 intro f a v b;unfold Tab.orc at b
 cases c:t.find? (fun e=>Nat.beq e.1 f&&sameL e.2.1 a)with
 |none=>rw[c]at b;cases b
 |some e=>
  rw[c]at b;have m:=List.mem_of_find?_eq_some c;have p:=List.find?_some c;simp only[pA]at p;have d:=beq_iff.1 p.1;have g:=aBn _ _ p.2;have i:e.2.2=v:=pB b;subst d;subst g;subst i;exact h e m
end
end Go.AM
set_option linter.unusedVariables false
namespace Go.AM.Pk
open Go Go.AM
section
abbrev V:=kA
abbrev O (a:Type):=kB a
abbrev KK (a:Type):=Ex→T kA→H→O a
def gk:Nat→Code→Nat→Code
 |0,c,_=>c
 |f+1,c,n=>bif Nat.ble n 1 then c else bif Nat.beq (n%2) 0 then cL (gk f c (n / 2))else cR (gk f c (n / 2))
def g (c:Code)(n:Nat):Code:=gk 64 c n
def gB (c:kB Code)(n:Nat):Code:=gk 64 (c.getD .skip) n
def cX:Code→kK
 | .cond x _ _=>x
 |_=>.const .nilFunc
abbrev Lw {Y:Type}(P:kD)(C:CF)(L G nt:Nat)(R:kC Tmp)(c:Code)(S:kC Tmp)(env:kC (Nat×kC Tmp))(n:Nat)(f:T kA)(h:H)(K:KK Y):O Y:=lN (fun f h K=>execK P C L G nt R c S env f h K) n f h K
abbrev K0 (a:Type):=H→O a
abbrev K1 (a:Type):=V→K0 a
abbrev K2 (a:Type):=V→K1 a
abbrev K3 (a:Type):=V→K2 a
abbrev K4 (a:Type):=V→K3 a
abbrev K5 (a:Type):=V→K4 a
abbrev K6 (a:Type):=V→K5 a
abbrev K7 (a:Type):=V→K6 a
abbrev K8 (a:Type):=V→K7 a
abbrev K9 (a:Type):=V→K8 a
abbrev K10 (a:Type):=V→K9 a
abbrev K11 (a:Type):=V→K10 a
variable {β:Type}{P:kD}{C:CF}{L G nt:Nat}{S Z l':kC Tmp}{env:kC (Nat×kC Tmp)}{fr J:T kA}{h:H}{K:KK β}{c:Code}{m:Nat}{Y U:O β}{v:V}
abbrev S1 (k:T kA→H→O β)(K:KK β):KK β:=fun e fr h=>aHr e k K fr h
def exS (P:kD)(C:CF)(L G nt:Nat)(S Z:kC Tmp)(env:kC (Nat×kC Tmp)){β:Type}(K:KK β):Nat→Code→T kA→H→(T kA→H→O β)→O β
 |0,_,fr,h,k=>k fr h
 |j+1,c,fr,h,k=>execK P C L G nt S (cL c) (live S (cR c) Z env) env fr h (S1 (fun fr h=>exS P C L G nt S Z env K j (cR c) fr h k) K)
def tl:Nat→Nat→Nat
 |0,m=>m
 |j+1,m=>tl j (2*m+1)
def tlC:Nat→Code→Code
 |0,c=>c
 |j+1,c=>tlC j (cR c)
def isq:Nat→Code→Bool
 |0,_=>true
 |j+1,.seq _ b=>isq j b
 |_,_=>false
def yT {d:Code}:∀(j:Nat) (c:Code) (fr:T kA) (h:H),isq j c=true→tlC j c=d→execK P C L G nt S c Z env fr h K=exS P C L G nt S Z env K j c fr h (fun fr h=>execK P C L G nt S d Z env fr h K)
 |0,c,fr,h,_,e=>by cases e;rfl
 |j+1,.seq a b,fr,h,hj,e=>by
  show execK P C L G nt S a (live S b Z env) env fr h (S1 (fun fr h=>execK P C L G nt S b Z env fr h K) K)=execK P C L G nt S a (live S b Z env) env fr h (S1 (fun fr h=>exS P C L G nt S Z env K j b fr h _) K);rw[show(fun fr h=>execK P C L G nt S b Z env fr h K)=fun fr h=>exS P C L G nt S Z env K j b fr h (fun fr h=>execK P C L G nt S d Z env fr h K)from funext fun fr=>funext fun h=>yT j b fr h hj e]
def Kn (β:Type):Nat→Type
 |0=>H→O β
 |n+1=>V→Kn β n
def Mg (k:T kA→H→O β):(l:kC Nat)→kC (Nat×V)→Kn β l.length
 |[],a=>fun h=>k (fs a) h
 |i::l,a=>fun x=>Mg k l (a++[(i,x)])
def M (k:T kA→H→O β)(l:kC Nat):Kn β l.length:=Mg k l []
def N (K:KK β)(l:kC Nat):Kn β l.length:=M (K .normal) l
def R (K:KK β)(l:kC Nat):Kn β l.length:=M (K .ret) l
def X (K:KK β)(id:Nat)(l:kC Nat):Kn β l.length:=M (K (.exit id)) l
def Zn:(n:Nat)→Kn β n
 |0=>fun _=>none
 |n+1=>fun _=>Zn n
def y (j:Nat)(l:kC Nat){A:Kn β l.length→O β}{B:Kn β l.length}(e:∀k,exS P C L G nt S Z env K j (g c m) fr h k=A (M k l))(b:M (fun fr h=>execK P C L G nt S (g c (tl j m)) Z env fr h K) l=B)(a:(isq j (g c m),tlC j (g c m))=(true,g c (tl j m))):execK P C L G nt S (g c m) Z env fr h K=A B:=by
 obtain⟨a,d⟩:=Prod.mk.inj a;exact((yT j _ _ _ a d).trans (e _)).trans (sX A b)
def Q (l' l:kC Nat){A:Kn β l.length→O β}{B:Kn β l.length}(e:∀k,execK P C L G nt S (g c (2*m)) l' env fr h (S1 k K)=A (M k l))(b:M (fun fr h=>execK P C L G nt S (g c (2*m+1)) Z env fr h K) l=B)(a:(g c m,live S (g c (2*m+1)) Z env)=(.seq (g c (2*m)) (g c (2*m+1)),l')):execK P C L G nt S (g c m) Z env fr h K=A B:=by
 obtain⟨d,a⟩:=Prod.mk.inj a;subst a;rw[d];exact(e _).trans (sX A b)
def q (l:kC Nat){A:Kn β l.length→O β}{B:Kn β l.length}(e:∀k,execK P C L G nt S (g c (2*m)) l env fr h (S1 k K)=A (M k l))(a:M (fun fr h=>execK P C L G nt S (g c (2*m+1)) Z env fr h K) l=B)(b:(g c m,live S (g c (2*m+1)) Z env)=(.seq (g c (2*m)) (g c (2*m+1)),l)):execK P C L G nt S (g c m) Z env fr h K=A B:=Q l l e a b
def aNq {f:Nat→T kA→H→O β}:∀{l:kC Nat} {a:kC (Nat×V)},(∀fr h,f 0 fr h=none)→Mg (f 0) l a=Zn l.length
 |[],_,h=>funext fun b=>h _ b
 |_::_,_,h=>funext fun _=>aNq h
def lw (a l:kC Nat){W:Nat→Kn β l.length}{F:Kn β l.length→Kn β l.length}(b:W 0=Zn l.length)(s:∀n,W (n+1)=F (W n))(e:∀k,M (fun fr h=>execK P C L G nt S c a env fr h (S1 k K)) l=F (M k l)):∀n,M (fun fr h=>Lw P C L G nt S c a env n fr h K) l=W n:=by
 intro n;induction n with
 |zero=>rw[b];exact aNq (f:=fun n fr h=>Lw P C L G nt S c a env n fr h K) fun _ _=>rfl
 |succ n i=>rw[s,←i];exact e _
def s0 (l':kC Tmp)(e:∀k,execK P C L G nt S (g c (2*m)) l' env fr h (S1 k K)=U)(l:(g c m,live S (g c (2*m+1)) Z env)=(.seq (g c (2*m)) (g c (2*m+1)),l')):execK P C L G nt S (g c m) Z env fr h K=U:=by obtain⟨a,l⟩:=Prod.mk.inj l;subst l;rw[a];exact e _
def bk (id:Nat)(e:execK P C L G nt S (g c (2*m)) Z ((id,Z)::env) fr h (fun x f a=>nX id x K f a)=Y)(b:g c m=.block id (g c (2*m))):execK P C L G nt S (g c m) Z env fr h K=Y:=by rw[b];exact e
def sc (e:execK P C L G nt S (g c (2*m)) Z env fr h K=Y)(a:g c m=.scope (g c (2*m))):execK P C L G nt S (g c m) Z env fr h K=Y:=by rw[a];exact e
def cd (e:execK P C L G nt S (g c (2*m)) Z env fr h K=Y)(f:execK P C L G nt S (g c (2*m+1)) Z env fr h K=U)(d:(g c m,aH G fr h (cX (g c m)))=(.cond (cX (g c m)) (g c (2*m)) (g c (2*m+1)),some v)):execK P C L G nt S (g c m) Z env fr h K=aP v Y U:=by
 obtain⟨d,i⟩:=Prod.mk.inj d;rw[aLk (a:=g c (2*m)) (b:=g c (2*m+1)) (x:=cX (g c m)) (v:=v) d i,e,f]
def lp (e:Lw P C L G nt S (g c (2*m)) l' env L J h K=Y)(a:(g c m,live S (g c (2*m)) [] env,bY fr l')=(.loop (g c (2*m)),l',J)):execK P C L G nt S (g c m) Z env fr h K=Y:=by
 obtain⟨b,a⟩:=Prod.mk.inj a;obtain⟨a,f⟩:=Prod.mk.inj a;subst a;subst f;rw[b];exact e
def tq {Q:Orc}{n i:Nat}{f:Func}{a:kC kA}(j:Q n a=none)(l:P.funcs[n]?=some f){Y U:kB (kA×H)}(e:execK P (aK P G Q i) i G nt S c S [] fr h (yV P f fun v h=>some (v,h))=Y)(d:(f.body,f.ntmps,jC f,Nat.ble a.length nt,nH 0 a,Y)=(some c,nt,S,true,fr,U)):aK P G Q (i+1) n a h=U:=by
 obtain⟨d,b⟩:=Prod.mk.inj d;obtain⟨g,b⟩:=Prod.mk.inj b;obtain⟨r,b⟩:=Prod.mk.inj b;obtain⟨o,b⟩:=Prod.mk.inj b;obtain⟨k,w⟩:=Prod.mk.inj b;exact((aUs j l d g r o k).trans e).trans w
abbrev r0:T kA:=(fs [])
def w0 {f g:K0 β}(e:∀h,f h=g h):f=g:=funext e
abbrev r1 (a:Nat)(x:V):T kA:=(fs [(a,x)])
def w1 {f g:K1 β}(e:∀a h,f a h=g a h):f=g:=funext fun x=>w0 (e x)
def c1 {f g:K1 β}(e:f=g)(x:V)(h:H):f x h=g x h:=by rw[e]
abbrev r2 (a b:Nat)(x d:V):T kA:=(fs [(a,x),(b,d)])
def w2 {f g:K2 β}(e:∀a b h,f a b h=g a b h):f=g:=funext fun x=>w1 (e x)
def c2 {f g:K2 β}(e:f=g)(x a:V)(h:H):f x a h=g x a h:=by rw[e]
abbrev r3 (a b d:Nat)(x e f:V):T kA:=(fs [(a,x),(b,e),(d,f)])
def w3 {f g:K3 β}(e:∀a b d h,f a b d h=g a b d h):f=g:=funext fun x=>w2 (e x)
def c3 {f g:K3 β}(e:f=g)(x a b:V)(h:H):f x a b h=g x a b h:=by rw[e]
abbrev r4 (a b d e:Nat)(x0 x1 x x3:V):T kA:=(fs [(a,x0),(b,x1),(d,x),(e,x3)])
def w4 {f g:K4 β}(e:∀a b d i h,f a b d i h=g a b d i h):f=g:=funext fun x=>w3 (e x)
def c4 {f g:K4 β}(e:f=g)(x a b d:V)(h:H):f x a b d h=g x a b d h:=by rw[e]
abbrev r5 (a b d e f:Nat)(x g i j k:V):T kA:=(fs [(a,x),(b,g),(d,i),(e,j),(f,k)])
def w5 {f g:K5 β}(e:∀a b d i j h,f a b d i j h=g a b d i j h):f=g:=funext fun x=>w4 (e x)
def c5 {f g:K5 β}(e:f=g)(x a b d i:V)(h:H):f x a b d i h=g x a b d i h:=by rw[e]
abbrev r6 (a b d e f i:Nat)(x g j k l n:V):T kA:=(fs [(a,x),(b,g),(d,j),(e,k),(f,l),(i,n)])
def w6 {f g:K6 β}(e:∀a b d i j k h,f a b d i j k h=g a b d i j k h):f=g:=funext fun x=>w5 (e x)
def c6 {f g:K6 β}(e:f=g)(x a b d i j:V)(h:H):f x a b d i j h=g x a b d i j h:=by rw[e]
abbrev r7 (a b d e f i l:Nat)(x g j k n o p:V):T kA:=(fs [(a,x),(b,g),(d,j),(e,k),(f,n),(i,o),(l,p)])
def w7 {f g:K7 β}(e:∀a b d i j k l h,f a b d i j k l h=g a b d i j k l h):f=g:=funext fun x=>w6 (e x)
abbrev r8 (a b d e f i l o:Nat)(x g j k n p q r:V):T kA:=(fs [(a,x),(b,g),(d,j),(e,k),(f,n),(i,p),(l,q),(o,r)])
def w8 {f g:K8 β}(e:∀a b d i j k l n h,f a b d i j k l n h=g a b d i j k l n h):f=g:=funext fun x=>w7 (e x)
def c8 {f g:K8 β}(e:f=g)(x a b d i j k l:V)(h:H):f x a b d i j k l h=g x a b d i j k l h:=by rw[e]
def w9 {f g:K9 β}(e:∀a b d i j k l n o h,f a b d i j k l n o h=g a b d i j k l n o h):f=g:=funext fun x=>w8 (e x)
abbrev r10 (a b d e f i l o p s:Nat)(x g j k n q r t u w:V):T kA:=(fs [(a,x),(b,g),(d,j),(e,k),(f,n),(i,q),(l,r),(o,t),(p,u),(s,w)])
def w10 {f g:K10 β}(e:∀a b d i j k l n o p h,f a b d i j k l n o p h=g a b d i j k l n o p h):f=g:=funext fun x=>w9 (e x)
def w11 {f g:K11 β}(e:∀b d i j k l n o p q a h,f b d i j k l n o p q a h=g b d i j k l n o p q a h):f=g:=funext fun x=>w10 (e x)
def c11 {f g:K11 β}(e:f=g)(a b d i j k l n o p x:V)(h:H):f a b d i j k l n o p x h=g a b d i j k l n o p x h:=by rw[e]
end
end Go.AM.Pk
namespace Go.AM
open Go Go.RowKit
variable {J:Bool}{c:Code}{h:H}{M μ0:Mu}{L NG n q:Nat}{D:Nat→Bool}{o:Oper}{f fr:T kA}{K:T kA→H→kB Unit}{Y:Type}{v:kA}{r:kA×H}{X:kA→H→Prop}{l:kC (kA×H)}{RR p:kC Tmp}{a cs:kC kA}{P:kD}{W w:kE}{t:kF}{O ops:kH Oper}{Q g:kI}{d dom j:kI→kC kA→H→Prop}{R e:kI→kC kA→H→kA→H→Prop}{G:kK→kB kA}
def SF (a:Mu)(h:H):Prop:=∀id,h.next≤id→a id=none
def SF.step {U:Mu}{j:H}(f:SF M h)(s:Step NG M h w U j W):SF U j:=fun id i=>by
 rw[s.out id i];exact f id (kR s.next i)
def SF.fresh (f:SF M h)(N:Nat):Fresh M h.next N:=fun id a _=>f id a
def bP (isR:kI→Bool)(o:Oper):kB Bool:=
 match o.op with
 | .call c=>(match c.callee with
  | .value (.func g)=>some (isR g)
  | .builtin _=>some false
  |_=>none)
 |_=>some false
def lZ (C:CF)(isR:kI→Bool)(φ:kI→kC kA→H→kB (kA×H)):CF:=fun f a h=>bif isR f then φ f a h else C f a h
section
variable {nt:Nat}{C:CF}{isR:kI→Bool}{φ Z:kI→kC kA→H→kB (kA×H)}
def vW (s:bP isR o=some false)(j:T kA)(k h:H)(K:kB kA→H→kB Y):
 aop P (lZ C isR φ) (aH NG j k) h o K=aop P C (aH NG j k) h o K:=by
 unfold bP at s;unfold aop;split at s
 ·rename_i c i;simp only[i];split at s
  ·rename_i g d;simp only[kP]at s;have e:∀v,callM P (lZ C isR φ) (.func (.func g) ⟨[]⟩ ⟨[]⟩) v h=callM P C (.func (.func g) ⟨[]⟩ ⟨[]⟩) v h:=fun v=>by
    simp only[callM,callV,lZ,s,sW]
   simp only[d];have ev:aH NG j k (.func g)=some (.func (.func g) ⟨[]⟩ ⟨[]⟩):=rfl;rw[ev]
   cases eT (aH NG j k) c.args.toList with
   |none=>rfl
   |some v=>simp only[e]
  ·rename_i b d;simp only[d]
  ·cases s
 ·rename_i n
  cases i:o.op with
  |call c=>exact dC i (n c)
  |makeFunc f a b=>cases f<;>rfl
  |makeMap t r=>cases r<;>rfl
  |_=>rfl
structure RelOK (P:kD)(NG:Nat)(isR:kI→Bool)(dom:kI→kC kA→H→Prop)(R:kI→kC kA→H→kA→H→Prop):Prop where
 body:∀f,isR f=true→f<Y0∧∃fn c,P.funcs[f]?=some fn∧fn.body=some c∧fn.name≠ "runtime.NumGoroutine"
 call:∀f args h,isR f=true→dom f args h→∀(μ:Mu) (w:kE) (cargs:kC kA),RH NG μ h w→SF μ h→LR μ args cargs→
  Calls P f ⟨cargs⟩ w fun e w'=>∃v h',R f args h v h'∧nI NG μ h w v h' e w'
 mono:∀f args h v h',isR f=true→R f args h v h'→h.next≤h'.next
 tot:∀f args h,isR f=true→dom f args h→∃v h',R f args h v h'
def xH (K:RelOK P NG isR j R){c:Call}(l:o.op=.call c)(k:c.callee=.value (.func g))(J:isR g=true)(I:eT G c.args.toList=some a)(S:j g a h){t:Act}(Y:RH NG M h w)(sf:SF M h)(ev:EvR M G t)(q:kB Nat)(next:Act→kE→Prop)(Q:Exit→Act→kE→Prop)(V:∀v p i s n,R g a h v p→Step NG M h w i p s→VR i v n→next (t.put o.dst n) s):o.wpIn (Fr q) 0 P t w next Q:=by
 obtain⟨N,op,L,X,u,x⟩:=o;obtain⟨m,f,r⟩:=c;simp only at l k;subst l;subst k;obtain⟨_,fn,b,B,y,D⟩:=K.body g J;have z:t.eval (.func g)=.func (.func g) #[] #[]:=rfl;have e:((#[]:kH kA)++f.map t.eval++(#[]:kH kA))=⟨f.toList.map t.eval⟩:=by apply Array.ext';simp
 refine⟨fun _ _=>trivial,?_⟩;show Oper.uponIn (Fr q) 0 P _ t next Q ((Oper.semAt q t.eval _).run P w)
 rw[cV P (lF (c:=⟨.value (.func g),f,r⟩) rfl z B y D w) (fun d=>by simp) q];simp only[Oper.uponIn,e];exact⟨fun h=>by simp[Fr,Fence.wide]at h,callsIn_Fr.2 ((K.call g a h J S M w _ Y sf (jU ev _ _ I)).mono fun e s ⟨v,p,O,n,i,U,E,W⟩=>by
  subst U;exact V v p i s n O E W)⟩
def bE (P:kD)(C:CF)(NG:Nat)(isR:kI→Bool)(a:kI→kC kA→H→Prop)(R:kI→kC kA→H→kA→H→Prop)(ops:kH Oper):kC Oper→T kA→H→(T kA→H→Prop)→Prop
 |[],fr,h,K=>K fr h
 |o::rest,fr,h,K=>
  let r (fr:T kA):Prop:=
   match bP isR o,o.op with
   |some true,.call ⟨.value (.func g),args,_⟩=>∃s,eT (aH NG fr h) args.toList=some s∧a g s h∧∀v c,R g s h v c→bE P C NG isR a R ops rest (cS fr o.dst (some v)) c K
   |_,_=>∃e c,aop P C (aH NG fr h) h o aY=some (e,c)∧bE P C NG isR a R ops rest (cS fr o.dst e) c K
  match o.guard with
  |none=>r fr
  |some (j,want)=>match(ops[j]?).bind (·.dst)with
   |none=>False
   |some d=>match fr.get d with
    |some (.bool b)=>(match b==want with
     |true=>r (fr.set d (some (.bool b)))
     |false=>bE P C NG isR a R ops rest (cS (fr.set d (some (.bool b))) o.dst (some undef)) h K)
    |some (.tuple _)=>bE P C NG isR a R ops rest (cS fr o.dst (some undef)) h K
    |_=>False
def aCf (hzp:aL P=true)(hC:aO P NG C)(ok:RelOK P NG isR dom R)(hd:gC nt ops=true):
 ∀(l:kC Oper) (k:Nat) (fr:T kA) (h:H) (K:T kA→H→Prop),ops.toList.drop k=l→bE P C NG isR dom R ops l fr h K→
  ∀(μ:Mu) (a:Act) (w:kE),RH NG μ h w→SF μ h→FR nt μ fr a→
   ∀(ro:kB Nat) (Q:Exit→Act→kE→Prop),(∀a' w' fr' h',K fr' h'→tX NG nt μ h w a fr' h' a' w'→Q .normal a' w')→wpOpsIn (Fr ro) 0 P ops Q (List.range' k (ops.size-k)) a w:=by
 intro l
 induction l with
 |nil=>
  intro k fr h K hl hr μ a w rh _ f ro Q hQ;have hk:ops.size≤k:=by
   have:=sX List.length hl;simp at this;omega
  rw[show ops.size-k=0 by omega];exact hQ a w fr h hr ⟨μ,Step.refl rh,f,rfl⟩
 |cons o rest ih=>
  intro k fr h K hl hr μ a w rh sf f ro Q hQ;have hlt:k<ops.size:=by
   have:=sX List.length hl;simp at this;omega
  have ho:ops[k]?=some o:=by
   have:(ops.toList.drop k)[0]?=some o:=by rw[hl];rfl
   simpa using this
  have hrest:ops.toList.drop (k+1)=rest:=by
   have:(ops.toList.drop k).drop 1=rest:=by rw[hl];rfl
   rw[sG]at this;exact this
  have hdo:=aFv hd ho;have hrange:List.range' k (ops.size-k)=k::List.range' (k+1) (ops.size-(k+1)):=by
   rw[show ops.size-k=(ops.size-(k+1))+1 by omega,List.range'_succ]
  rw[hrange,wpOpsIn_cons];unfold wpOpIn;simp only[ho];have behind:∀(fr1:T kA) (rv:kB kA) (h1:H),FR nt μ fr1 a→bE P C NG isR dom R ops rest (cS fr1 o.dst rv) h1 K→∀(μ1:Mu) (w1:kE) (cv:kA),Step NG μ h w μ1 h1 w1→RV μ1 rv cv→
   wpOpsIn (Fr ro) 0 P ops Q (List.range' (k+1) (ops.size-(k+1))) (a.put o.dst cv) w1:=fun fr1 rv h1 f1 hr μ1 w1 cv hst hv=>
   ih (k+1) _ h1 K hrest hr μ1 _ w1 hst.rh (sf.step hst) ((f1.mono hst.le).put hdo hv) ro Q fun a' w' fr' h' hK ⟨μ2,hst2,f2,e2⟩=>hQ a' w' fr' h' hK ⟨μ2,hst.trans hst2,f2,e2.trans (gE _ _ _)⟩
  have run:∀(fr1:T kA),FR nt μ fr1 a→
   (match bP isR o,o.op with
    |some true,.call ⟨.value (.func g),args,_⟩=>∃vs,eT (aH NG fr1 h) args.toList=some vs∧dom g vs h∧∀v h',R g vs h v h'→bE P C NG isR dom R ops rest (cS fr1 o.dst (some v)) h' K
    |_,_=>∃rv h',aop P C (aH NG fr1 h) h o aY=some (rv,h')∧bE P C NG isR dom R ops rest (cS fr1 o.dst rv) h' K)→
   o.wpIn (Fr ro) 0 P a w (fun a' w'=>wpOpsIn (Fr ro) 0 P ops Q (List.range' (k+1) (ops.size-(k+1))) a' w') Q:=by
   intro fr1 f1 hr;split at hr
   ·rename_i g args argTypes hrel hop;obtain⟨vs,hvs,hdom,hout⟩:=hr;have hg:isR g=true:=by simpa[bP,hop]using hrel
    exact xH ok (c:=⟨.value (.func g),args,argTypes⟩) hop rfl hg hvs hdom rh sf (f1.ev rh) ro _ Q fun v h' μ' w' cv hR hst hv=>behind fr1 (some v) h' f1 (hout v h' hR) μ' w' cv hst hv
   ·obtain⟨rv,h1,hop,hrun⟩:=hr;obtain⟨rv',h',hk',hle,hs⟩:=gN hzp hC hop;simp only[aY,kP,kW]at hk';obtain⟨rfl,rfl⟩:=hk';exact hs μ a w rh (sf.fresh _) (f1.ev rh) ro _ _ fun μ1 w1 cv hst hv=>behind fr1 rv' h' f1 hrun μ1 w1 cv hst hv
  simp only[bE]at hr;split at hr
  ·rename_i hg;simp only[show Region.wanted o (yielded ops a.tmps)=true by simp[Region.wanted,hg],mE];exact run fr f hr
  ·rename_i j want hg;split at hr
   ·exact hr.elim
   ·rename_i d hdj;split at hr
    ·rename_i b hb;have hy:Region.wanted o (yielded ops a.tmps)=(b==want):=by
      simp only[Region.wanted,hg,f.yielded hdj hb];cases b<;>cases want<;>rfl
     split at hr
     ·rename_i hbw;simp only[hy,hbw,mE];exact run _ (f.same hb) hr
     ·rename_i hbw;simp only[hy,hbw,pP,mD];exact⟨fun _ _=>trivial,behind _ (some undef) h (f.same hb) hr μ w undef (Step.refl rh) (vN μ)⟩
    ·rename_i vs hb;simp only[show Region.wanted o (yielded ops a.tmps)=false by simp[Region.wanted,hg,f.yielded_none hdj hb],pP,mD];exact⟨fun _ _=>trivial,behind fr (some undef) h f hr μ w undef (Step.refl rh) (vN μ)⟩
    ·exact hr.elim
def fT {f1:T kA}(h:∀t,f.get t=f1.get t)(p:kH Oper)(o:Oper):dT f p o=dT f1 p o:=by
 unfold dT;simp only[h]
def Row.stat {d:T kA}{j:H}{r:kB kA}(s:bP isR o=some false)(x:Row P (lZ C isR φ) NG O o f h r d j):Row P C NG O o f h r d j:=by
 obtain⟨a,b|⟨b,c⟩⟩:=x
 ·exact⟨a,.inl b⟩
 ·exact⟨a,.inr ⟨b,by rw[←vW (φ:=φ) s];exact c⟩⟩
def Row.det {l m c:T kA}{j q:H}{r r1:kB kA}(x:Row P C NG O o f h r l j)(y:Row P C NG O o m h r1 c q)(d:∀t,f.get t=m.get t):
 r=r1∧j=q∧∀t,l.get t=c.get t:=by
 obtain⟨a,b⟩:=x;obtain⟨p,i⟩:=y;have n:=fT d O o;have k:r=r1∧j=q:=by
  rcases b with⟨w,e1,e2⟩|⟨w,e⟩
  ·rcases i with⟨w1,g1,g2⟩|⟨w1,g⟩
   ·exact⟨e1.trans g1.symm,e2.trans g2.symm⟩
   ·rw[n,w1]at w;simp at w
  ·rcases i with⟨w1,g1,g2⟩|⟨w1,g⟩
   ·rw[n,w1]at w;simp at w
   ·rw[lK d,g]at e;simp only[kP,kW]at e;exact⟨e.1.symm,e.2.symm⟩
 refine⟨k.1,k.2,fun t=>?_⟩;rw[a t,p t,k.1,d t]
def fG (h:bP isR o=some true):∃c g,o.op=.call c∧c.callee=.value (.func g)∧isR g=true:=by
 unfold bP at h;split at h
 ·rename_i c b;split at h
  ·rename_i g a;exact⟨c,g,b,a,by simpa using h⟩
  ·simp at h
  ·simp at h
 ·simp at h
def tV {c:Call}(d:o.op=.call c)(b:c.callee=.value (.func g))(k:isR g=true)(Y:g<Y0)(f:T kA)(a h:H):
 aop P (lZ C isR φ) (aH NG f a) h o aY=(eT (aH NG f a) c.args.toList).bind fun s=>(φ g s h).bind fun(v,i)=>some (some v,i):=by
 unfold aop;simp only[d,b];have ev:aH NG f a (.func g)=some (.func (.func g) ⟨[]⟩ ⟨[]⟩):=rfl;rw[ev]
 cases eT (aH NG f a) c.args.toList with
 |none=>rfl
 |some s=>
  have e:callM P (lZ C isR φ) (.func (.func g) ⟨[]⟩ ⟨[]⟩) s h=φ g s h:=by
   have j:Nat.blt g 1099511627776=true:=by rw[Nat.blt_eq];exact Y
   simp only[callM,callV,lZ,k,sV,j,dF,dD]
  simp only[e];rfl
def Trace.agree {F l:Nat→T kA}{f d:Nat→H}{m v:Nat→kB kA}(S:Trace P (lZ C isR φ) NG O F f m)(w:Trace P (lZ C isR Z) NG O l d v)(M:f 0=d 0)(I:∀t,(F 0).get t=(l 0).get t)(V:n≤O.size)(s:∀i o,i<n→O[i]?=some o→bP isR o=some false∨∃c g,o.op=.call c∧c.callee=.value (.func g)∧isR g=true∧g<Y0∧∀e x,φ g e x=Z g e x):
 ∀i,i≤n→f i=d i∧(∀t,(F i).get t=(l i).get t)∧∀k,k<i→m k=v k:=by
 intro i
 induction i with
 |zero=>intro _;exact⟨M,I,fun k z=>dC z (Nat.not_lt_zero _)⟩
 |succ i R=>
  intro U;obtain⟨E,y,G⟩:=R (by omega);obtain⟨o,B,r⟩:=S.row i (by omega);obtain⟨u,j,r1⟩:=w.row i (by omega);obtain rfl:u=o:=by rw[B]at j;simpa using j.symm
  rw[←E]at r1;obtain⟨J,K,L⟩:m i=v i∧f (i+1)=d (i+1)∧∀t,(F (i+1)).get t=(l (i+1)).get t:=by
   rcases s i u (by omega) B with D|⟨c,g,q,p,Q,Y,N⟩
   ·exact(r.stat D).det (r1.stat D) y
   ·refine(show Row P (lZ C isR Z) NG O u (F i) (f i) (m i) (F (i+1)) (f (i+1))from⟨r.1,r.2.imp_right fun⟨a,b⟩=>⟨a,?_⟩⟩).det r1 y;rw[tV q p Q Y]at b⊢;rw[←b];congr 1;funext vs;rw[N]
  refine⟨K,L,fun k z=>?_⟩;rcases mJ k i with h|h
  ·exact G k h
  ·have:k=i:=by omega
   subst this;exact J
def aVk {O:kH Oper}{f f1:T kA}{r rv1:Nat→kB kA}{D:Nat→Bool}(a:∀t,f.get t=f1.get t)(h:∀i,D i=true→r i=rv1 i):∀(m:Nat) (t:Tmp),env O f r D m t=env O f1 rv1 D m t
 |0,t=>a t
 |m+1,t=>by
  simp only[env];rw[aVk a h m t];split
  ·rename_i c;exact h m c.1
  ·rfl
def Inv.switch {F s:Nat→T kA}{q f:Nat→H}{S j:Nat→kB kA}{U:Mu}{R a:Act}{w0:kE}(c:Inv P NG nt O F q S M R w0 D a w U n)(Y:n<O.size)(g:∀i,i≤n→q i=f i∧(∀t,(F i).get t=(s i).get t)∧∀k,k<i→S k=j k)(G:∀i,D i=true→i<n)(V:Eff P O F n)(N:∀id,(q n).next≤id→U id=none)(Q:∀id,(q 0).next≤id→M id=none)(m0:(q 0).next≤(q n).next)(e:∀i L,i≤L→L≤O.size→(f i).next≤(f L).next):Inv P NG nt O s f j M R w0 D a w U n:=by
 have x:=(g 0 (sE _)).1;have p:=(g n (kQ _)).1;have y:∀{i o k},i≤n→Ran P O s i o k→Ran P O F i o k:=fun d r=>⟨r.1,by rw[fT (g _ d).2.1];exact r.2.1,r.2.2⟩;have z:∀{i o k},i≤n→Ran P O F i o k→Ran P O s i o k:=fun d r=>⟨r.1,by rw[←fT (g _ d).2.1];exact r.2.1,r.2.2⟩;have J:Eff P O s n:=by obtain⟨o,u⟩:=V;exact⟨o,z (kQ _) u⟩
 have mk:∀{i b},i<n→Mk P O s f i b→Mk P O F q i b:=fun d m=>by
  obtain⟨⟨o,u⟩,W,X⟩:=m;exact⟨⟨o,y (sC d) u⟩,W,by rw[(g _ d).1,(g _ (sC d)).1];exact X⟩
 have I:D n=false:=by
  cases h:D n with
  |true=>exact dC (G n h) (Nat.lt_irrefl _)
  |false=>rfl
 exact{
  closed:=c.closed
  dlt:=c.dlt
  pn:=c.pn
  pE:=fun i d h=>by obtain⟨o,u⟩:=h;exact c.pE i d ⟨o,y (sC d) u⟩
  pNext:=.inr ⟨J,I⟩
  wfs:=fun i d=>by rw[←(g i d).1];exact c.wfs i d
  rh:=by rw[←p];exact c.rh
  sz:=c.sz
  regs:=fun t v h=>c.regs t v (by
   rw[aVk (f1:=s 0) (rv1:=j) (g 0 (sE _)).2.1 (fun i d=>(g n (kQ _)).2.2 i (G i d))];exact h)
  dfr:=c.dfr
  mk1:=fun i b E B=>by
   have d:=G i B;obtain⟨l,h1,h2,_⟩:=c.mk1 i b (mk d E) B;exact⟨l,by rw[←(g i (sC d)).1];exact h1,h2,fun h=>dC h (Nat.not_le.2 d)⟩
  mk2:=fun i b E B=>by
   rcases mJ i n with d|d
   ·obtain⟨h1,h2⟩:=c.mk2 i b (mk d E) B;exact⟨by rw[←(g i (sC d)).1];exact h1,fun h=>by rw[←p,←(g i (sC d)).1];exact h2 h⟩
   ·have K:i<O.size:=by obtain⟨o,u⟩:=E.1;exact(sT.1 u.1).1
    exact⟨N _ (by rw[p];exact e n i d (sC K)),fun h=>dC h (Nat.not_lt.2 d)⟩
  fresh:=fun id h1 _ _=>N id (by rw[p];exact h1)
  le0:=c.le0
  old0:=fun id h=>c.old0 id (by rw[x];exact h)
  out0:=fun id h=>by
   have:(q n).next≤id:=by rw[p];exact kR (e n _ (sC Y) (kQ _)) h
   rw[N id this,Q id (kR m0 this)]
  size0:=c.size0
  os0:=c.os0
  tape0:=c.tape0
  output0:=c.output0
  frame0:=by rw[←x];exact c.frame0
  src0:=by rw[←x,←p];exact c.src0
  unm0:=by rw[←x,←p];exact c.unm0
  dead0:=by rw[←x,←p];exact c.dead0
  ro0:=by rw[←x,←p];exact c.ro0}
end
section
variable {nt:Nat}{C:CF}{isR:kI→Bool}{φ Z:kI→kC kA→H→kB (kA×H)}
def Val (isR:kI→Bool)(dom:kI→kC kA→H→Prop)(R:kI→kC kA→H→kA→H→Prop)(φ:kI→kC kA→H→kB (kA×H)):Prop:=
 ∀f a h,isR f=true→(dom f a h→∃v b,φ f a h=some (v,b)∧R f a h v b)∧∀v b,φ f a h=some (v,b)→dom f a h∧R f a h v b
def aEr (h:bP isR o=some true):bL P o=some .effect:=by
 obtain⟨c,g,b,a,_⟩:=fG h;simp[bL,b,a]
structure aRj (isR:kI→Bool)(ops:kH Oper):Prop where
 kind:∀(i:Nat) (o:Oper),ops[i]?=some o→bP isR o=some false∨bP isR o=some true
 pred:∀(i j:Nat) (o:Oper),ops[i]?=some o→bP isR o=some true→i<j→j<ops.size→uA ops j i
 diff:∀(i j:Nat) (o o':Oper) (c c':Call) (g g':kI),ops[i]?=some o→ops[j]?=some o'→bP isR o=some true→bP isR o'=some true→o.op=.call c→c.callee=.value (.func g)→o'.op=.call c'→c'.callee=.value (.func g')→i≠j→g≠g'
def Trace.next_monoR (hzp:aL P=true)(hC:aO P NG C)(ok:RelOK P NG isR dom R)(hφ:Val isR dom R φ){F:Nat→T kA}{Hh:Nat→H}{rv:Nat→kB kA}(ra:aRj isR ops)(tr:Trace P (lZ C isR φ) NG ops F Hh rv):∀i i',i≤i'→i'≤ops.size→(Hh i).next≤(Hh i').next:=by
 have one:∀i,i<ops.size→(Hh i).next≤(Hh (i+1)).next:=by
  intro i hi;obtain⟨o,ho,hrow⟩:=tr.row i hi;rcases ra.kind i o ho with hst|hrel
  rotate_left
  ·obtain⟨c,g,hop,hcl,hg⟩:=fG hrel;rcases hrow.2 with⟨_,_,hr⟩|⟨_,hr⟩
   ·rw[hr];exact kQ _
   ·rw[tV hop hcl hg (ok.body g hg).1]at hr;obtain⟨vs,hvs,hr⟩:=bind_some hr;obtain⟨⟨v,h'⟩,hv,hr⟩:=bind_some hr;simp only[kP,kW]at hr;obtain⟨_,rfl⟩:=hr;exact ok.mono g vs _ v _ hg ((hφ g vs _ hg).2 v _ hv).2
  ·rcases(hrow.stat hst).2 with⟨_,_,hr⟩|⟨_,hr⟩
   ·rw[hr];exact kQ _
   ·obtain⟨rv',h',hk,hs⟩:=gN hzp hC hr;simp only[aY,kP,kW]at hk;obtain⟨rfl,rfl⟩:=hk;exact hs.1
 intro i i' h
 induction h with
 |refl=>intro _;exact kQ _
 |step _ ih=>intro h;exact kR (ih (by omega)) (one _ (by omega))
def aId (c:Val isR dom R φ){j:H}(i:dom g a h)(d:R g a h v j):∃b,Val isR dom R b∧b g a h=some (v,j)∧∀f r x,f≠g→φ f r x=b f r x:=by
 classical
 refine⟨fun f r x=>if f=g∧r=a∧x=h then some (v,j)else φ f r x,fun f r x k=>?_,by simp,fun f r x n=>(kL fun e=>n e.1).symm⟩
 by_cases e:f=g∧r=a∧x=h
 ·obtain⟨rfl,rfl,rfl⟩:=e;simp only[and_self,mE];refine⟨fun _=>⟨v,j,rfl,d⟩,fun m l e=>?_⟩;simp only[kP,kW]at e;obtain⟨rfl,rfl⟩:=e;exact⟨i,d⟩
 ·simp only[e,mD];exact c f r x k
def SR (P:kD)(C:CF)(NG nt:Nat)(o:kH Oper)(isR:kI→Bool)(dom:kI→kC kA→H→Prop)(R:kI→kC kA→H→kA→H→Prop)(f:T kA)(h:H)(K:T kA→H→Prop)
 (b:Mu) (c:Act) (w0:kE) (D:Nat→Bool) (a:Act) (w:kE):Prop:=
 ∃φ F Hh r,Val isR dom R φ∧Trace P (lZ C isR φ) NG o F Hh r∧F 0=f∧Hh 0=h∧K (F o.size) (Hh o.size)∧∃d p,Inv P NG nt o F Hh r b c w0 D a w d p
def AllR (P:kD)(C:CF)(NG:Nat)(o:kH Oper)(isR:kI→Bool)(dom:kI→kC kA→H→Prop)(R:kI→kC kA→H→kA→H→Prop)(r:T kA)(h:H)(K:T kA→H→Prop):Prop:=
 ∀φ,Val isR dom R φ→∃f a,runD P (lZ C isR φ) NG o (before o) 0 o.toList r h [] [] (fun r h=>some (r,h))=some (f,a)∧K f a
def AllR.trace {K:T kA→H→Prop}(m:AllR P C NG O isR dom R f h K)(d:Val isR dom R φ):
 ∃F Hh g,Trace P (lZ C isR φ) NG O F Hh g∧F 0=f∧Hh 0=h∧K (F O.size) (Hh O.size):=by
 obtain⟨j,w,u,s⟩:=m φ d;obtain⟨F,Hh,g,_,n,q,k,r,_,_,c,a,b⟩:=aAn O.toList 0 f h [] [] rfl u;rw[Nat.max_eq_right (sE _)]at k;simp only[kP,kW]at k;refine⟨F,Hh,g,⟨fun i t=>r i (sE _) t,fun p i o e v l=>c p i o e v (sE _) l,fun i p o e v l=>a i p o e v (sE _) l,fun i o=>b i o (sE _)⟩,n,q,?_⟩;rw[k.1,k.2];exact s
def SR.step (hzp:aL P=true)(hC:aO P NG C)(ok:RelOK P NG isR dom R)(ra:aRj isR ops)(DF:bW P ops)(hd:gC nt ops=true){K:T kA→H→Prop}(hA:AllR P C NG ops isR dom R fr h K){a0 a:Act}{w0:kE}(rh0:RH NG μ0 h w0)(sf0:SF μ0 h)(s:SR P C NG nt ops isR dom R fr h K μ0 a0 w0 D a w){j:Nat}(hj:D j=false)(ho:ops[j]?=some o)(hr:∀e∈o.after.toList,Region.binds .any e=true→D e.on=true)(ro:kB Nat)(Q:Exit→Act→kE→Prop)(Kc:Act→kE→Prop)(hK:∀a' w',SR P C NG nt ops isR dom R fr h K μ0 a0 w0 (add D j) a' w'→Kc a' w'):wpOpIn (Fr ro) 0 P ops Q j Kc a w:=by
 obtain⟨φ,F,Hh,rv,hφ,tr,rfl,rfl,hend,μ,p,inv⟩:=s;have hmono:=tr.next_monoR hzp hC ok hφ ra;have hjn:j<ops.size:=(sT.1 ho).1;obtain⟨o',ho',hrow⟩:=tr.row j hjn;obtain rfl:o'=o:=by rw[ho]at ho';simpa using ho'.symm
 have aJ:Row P C NG ops o' (F j) (Hh j) (rv j) (F (j+1)) (Hh (j+1))→wpOpIn (Fr ro) 0 P ops Q j Kc a w:=fun hrow=>
  inv.stepR hzp hC tr DF hd hmono rh0.wf rh0.ng hj ho hrow hr ro Q Kc fun a' w' ⟨μ',p',inv'⟩=>hK a' w' ⟨φ,F,Hh,rv,hφ,tr,rfl,rfl,hend,μ',p',inv'⟩
 rcases ra.kind j o' ho with hst|hrel
 rotate_left
 ·obtain⟨hget,hrow⟩:=hrow;rcases hrow with hpass|⟨hw,hop⟩
  ·exact aJ ⟨hget,.inl hpass⟩
  ·obtain⟨c,g,hoc,hcl,hg⟩:=fG hrel;have ran:Ran P ops F j o' .effect:=⟨ho,hw,aEr hrel⟩;have hE:Eff P ops F j:=⟨_,ran⟩;have hjp:j=p:=by
    rcases mJ j p with h|h
    ·have:=inv.pE j h hE;rw[hj]at this;simp at this
    ·rcases inv.pNext with h'|⟨⟨oq,hq⟩,hDp⟩
     ·omega
     ·by_cases e:j=p
      ·exact e
      ·have hp:=DF.chain p j oq _ hq.1 ho (by omega) hq.2.2 ran.2.2;have:=oB inv.closed ho hr hp;rw[hDp]at this;simp at this
   subst hjp;have hDlt:∀i,D i=true→i<j:=by
    intro i hi;rcases Nat.lt_trichotomy i j with h|h|h
    ·exact h
    ·subst h;rw[hj]at hi;simp at hi
    ·have:=iT inv.closed i j hi (ra.pred j i o' ho hrel h (inv.dlt i hi));rw[hj]at this;simp at this
   have hlook:=inv.look tr DF hj ho hr;rw[tV hoc hcl hg (ok.body g hg).1]at hop;obtain⟨vs,hvs,hop⟩:=bind_some hop;obtain⟨⟨v0,h0'⟩,hv0,hop⟩:=bind_some hop;have hdm:=((hφ g vs _ hg).2 _ _ hv0).1;have hvs':eT (aEl NG (env ops (F 0) rv D ops.size)) c.args.toList=some vs:=by
    rw[←hvs];refine(iS fun x hx=>hlook (Hh j) x ?_).symm;rw[hoc];show x∈c.operands;simp only[Call.operands,Array.mem_append];exact .inr (by simpa using hx)
   have m0:(Hh 0).next≤(Hh j).next:=hmono 0 j (sE _) (sC hjn);have sf:SF μ (Hh j):=by
    intro id hid;rcases mJ id (Hh ops.size).next with hlt|hge
    ·refine inv.fresh id hid hlt fun i b hmk hD e=>?_;have h1:=hDlt i hD;have h2:=hmk.next;have h3:=hmono (i+1) j h1 (sC hjn);omega
    ·rw[inv.out0 id hge];exact sf0 id (kR m0 hid)
   unfold wpOpIn;simp only[ho];rw[inv.wanted tr DF hj ho hr hw];simp only[mE];refine xH ok hoc hcl hg hvs' hdm inv.rh sf inv.ev ro _ Q fun v h' μ' w' cv hR st hv=>?_;obtain⟨φ1,hφ1,e1,e0⟩:=aId hφ hdm hR;obtain⟨F1,Hh1,rv1,tr1,f1,g1,hend1⟩:=hA.trace hφ1;have hmono1:=tr1.next_monoR hzp hC ok hφ1 ra;have ag:=tr.agree tr1 g1.symm (fun t=>by rw[f1]) (sC hjn) fun i oi hi hoi=>by
    rcases ra.kind i oi hoi with h|h
    ·exact .inl h
    ·obtain⟨ci,gi,hci,hcli,hgi⟩:=fG h;exact .inr ⟨ci,gi,hci,hcli,hgi,(ok.body gi hgi).1,fun args x=>e0 gi args x (ra.diff i j oi o' ci c gi g hoi ho h hrel hci hcli hoc hcl (Nat.ne_of_lt hi))⟩
   have inv1:=inv.switch hjn ag hDlt hE sf sf0 m0 hmono1;obtain⟨ej,fj,_⟩:=ag j (kQ _);have hE1:Eff P ops F1 j:=⟨o',ho,by rw[←fT fj];exact hw,ran.2.2⟩;obtain⟨o2,ho2,hrow2⟩:=tr1.row j hjn;obtain rfl:o2=o':=by rw[ho]at ho2;simpa using ho2.symm
   have hout:rv1 j=some v∧Hh1 (j+1)=h':=by
    rcases hrow2.2 with⟨hw2,_⟩|⟨_,hop2⟩
    ·rw[←fT fj,hw]at hw2;simp at hw2
    ·rw[tV hoc hcl hg (ok.body g hg).1,←lK fj,←ej,hvs]at hop2;simp only[pR,e1,kP,kW]at hop2;exact⟨hop2.1.symm,hop2.2.symm⟩
   rw[←hout.2,ej]at st;obtain⟨p',inv2⟩:=inv1.effect tr1 DF hd hj ho hr hE1 hmono1 (by rw[g1];exact rh0.wf) st (by rw[hout.1];exact hv);exact hK _ _ ⟨φ1,F1,Hh1,rv1,hφ1,tr1,f1,g1,hend1,μ',p',inv2⟩
 ·exact aJ (hrow.stat hst)
def aLs (M:bW P O)(L:kB Nat)(Q:Exit→Act→kE→Prop){S:(Nat→Bool)→Act→kE→Prop}(r:∀D a w j o,S D a w→D j=false→O[j]?=some o→(∀e∈o.after.toList,Region.binds .any e=true→D e.on=true)→
  ∀Kc:Act→kE→Prop,(∀q t,S (add D j) q t→Kc q t)→wpOpIn (Fr L) 0 P O Q j Kc a w)(U:∀q t,S (fun i=>decide (i<O.size)) q t→Q .normal q t):
 ∀(f:Nat) (l:kH Bool) (a:Act) (w:kE),l.size=O.size→((List.range O.size).filter fun i=>!l.getD i false).length≤f→
  S (fun i=>l.getD i false) a w→wpAnyIn (Fr L) 0 P .any O Q f l a w:=by
 have g:∀(l:kH Bool) (i:Nat),l.size=O.size→i<O.size→l.getD i true=l.getD i false:=by
  intro l i s b;simp[pT,pV (show i<l.size by omega)]
 have done:∀(l:kH Bool) (a:Act) (w:kE),l.size=O.size→S (fun i=>l.getD i false) a w→Region.ready .any O l=[]→Q .normal a w:=by
  intro l a w s n y;have z:∀i,i<O.size→l.getD i false=true:=by
   intro i
   induction i using Nat.strongRecOn with
   |_ i I=>
    intro b
    cases V:l.getD i false with
    |true=>rfl
    |false=>
     exfalso;have m:i∈Region.ready .any O l:=by
      rw[mem_ready];refine⟨by rw[g l i s b];exact V,O[i],by simp[b],fun e G E=>?_⟩;have h:=M.edge i O[i] (by simp[b]) e (by simpa using G) E;exact I e.on h (by omega)
     rw[y]at m;simp at m
  have N:(fun i=>l.getD i false)=fun i=>decide (i<O.size):=by
   funext i;by_cases b:i<O.size
   ·simp only[z i b,b,decide_true]
   ·rw[pT,Array.getElem?_eq_none (by omega)];simp[b]
  rw[N]at n;exact U a w n
 intro f
 induction f with
 |zero=>
  intro l a w s k n;have y:Region.ready .any O l=[]:=by
   apply List.eq_nil_iff_forall_not_mem.2;intro i b;rw[mem_ready]at b;obtain⟨B,o,x,_⟩:=b;have h:i<O.size:=(sT.1 x).1;have:i∈(List.range O.size).filter fun i=>!l.getD i false:=by
    rw[dS];exact⟨rO.2 h,by rw[←g l i s h,B];rfl⟩
   rw[pY.1 (Nat.le_zero.1 k)]at this;simp at this
  exact⟨y,done l a w s n y⟩
 |succ f I=>
  intro l a w s k n;refine⟨done l a w s n,fun j J=>?_⟩;rw[mem_ready]at J;obtain⟨B,o,x,c⟩:=J;have h:j<O.size:=(sT.1 x).1;have u:l.getD j false=false:=by rw[←g l j s h];exact B
  refine r _ a w j o n u x (fun e G E=>c e (by simpa using G) E) _ fun q t p=>?_;have d:add (fun i=>l.getD i false) j=fun i=>(l.setIfInBounds j true).getD i false:=by
   funext i;unfold add;by_cases e:i=j
   ·subst e;rw[kM rfl,pT,Array.getElem?_setIfInBounds,kM rfl,kM (by omega)];rfl
   ·rw[kL e];show l.getD i false=_;rw[pT,pT,Array.getElem?_setIfInBounds_ne (mV e)]
  rw[d]at p;refine I _ q t (by simpa using s) ?_ p;have v:((List.range O.size).filter fun i=>!(l.setIfInBounds j true).getD i false)=((List.range O.size).filter fun i=>!l.getD i false).filter fun i=>decide (i≠j):=by
   rw[List.filter_filter];apply List.filter_congr;intro i _;have:=congrFun d i;rw[←this];unfold add;by_cases e:i=j
   ·subst e;simp
   ·simp[e]
  rw[v];have m:j∈(List.range O.size).filter fun i=>!l.getD i false:=by
   rw[dS];exact⟨rO.2 h,by rw[u];rfl⟩
  have K:(((List.range O.size).filter fun i=>!l.getD i false).filter fun i=>decide (i≠j)).length<((List.range O.size).filter fun i=>!l.getD i false).length:=by
   rw[List.length_filter_lt_length_iff_exists];exact⟨j,m,by simp⟩
  omega
def aGk (z:aL P=true)(J:aO P NG C)(k:RelOK P NG isR dom R)(V:aRj isR O)(d:gC nt O=true)(L:lR P O (before O)=true){K:T kA→H→Prop}(X:AllR P C NG O isR dom R f h K){a:Act}(rh:RH NG M h w)(sf:SF M h)(a3:FR nt M f a)(ro:kB Nat)(Q:Exit→Act→kE→Prop)(hQ:∀l y q I,K q I→tX NG nt M h w a q I l y→Q .normal l y):
 wpAnyIn (Fr ro) 0 P .any O Q O.size (Array.replicate O.size false) a {w with drawn:=w.drawn+1}:=by
 have DF:=aAz L;obtain⟨φ,b⟩:∃φ,Val isR dom R φ:=by
  classical
  refine⟨fun g c x=>if e:isR g=true∧dom g c x then some ((k.tot g c x e.1 e.2).choose,(k.tot g c x e.1 e.2).choose_spec.choose)else none,fun g c x B=>⟨fun d=>?_,fun v I e=>?_⟩⟩
  ·exact⟨_,_,dif_pos ⟨B,d⟩,(k.tot g c x B d).choose_spec.choose_spec⟩
  ·dsimp only at e
   by_cases d:dom g c x
   ·rw[dif_pos ⟨B,d⟩]at e;simp only[kP,kW]at e;obtain⟨rfl,rfl⟩:=e;exact⟨d,(k.tot g c x B d).choose_spec.choose_spec⟩
   ·rw[dif_neg (fun e=>d e.2)]at e;simp at e
 obtain⟨F,Hh,G,r,hF,hH,u⟩:=X.trace b;have m:=r.next_monoR z J k b V;refine aLs (S:=SR P C NG nt O isR dom R f h K M a w) DF ro Q (fun D l y j o s hj N hr Kc u=>s.step z J k V DF d X rh sf hj N hr ro Q Kc u) (fun l y s=>?_) O.size _ a _ (by simp) ?_ ?_
 ·obtain⟨φ,F,Hh,G,b,r,rfl,rfl,u,W,p,n⟩:=s;have m:=r.next_monoR z J k b V;have hp:p=O.size:=by
   rcases n.pNext with h|⟨⟨o,N⟩,h2⟩
   ·exact h
   ·have:=N.lt;simp at h2;omega
  subst hp;refine hQ l y _ _ u ⟨W,?_,?_,n.dfr⟩
  ·exact{
    wf:=rh.wf
    le:=n.le0
    old:=n.old0
    out:=n.out0
    next:=m 0 _ (sE _) (kQ _)
    rh:=n.rh
    size:=n.size0
    os:=n.os0
    tape:=n.tape0
    output:=n.output0
    frame:=n.frame0
    src:=n.src0
    unm:=n.unm0
    dead:=n.dead0
    ro:=n.ro0}
  ·refine⟨n.sz,fun t v Y=>n.regs t v ?_⟩;rw[←r.env_at t O.size (kQ _)]at Y;rw[←Y];exact nB t O.size fun i E _=>by simp[E]
 ·exact kR (List.length_filter_le _ _) (by simp)
 ·have e:(fun i=>(Array.replicate O.size false).getD i false)=fun _=>false:=by
   funext i;rw[pT];by_cases E:i<O.size
   ·simp[E]
   ·rw[Array.getElem?_eq_none (by simpa using E)];rfl
  rw[e];subst hF;subst hH;obtain⟨p,U⟩:=Inv.start (a0:=a) (rv:=G) r DF m rh (sf.fresh _) a3 (w:={w with drawn:=w.drawn+1}) rfl rfl rfl rfl;exact⟨φ,F,Hh,G,b,r,rfl,rfl,u,M,p,U⟩
end
def aJz (P:kD)(C:CF)(N nt:Nat)(ops:kH Oper)(d:Bool)(f:T kA)(h:H):kB OL:=
 match nE P C N nt ops d f h with
 |some l=>some l
 |none=>bif gC nt ops then
  bif d then(bif lR P ops (before ops)then runD P C N ops (before ops) 0 ops.toList f h [] [] fun f h=>some [(.normal,f,h)]else none)
  else runOps P C N ops ops.toList f h fun f h=>some [(.normal,f,h)]
  else none
def aLv (o:Oper):kB kI:=match o.op with
 | .call c=>(match c.callee with| .value (.func g)=>some g|_=>none)
 |_=>none
def aFr (isR:kI→Bool)(p:kH Oper)(b:kC Nat)(_q:Nat):Bool:=
 p.toList.zipIdx.all fun(o,i)=>match bP isR o with
  |some false=>true
  |some true=>p.toList.zipIdx.all fun(a,j)=>Nat.ble j i&&Nat.beq j i||(Nat.ble j i||Nat.testBit (b.getD j 0) i)&&(match bP isR a with|some true=>!(aLv o==aLv a)|_=>true)
  |none=>false
def aEs {isR:kI→Bool}(h:aFr isR O (before O) q=true):aRj isR O:=by
 have s:∀i o,O[i]?=some o→(o,i)∈O.toList.zipIdx:=fun i o a=>List.mem_zipIdx_iff_getElem?.2 (by simpa using a);have p:=fun i o a=>mB.1 h (o,i) (s i o a);have t:∀i o,O[i]?=some o→bP isR o=some true→∀j d,O[j]?=some d→j≠i→(j≤i∨uA O j i)∧(bP isR d=some true→aLv o≠aLv d):=by
  intro i o a r j d f n;have k:=p i o a;simp only[r]at k;have k:=mB.1 k (d,j) (s j d f);simp only[tI,pA]at k;rcases k with⟨_,k⟩|⟨k1,k2⟩
  ·exact dC (beq_iff.1 k) n
  ·refine⟨k1.imp ble_iff.1 id,fun l=>?_⟩;simp only[l]at k2;intro e;rw[e]at k2;simp at k2
 refine⟨fun i o a=>?_,fun i j o a r y x=>?_,fun i j o d c z g B a f r l w v u m n e=>?_⟩
 ·have k:=p i o a
  cases r:bP isR o with
  |none=>simp only[r]at k;cases k
  |some b=>cases b<;>simp
 ·rcases(t i o a r j O[j] (by simp[x]) (by omega)).1 with h1|h1
  ·omega
  ·exact h1
 ·subst e;exact(t i o a r j d f (mV n)).2 l (by simp[aLv,w,v,u,m])
def aEh (P:kD)(C:CF)(N nt:Nat)(isR:kI→Bool)(Z:kI→kC kA→H→Prop)(R:kI→kC kA→H→kA→H→Prop)(ops:kH Oper)(d:Bool)(f:T kA)(h:H)(K:T kA→H→Prop):Prop:=
 (∃l,aJz P C N nt ops d f h=some l∧∀o∈l,K o.2.1 o.2.2)∨
 (d=false∧gC nt ops=true∧bE P C N isR Z R ops ops.toList f h K)∨
 (d=true∧gC nt ops=true∧lR P ops (before ops)=true∧(∃q,aFr isR ops (before ops) q=true)∧AllR P C N ops isR Z R f h K)
abbrev KW:=Ex→T kA→H→Prop
def cEg (n:T kA→H→Prop)(K:KW):KW:=fun e f h=>match e with
 | .normal=>n f h
 | .exit j=>K (.exit j) f h
 | .ret=>K .ret f h
def aGa (id:Nat)(K:KW):KW:=fun e f h=>match e with
 | .normal=>K .normal f h
 | .exit j=>bif Nat.beq j id then K .normal f h else K (.exit j) f h
 | .ret=>K .ret f h
def aMc (f:T kA→H→KW→Prop):Nat→T kA→H→KW→Prop
 |0,_,_,_=>False
 |n+1,r,h,K=>f r h (cEg (fun r h=>aMc f n r h K) K)
def vA (P:kD)(C:CF)(isR:kI→Bool)(Z:kI→kC kA→H→Prop)(R:kI→kC kA→H→kA→H→Prop)(L N nt:Nat)(d:kC Tmp):Code→kC Tmp→kC (Nat×kC Tmp)→T kA→H→KW→Prop
 | .skip,out,_,f,h,K=>K .normal (bY f out) h
 | .label _,out,_,f,h,K=>K .normal (bY f out) h
 | .region _ ops draw,out,_,f,h,K=>aEh P C N nt isR Z R ops draw f h fun f h=>K .normal (bY f out) h
 | .seq a b,out,env,f,h,K=>vA P C isR Z R L N nt d a (live d b out env) env f h (cEg (fun f h=>vA P C isR Z R L N nt d b out env f h K) K)
 | .cond c a b,out,env,f,h,K=>∃t,aH N f h c=some (.bool t)∧(match t with|true=>vA P C isR Z R L N nt d a out env f h K|false=>vA P C isR Z R L N nt d b out env f h K)
 | .block id b,out,env,f,h,K=>vA P C isR Z R L N nt d b out ((id,out)::env) f h (aGa id K)
 | .loop b,_,env,f,h,K=>aMc (fun f h K=>vA P C isR Z R L N nt d b (live d b [] env) env f h K) L (bY f (live d b [] env)) h K
 | .scope b,out,env,f,h,K=>vA P C isR Z R L N nt d b out env f h K
 | .exit id,_,env,f,h,K=>K (.exit id) (bY f (aMd id env)) h
 | .ret,_,_,f,h,K=>K .ret (bY f d) h
 |_,_,_,_,_,_=>False
section
variable {nt:Nat}{C:CF}{isR:kI→Bool}{Z:kI→kC kA→H→Prop}
def aGd (P:kD)(NG nt:Nat)(c:Code)(r:T kA)(h:H)(K:KW):Prop:=
 ∀(b:Mu) (a:Act) (w:kE),RH NG b h w→SF b h→FR nt b r a→c.wpIn (Fr none) 0 P (fun e g i=>∃x f d,K x f d∧ExR x e∧StepTo NG nt b h w a f d g i) a w
def aKp (z:aL P=true)(S:P.follows .mixedOrders=true)(D:aO P NG C){id:Nat}{l:OL}(b:aJz P C NG nt ops J f h=some l):
 aGd P NG nt (.region id ops J) f h (fun t c u=>(t,c,u)∈l):=by
 unfold aJz at b;split at b
 ·rename_i O M;simp only[kP]at b;subst b;intro k a w p m K;obtain⟨N,E⟩:∃N,∀o∈O,o.2.2.next≤N:=by
   clear M
   induction O with
   |nil=>exact⟨0,fun o i=>by simp at i⟩
   |cons x r U=>
    obtain⟨N,E⟩:=U;refine⟨max N x.2.2.next,fun o i=>?_⟩;rcases sI.1 i with rfl|i
    ·exact Nat.le_max_right _ _
    ·exact kR (E o i) (Nat.le_max_left _ _)
  exact wpIn_mono ((aGy (id:=id) z D M E).2 k a w p (m.fresh N) K) fun e q y ⟨o,i,Q,s⟩=>⟨o.1,o.2.1,o.2.2,i,Q,s⟩
 ·obtain⟨L,b⟩:=aB b
  cases J with
  |false=>
   simp only[sW]at b;obtain⟨g,v,n,hle,I⟩:=gU z D L ops.toList 0 f h rfl b;simp only[kP]at n;subst n;intro k a w p m K;refine wpIn_region ?_;have:=I k a w p (m.fresh _) K none (fun e q y=>∃t c u,(t,c,u)∈[((.normal:Ex),g,v)]∧ExR t e∧StepTo NG nt k h w a c u q y) fun q y ⟨j,s,B,d⟩=>⟨.normal,g,v,mC.2 rfl,trivial,j,s,B,by rw[d];exact Marks.refl _ _ _⟩;rw[dJ,←List.range_eq_range']at this;exact this
  |true=>
   simp only[sV]at b;obtain⟨G,b⟩:=aB b;obtain⟨g,v,n,hle,I⟩:=uM z D L G b;simp only[kP]at n;subst n;intro k a w p m K;refine wpIn_region_any S ?_;exact I k a w p (m.fresh _) K none _ fun q y ⟨j,s,B,d⟩=>⟨.normal,g,v,mC.2 rfl,trivial,j,s,B,by rw[d];exact Marks.refl _ _ _⟩
def StepTo.keep2 {a:Act}{j:H}{c:Act}(s:StepTo NG nt M h w a f j c W)(l:kC Tmp):StepTo NG nt M h w a (bY f l) j c W:=by
 obtain⟨b,t,d,m⟩:=s;exact⟨b,t,d.keep,m⟩
def xJ {f:T kA→H→KW→Prop}{b:Code}(B:∀d h K,f d h K→aGd P NG nt b d h K):
 ∀(n:Nat) (d:T kA) (h:H) (K:KW),aMc f n d h K→∀(g:Mu) (a:Act) (w:kE),RH NG g h w→SF g h→FR nt g d a→
  Code.roundsIn (Fr none) 0 P b (fun e E M=>∃x i z,K x i z∧ExR x e∧StepTo NG nt g h w a i z E M) n a w
 |0,_,_,_,h=>h.elim
 |n+1,d,h,K,hr=>by
  intro g a w L D G;rw[roundsIn_succ];refine wpIn_mono (B _ _ _ hr g a w L D G) fun e y w1 ⟨x,r,p,t,k,c,s,m,l⟩=>?_
  cases e with
  |normal=>
   have:=k.nor;subst this;exact tD (fun e N w2 ⟨x,o,I,J,q,v⟩=>⟨x,o,I,J,q,v.trans s l⟩) n y w1 (xJ B n r p K t c y w1 s.rh (D.step s) m)
  |_=>
   have u:=k.not (by simp)
   cases x with
   |normal=>exact dC rfl u
   |exit j=>exact⟨_,r,p,t,k,c,s,m,l⟩
   |ret=>exact⟨_,r,p,t,k,c,s,m,l⟩
def aAy {f:kA→H→kB (Ex×T kA×H)}:∀{l:kC (kA×H)} {ol:OL},vB f l=some ol→∀x∈ol,∃o∈l,f o.1 o.2=some x
 |[],ol,h,x,a=>by simp only[vB,kP]at h;subst h;simp at a
 |(v,h0)::r,ol,h,x,a=>by
  simp only[vB]at h;split at h
  ·rename_i y l d b;simp only[kP]at h;subst h;rcases sI.1 a with rfl|a
   ·exact⟨_,mO,d⟩
   ·obtain⟨o,c,e⟩:=aAy b x a;exact⟨o,mL _ c,e⟩
  ·simp at h
def aPk (z:aL P=true)(g:aO P NG C){l:OL}(d:nE P C NG nt ops J f h=some l):∀o∈l,o.1=.normal:=by
 unfold nE at d;obtain⟨c,r⟩:=aB d;simp only[pA]at c;split at r
 ·rename_i s x t p b e a;split at r
  ·split at r
   ·intro o i;obtain⟨y,_,j⟩:=aAy r o i;obtain⟨_,_,k,_⟩:=gU z g c.1 e 1 _ _ (by rw[a];rfl) j;simp only[kP]at k;rw[←k]
   ·simp at r
  ·simp at r
 ·simp at r
def aGo (z:aL P=true)(G:P.follows .mixedOrders=true)(j:aO P NG C)(I:RelOK P NG isR Z R){id:Nat}{K:T kA→H→Prop}(B:aEh P C NG nt isR Z R ops J f h K):aGd P NG nt (.region id ops J) f h (fun x r c=>x=.normal∧K r c):=by
 intro E a w D v L;rcases B with⟨l,b,k⟩|⟨rfl,hd,B⟩|⟨rfl,hd,g,⟨q,hq⟩,hA⟩
 ·refine wpIn_mono (aKp z G j b E a w D v L) fun e p t ⟨x,r,c,m,N,s⟩=>?_;have O:x=.normal:=by
   have:∀o∈l,o.1=.normal:=by
    unfold aJz at b;split at b
    ·rename_i Q M;simp only[kP]at b;subst b;exact aPk z j M
    ·obtain⟨_,b⟩:=aB b
     cases J with
     |false=>
      simp only[sW]at b;obtain⟨_,_,n,_⟩:=gU z j (ops:=ops) ‹_› ops.toList 0 f h rfl b;simp only[kP]at n;subst n;intro o y;rw[mC.1 y]
     |true=>
      simp only[sV]at b;obtain⟨g,b⟩:=aB b;obtain⟨_,_,n,_⟩:=uM (nt:=nt) z j ‹_› g b;simp only[kP]at n;subst n;intro o y;rw[mC.1 y]
   exact this _ m
  exact⟨.normal,r,c,⟨rfl,k _ m⟩,O▸N,s⟩
 ·refine wpIn_region ?_;have:=aCf z j I hd ops.toList 0 f h K rfl B E a w D v L none (fun e p t=>∃x r c,(x=.normal∧K r c)∧ExR x e∧StepTo NG nt E h w a r c p t) fun p t r c k ⟨i,s,u,d⟩=>⟨.normal,r,c,⟨rfl,k⟩,trivial,i,s,u,by rw[d];exact Marks.refl _ _ _⟩;rw[dJ,←List.range_eq_range']at this;exact this
 ·refine wpIn_region_any G ?_;exact aGk z j I (aEs hq) hd g hA D v L none _ fun p t r c k ⟨i,s,u,d⟩=>⟨.normal,r,c,⟨rfl,k⟩,trivial,i,s,u,by rw[d];exact Marks.refl _ _ _⟩
def aHa (V:aL P=true)(hm:P.follows .mixedOrders=true)(hC:aO P NG C)(ok:RelOK P NG isR Z R):
 ∀(c:Code) (o:kC Tmp) (env:kC (Nat×kC Tmp)) (i:T kA) (h:H) (K:KW),vA P C isR Z R n NG nt RR c o env i h K→aGd P NG nt c i h K:=by
 intro c
 induction c with
 |skip=>intro o env i h K r g a w d _ f;exact wpIn_skip ⟨_,_,_,r,trivial,g,Step.refl d,f.keep,Marks.refl _ _ _⟩
 |label l=>intro o env i h K r g a w d _ f;exact wpIn_label ⟨_,_,_,r,trivial,g,Step.refl d,f.keep,Marks.refl _ _ _⟩
 |exit id=>intro o env i h K r g a w d _ f;exact wpIn_exit ⟨_,_,_,r,rfl,g,Step.refl d,f.keep,Marks.refl _ _ _⟩
 |ret=>intro o env i h K r g a w d _ f;exact wpIn_ret ⟨_,_,_,r,trivial,g,Step.refl d,f.keep,Marks.refl _ _ _⟩
 |region id a3 X=>
  intro o env i h K r g a w d p f;exact wpIn_mono (aGo V hm hC ok r g a w d p f) fun e a' w' ⟨u,M,h',⟨hn,Q⟩,m,E⟩=>⟨u,bY M o,h',hn▸Q,m,E.keep2 _⟩
 |seq x y B D=>
  intro o env i h K r g a w d p f;refine wpIn_seq (wpIn_mono (B _ _ _ _ _ r g a w d p f) fun e W w1 ⟨u,v,O,q,m,G,E,L,J⟩=>?_)
  cases e with
  |normal=>
   have:=m.nor;subst this;exact wpIn_mono (D _ _ _ _ _ q G W w1 E.rh (p.step E) L) fun e a2 w2 ⟨u,N,h2,Q,S,s⟩=>⟨u,N,h2,Q,S,s.trans E J⟩
  |_=>
   have U:=m.not (by simp)
   cases u with
   |normal=>exact dC rfl U
   |exit j=>exact⟨_,v,O,q,m,G,E,L,J⟩
   |ret=>exact⟨_,v,O,q,m,G,E,L,J⟩
 |cond c x y B D=>
  intro o env i h K r g a w d p f;obtain⟨t,Y,r⟩:=r
  cases t with
  |true=>exact wpIn_cond_true ((f.ev d c _ Y).bool_inv) (B _ _ _ _ _ r g a w d p f)
  |false=>exact wpIn_cond_false ((f.ev d c _ Y).bool_inv) (D _ _ _ _ _ r g a w d p f)
 |block id b I=>
  intro o env i h K r g a w d p f;refine wpIn_block (wpIn_mono (I _ _ _ _ _ r g a w d p f) fun e W w1 ⟨u,v,O,q,m,s⟩=>?_)
  cases u with
  |normal=>
   cases e with
   |normal=>exact⟨_,_,_,q,trivial,s⟩
   |_=>exact m.elim
  |ret=>
   cases e with
   |ret=>exact⟨_,_,_,q,trivial,s⟩
   |_=>exact m.elim
  |exit j=>
   cases e with
   |exit k=>
    simp only[ExR]at m;simp only[aGa]at q
    cases z:Nat.beq j id with
    |true=>
     rw[z]at q;simp only[Exit.inBlock,←m,beq_iff.1 z,mE];exact⟨_,_,_,q,trivial,s⟩
    |false=>
     rw[z]at q;have z:j≠id:=fun e=>by rw[beq_iff.2 e]at z;simp at z
     simp only[Exit.inBlock,←m,z,mD];exact⟨_,_,_,q,rfl,s⟩
   |_=>exact m.elim
 |loop b I=>
  intro o env i h K r g a w d p f;exact wpIn_loop_rounds n (xJ (fun i h K hh=>I _ _ i h K hh) n _ h K r g a w d p f.keep)
 |scope b I=>
  intro o env i h K r g a w d p f;refine aAj (I _ _ _ _ _ r g a w d p f) fun l a w hq=>?_;obtain⟨u,_,_,_,m,_⟩:=hq;cases u<;>exact m.elim
 |_=>intro o env i h K r;exact r.elim
def fK (P:kD)(C:CF)(isR:kI→Bool)(Z:kI→kC kA→H→Prop)(R:kI→kC kA→H→kA→H→Prop)(L NG:Nat)(f:kI)(a:kC kA)(h:H)(X:kA→H→Prop):Prop:=
 ∃n c,P.funcs[f]?=some n∧n.body=some c∧a.length≤n.ntmps∧
  vA P C isR Z R L NG n.ntmps (jC n) c (jC n) [] (nH 0 a) h fun e r b=>(e=.normal∨e=.ret)∧∃v,aJy P r b n.results.toList=some v∧X (tP v) b
def qT (K:aL P=true)(hm:P.follows .mixedOrders=true)(hC:aO P NG C)(ok:RelOK P NG isR Z R){i:Nat}(G:fK P C isR Z R i NG Q a h X){d:kC kA}(rh:RH NG M h w)(hf:SF M h)(U:LR M a d):Calls P Q ⟨d⟩ w fun e g=>∃v f,X v f∧nI NG M h w v f e g:=by
 obtain⟨q,c,D,hc,l,G⟩:=G;refine callsIn_Fr.1 (callsIn_of_wp_marks (F:=Fr none) (n:=0) D hc trivial ?_);have B:d.length=a.length:=U.1.symm;have f0:FR q.ntmps M (nH 0 a) {tmps:=(⟨d⟩:kH kA)++Array.replicate (q.ntmps-(⟨d⟩:kH kA).size) undef,defers:=[]}:=by
  refine⟨by simp;omega,fun(t:Nat) u hu=>?_⟩;obtain⟨_,z⟩:=wZ a 0 t u hu;simp only[dJ]at z;have k:t<a.length:=(pX.1 z).1;refine⟨kT k l,?_⟩;obtain⟨b,hb,I⟩:=U.get z;have m:t<d.length:=by rw[B];exact k
  have:((⟨d⟩:kH kA)++Array.replicate (q.ntmps-(⟨d⟩:kH kA).size) undef)[t]?=some b:=by
   rw[Array.getElem?_append_left (by simpa using m)];simpa using hb
  simp only[pT,this,pQ];exact I
 refine wpIn_mono (aHa K hm hC ok c _ _ _ _ _ G M _ w rh hf f0) fun e x g ⟨ex,fr,f,⟨E,vs,o,hX⟩,S,N,st,Y,V,W,nd,gd⟩=>?_;have j:LeavesInM (Fr none) 0 P q x.tmps (fun e g=>∃v f,X v f∧nI NG M h w v f e g) x.defers .returning g:=by
  have y:x.defers=V.map (fun r=>(⟨.collected r,#[]⟩:Deferred)):=by rw[W];simp
  rw[y];refine nU V g st nd gd fun L s=>?_;obtain⟨O,p,J⟩:=tG (w:=L) s.rh Y o;exact⟨O,p,_,f,hX,O,N,rfl,s,J⟩
 rcases E with rfl|rfl
 ·cases e with
  |normal=>exact j
  |_=>exact S.elim
 ·cases e with
  |ret=>exact j
  |_=>exact S.elim
end
section
variable {μ Z:Mu}{Y:H}{w':kE}
def Step.pushB (r:RH NG μ h w)(v:μ h.next=none)(B:Below w.heap.size w w'){b:Blk}(t:b.owned=true){l:Loc}(C:w.heap.size≤l.blk)(u:BR (μ.set h.next l) b l w'):
 Step NG μ h w (μ.set h.next l) (h.push b) w':=by
 have o:∀k,k<w.heap.size→w'.heap[k]?=w.heap[k]?:=B.block;exact{
 wf:=r.wf
 le:=Mu.le_set v
 old:=fun j a=>Mu.set_ne _ _ (by omega)
 out:=fun j a=>Mu.set_ne _ _ (by simp at a;omega)
 next:=by simp
 rh:={
  ng:=by have:=r.ng;simp;omega
  wf:=fun j c a=>by
   rw[H.get_push]at a;split at a
   ·rename_i e;subst e;simp
   ·have:=r.wf _ _ a;simp;omega
  br:=fun j c m a d=>by
   rw[H.get_push]at a;split at a
   ·rename_i e;subst e;simp at a;subst a;rw[Mu.set_same]at d;simp at d;subst d;exact u
   ·rename_i e;rw[Mu.set_ne _ _ e]at d;exact((r.br j c m a d).congr (o _ (r.bd _ _ d))).mono (Mu.le_set v)
  inj:=fun j c m D x E a p d i f n=>by
   rw[H.get_push]at a i;split at a
   ·rename_i e;subst e;rw[kL n]at i;rw[Mu.set_same]at d;simp at d;subst d;rw[Mu.set_ne _ _ n]at f;have:=r.bd _ _ f;omega
   ·rename_i e;rw[Mu.set_ne _ _ e]at d;split at i
    ·rename_i q;subst q;rw[Mu.set_same]at f;simp at f;subst f;have:=r.bd _ _ d;omega
    ·rename_i q;rw[Mu.set_ne _ _ q]at f;exact r.inj j c m D x E a p d i f n
  bd:=fun j m d=>by
   by_cases e:j=h.next
   ·subst e;rw[Mu.set_same]at d;simp at d;subst d;exact u.lt
   ·rw[Mu.set_ne _ _ e]at d;have:=r.bd _ _ d;have:=B.size;omega
  gl:=fun g s=>by
   rw[Mu.set_ne _ _ (show g≠h.next by have:=r.ng;omega)];exact r.gl _ s}
 size:=B.size
 os:=B.os
 tape:=B.tape
 output:=B.output
 frame:=fun k z _=>o k z
 src:=fun j c m a p d=>by
  rw[H.get_push]at a;split at a
  ·rename_i e;subst e;rw[Mu.set_same]at d;simp at d;subst d;exact .inl C
  ·rename_i e;rw[Mu.set_ne _ _ e]at d;exact .inr ⟨j,c,m,a,p,d,rfl⟩
 unm:=fun j c a d=>by
  rw[H.get_push,kL (fun e=>by subst e;have:=r.wf _ _ a;omega)];exact a
 dead:=fun j a y=>by
  rw[H.get_push,kL (by omega)];exact y
 ro:=fun j c a p=>by
  rw[H.get_push]at a;split at a
  ·simp only[kP]at a;subst a;rw[t]at p;simp at p
  ·exact a}
def aZi (r:RH NG μ h w)(q:μ h.next=none)(B:Below w.heap.size w w'){size:Nat}(j:w'.ownsRow w.heap.size t size v n a)(E:n≠0)(l:cs.length=a.length)(G:∀(i:Nat) (y b:kA),cs[i]?=some y→a[i]?=some b→VR μ y b∧cellish y=true):
 ∃Z,Step NG μ h w Z (h.push (.cells cs (some size))) w'∧VR Z (.slice (some ⟨h.next,0,none⟩) n (2*n)) v:=by
 obtain⟨J,⟨_,z⟩|⟨g,d,u,rfl,D,o,f,_,s,e⟩⟩:=j
 ·exact dC z E
 ·refine⟨μ.set h.next ⟨g,0,size,d*size⟩,Step.pushB r q B rfl D ⟨u,t,(0,0),o,s,?_,fun i L x=>?_,fun _ i _ k=>by omega,fun K C=>by simpa using C⟩,?_⟩
  ·show 0+cs.length≤d*size;rw[l,J,sR];exact Nat.mul_le_mul_right _ f
  ·have p:i<a.length:=by rw[←l];exact(pX.1 x).1
   obtain⟨c,k⟩:∃c,a[i]?=some c:=⟨_,kZ p⟩;obtain⟨I,m⟩:=G i L c x k;refine⟨c,?_,I.mono (Mu.le_set q),m⟩;have:(u.toList.take (n*size))[i]?=some c:=by rw[e];exact k
   rw[sK]at this;split at this
   ·show u[0+i]?=some c;rw[sR];simpa using this
   ·simp at this
  ·have:=VR.slice (μ:=μ.set h.next ⟨g,0,size,d*size⟩) (off:=0) (len:=n) (c:=2*n) (c':=d) (a':=⟨g,0,none⟩) (Mu.set_same μ h.next ⟨g,0,size,d*size⟩) (by
    unfold fL;rw[kL (by omega)];exact⟨by omega,by simp⟩) (by omega) (fun _=>rfl)
   exact this
end
section
variable {nt:Nat}{C:CF}{isR:kI→Bool}
def aDs {f:kA→H→kB (Ex×T kA×H)}{Q:Ex×T kA×H→Prop}:∀(l:kC (kA×H)),(∀x∈l,∃o,f x.1 x.2=some o∧Q o)→∃b,vB f l=some b∧∀o∈b,Q o
 |[],_=>⟨[],rfl,fun o c=>by simp at c⟩
 |x::r,hx=>by
  obtain⟨o,c,g⟩:=hx x mO;obtain⟨b,e,i⟩:=aDs r fun y a=>hx y (mL _ a);refine⟨o::b,by simp only[vB,c,e],fun y a=>?_⟩;rcases sI.1 a with rfl|a
  ·exact g
  ·exact i y a
end
def bG {Y:Type}(r:kH Oper→Bool→T kA→H→(T kA→H→kB Y)→kB Y)(L N:Nat)(R:kC Tmp):Code→kC Tmp→kC (Nat×kC Tmp)→T kA→H→(Ex→T kA→H→kB Y)→kB Y
  | .skip,out,_,f,h,K=>K .normal (bY f out) h
  | .region _ ops draw,out,_,f,h,K=>r ops draw f h fun f h=>K .normal (bY f out) h
  | .seq a b,out,env,f,h,K=>
    bG r L N R a (live R b out env) env f h fun e d g=>aHr e (fun f h=>bG r L N R b out env f h K) K d g
  | .cond c a b,out,env,f,h,K=>
    (aH N f h c).bind fun v=>aP v (bG r L N R a out env f h K) (bG r L N R b out env f h K)
  | .block id b,out,env,f,h,K=>
    bG r L N R b out ((id,out)::env) f h fun e d g=>nX id e K d g
  | .loop b,_,env,f,h,K=>lN (fun f h K=>bG r L N R b (live R b [] env) env f h K) L (bY f (live R b [] env)) h K
  | .exit id,_,env,f,h,K=>K (.exit id) (bY f (aMd id env)) h
  | .scope b,out,env,f,h,K=>bG r L N R b out env f h K
  | .label _,out,_,f,h,K=>K .normal (bY f out) h
  | .ret,_,_,f,h,K=>K .ret (bY f R) h
  |_,_,_,_,_,_=>none
section
variable {nt:Nat}{C:CF}{isR:kI→Bool}
open Classical in
noncomputable def rgW (P:kD)(C:CF)(NG nt:Nat)(isR:kI→Bool)(o:kI→kC kA→H→Prop)(R:kI→kC kA→H→kA→H→Prop)(ops:kH Oper)(r:Bool)(f:T kA)(h:H)(K:T kA→H→kB Unit):kB Unit:=
  if aEh P C NG nt isR o R ops r f h (fun f h=>K f h=some ())then some ()else none
def rgW_iff :rgW P C NG nt isR d R ops J f h K=some ()↔aEh P C NG nt isR d R ops J f h (fun f h=>K f h=some ()):=by
  unfold rgW;split
  ·rename_i p;exact⟨fun _=>p,fun _=>rfl⟩
  ·rename_i p;exact⟨fun e=>by simp at e,fun e=>dC e p⟩
def vE {ops:kH Oper}{K c:T kA→H→Prop}(k:∀f h,K f h→c f h):∀(l:kC Oper) (f:T kA) (h:H),bE P C NG isR d R ops l f h K→bE P C NG isR d R ops l f h c
  |[],f,h,r=>k f h r
  |o::rest,f,h,r=>by
    have i:=vE (ops:=ops) k rest;have u:∀f:T kA,
        (match bP isR o,o.op with
          |some true,.call ⟨.value (.func g),args,_⟩=>∃s,eT (aH NG f h) args.toList=some s∧d g s h∧∀v a,R g s h v a→bE P C NG isR d R ops rest (cS f o.dst (some v)) a K
          |_,_=>∃b a,aop P C (aH NG f h) h o aY=some (b,a)∧bE P C NG isR d R ops rest (cS f o.dst b) a K)→
        (match bP isR o,o.op with
          |some true,.call ⟨.value (.func g),args,_⟩=>∃s,eT (aH NG f h) args.toList=some s∧d g s h∧∀v a,R g s h v a→bE P C NG isR d R ops rest (cS f o.dst (some v)) a c
          |_,_=>∃b a,aop P C (aH NG f h) h o aY=some (b,a)∧bE P C NG isR d R ops rest (cS f o.dst b) a c):=by
      intro f r;split at r
      ·obtain⟨s,e,j,h3⟩:=r;exact⟨s,e,j,fun v a m=>i _ _ (h3 v a m)⟩
      ·obtain⟨b,a,e,j⟩:=r;exact⟨b,a,e,i _ _ j⟩
    simp only[bE]at r⊢;split at r
    ·exact u f r
    ·split at r
     ·exact r
     ·split at r
      ·split at r
       ·exact u _ r
       ·exact i _ _ r
      ·exact i _ _ r
      ·exact r
def aKq {K g:T kA→H→Prop}(b:∀f h,K f h→g f h)(m:aEh P C NG nt isR d R O J f h K):aEh P C NG nt isR d R O J f h g:=by
  rcases m with⟨l,hl,a⟩|⟨e,hd,a⟩|⟨e,hd,hdr,hq,hA⟩
  ·exact .inl ⟨l,hl,fun o k=>b _ _ (a o k)⟩
  ·exact .inr (.inl ⟨e,hd,vE b _ _ _ a⟩)
  ·refine .inr (.inr ⟨e,hd,hdr,hq,fun n c=>?_⟩);obtain⟨r,i,a,j⟩:=hA n c;exact⟨r,i,a,b _ _ j⟩
def aOi {f:T kA→H→(Ex→T kA→H→kB Unit)→kB Unit}{g:T kA→H→KW→Prop}(b:∀r h K K',(∀e r h,K e r h=some ()→K' e r h)→f r h K=some ()→g r h K'):
    ∀(n:Nat) (r:T kA) (h:H) (K:Ex→T kA→H→kB Unit) (K':KW),(∀e r h,K e r h=some ()→K' e r h)→lN f n r h K=some ()→aMc g n r h K'
  |0,_,_,_,_,_,hr=>by simp[lN]at hr
  |n+1,r,h,K,K',hK,hr=>b r h _ _ (fun e a c k=>by
      cases e with
      |normal=>exact aOi b n a c K K' hK k
      |exit j=>exact hK _ _ _ k
      |ret=>exact hK _ _ _ k) hr
abbrev aBz:T kA→H→kB (T kA×H):=fun f h=>some (f,h)
def aGc (a:kK→kB kA)(h:H)(o:Oper)(K:kB kA→H→kB Y)(K1:kB kA→H→kB (T kA×H))(k:T kA×H→kB Y)(e:∀r h,K r h=(K1 r h).bind k):
    aop P C a h o (bN P o K)=(aop P C a h o (bN P o K1)).bind k:=by
  rw[eH (K:=bN P o K),eH (K:=bN P o K1)]
  cases aop P C a h o aY with
  |none=>rfl
  |some p=>
    simp only[pR,bN]
    cases oO P o.type with
    |false=>exact e _ _
    |true=>
      simp only[sV]
      cases p.1 with
      |none=>exact e _ _
      |some v=>cases v with
        |bool b=>exact e _ _
        |_=>rfl
def gH {Y:Type}{ops:kH Oper}{K:T kA→H→kB Y}:∀(l:kC Oper) (f:T kA) (h:H),runOps P C NG ops l f h K=(runOps P C NG ops l f h aBz).bind fun p=>K p.1 p.2
  |[],f,h=>rfl
  |o::rest,f,h=>by
    have i:=fun f h=>gH (ops:=ops) (K:=K) rest f h;have r:∀f:T kA,aop P C (aH NG f h) h o (bN P o fun v a=>runOps P C NG ops rest (cS f o.dst v) a K)=(aop P C (aH NG f h) h o (bN P o fun v a=>runOps P C NG ops rest (cS f o.dst v) a aBz)).bind fun p=>K p.1 p.2:=
      fun f=>aGc _ _ _ _ _ _ fun v h=>i _ _
    simp only[runOps];split
    ·exact r f
    ·rename_i j w g;split
     ·rfl
     ·split
      ·rename_i b _;cases b<;>cases w<;>first|exact r _|exact i _ _
      ·exact i _ _
      ·rfl
def qD {l:kC Oper}(b:runOps P C NG ops l f h K=some ()):
    ∃r a,runOps P C NG ops l f h aBz=some (r,a)∧K r a=some ():=by
  rw[gH]at b;obtain⟨⟨r,a⟩,c,e⟩:=bind_some b;exact⟨r,a,c,e⟩
def aZk (e:gC nt ops=true)(g:nE P C NG nt ops false f h=none)(j:runOps P C NG ops ops.toList f h K=some ()):rgW P C NG nt isR d R ops false f h K=some ():=by
  obtain⟨r,a,b,c⟩:=qD j;refine rgW_iff.2 (.inl ⟨[(.normal,r,a)],?_,fun o i=>by rw[mC.1 i];exact c⟩);unfold aJz;rw[g];simp only[e,sV,sW];rw[gH,b];rfl
def rU {Y:Type}{ops:kH Oper}{bef:kC Nat}{K:T kA→H→kB Y}:∀(l:kC Oper) (i:Nat) (f:T kA) (h:H) (e:kC (Nat×H)) (s:kC (Nat×Oper×T kA×kA)),
    runD P C NG ops bef i l f h e s K=(runD P C NG ops bef i l f h e s aBz).bind fun p=>K p.1 p.2
  |[],i,f,h,e,s=>rfl
  |o::rest,i,f,h,e,s=>by
    have k:=fun f h e s=>rU (ops:=ops) (bef:=bef) (K:=K) rest (i+1) f h e s;have u:∀f:T kA,
        (match bL P o with
          |some .effect=>aop P C (aH NG f h) h o<|bN P o fun r a=>
              bif s.all (fun(j,m,c,n)=>Nat.testBit (bef.getD i 0) j||bV P NG m c a n)then
                runD P C NG ops bef (i+1) rest (cS f o.dst r) a ((i,h)::e) s K else none
          |some .reads=>aop P C (aH NG f h) h o<|bN P o fun r a=>
              (match r with
               |some v=>bif e.all (fun(p,g)=>Nat.testBit (bef.getD i 0) p||bV P NG o f g v)then
                  runD P C NG ops bef (i+1) rest (cS f o.dst r) a e ((i,o,f,v)::s) K else none
               |none=>none)
          |some _=>aop P C (aH NG f h) h o<|bN P o fun r a=>runD P C NG ops bef (i+1) rest (cS f o.dst r) a e s K
          |none=>none)=
        (match bL P o with
          |some .effect=>aop P C (aH NG f h) h o<|bN P o fun r a=>
              bif s.all (fun(j,m,c,n)=>Nat.testBit (bef.getD i 0) j||bV P NG m c a n)then
                runD P C NG ops bef (i+1) rest (cS f o.dst r) a ((i,h)::e) s aBz else none
          |some .reads=>aop P C (aH NG f h) h o<|bN P o fun r a=>
              (match r with
               |some v=>bif e.all (fun(p,g)=>Nat.testBit (bef.getD i 0) p||bV P NG o f g v)then
                  runD P C NG ops bef (i+1) rest (cS f o.dst r) a e ((i,o,f,v)::s) aBz else none
               |none=>none)
          |some _=>aop P C (aH NG f h) h o<|bN P o fun r a=>runD P C NG ops bef (i+1) rest (cS f o.dst r) a e s aBz
          |none=>none).bind fun p=>K p.1 p.2:=by
      intro f;split
      ·refine aGc _ _ _ _ _ _ fun r a=>?_
       cases s.all (fun(j,m,c,n)=>Nat.testBit (bef.getD i 0) j||bV P NG m c a n)with
       |true=>exact k _ _ _ _
       |false=>rfl
      ·refine aGc _ _ _ _ _ _ fun r a=>?_
       cases r with
       |none=>rfl
       |some v=>
         dsimp only
         cases e.all (fun(p,g)=>Nat.testBit (bef.getD i 0) p||bV P NG o f g v)with
         |true=>exact k _ _ _ _
         |false=>rfl
      ·exact aGc _ _ _ _ _ _ fun r a=>k _ _ _ _
      ·rfl
    simp only[runD];split
    ·exact u f
    ·rename_i j w q;split
     ·rfl
     ·split
      ·rename_i b _;cases b<;>cases w<;>first|exact u _|exact k _ _ _ _
      ·exact k _ _ _ _
      ·rfl
def aDd {b:kC Nat}{l:kC Oper}{e:kC (Nat×H)}{s:kC (Nat×Oper×T kA×kA)}(c:runD P C NG O b n l f h e s K=some ()):
    ∃r a,runD P C NG O b n l f h e s aBz=some (r,a)∧K r a=some ():=by
  rw[rU]at c;obtain⟨⟨r,a⟩,g,i⟩:=bind_some c;exact⟨r,a,g,i⟩
def aTu (g:gC nt O=true)(a:lR P O (before O)=true)(k:runD P C NG O (before O) 0 O.toList f h [] [] K=some ()):rgW P C NG nt isR d R O true f h K=some ():=by
  obtain⟨r,b,c,e⟩:=aDd k;refine rgW_iff.2 (.inl ⟨[(.normal,r,b)],?_,fun o j=>by rw[mC.1 j];exact e⟩);have i:nE P C NG nt O true f h=none:=by unfold nE;simp
  unfold aJz;rw[i];simp only[g,a,sV];rw[rU,c];rfl
def aZj (e:gC nt O=true)(b:lR P O (before O)=true)(g:aFr isR O (before O) q=true)(r:∀a,Val isR d R a→runD P (lZ C isR a) NG O (before O) 0 O.toList f h [] [] K=some ()):rgW P C NG nt isR d R O true f h K=some ():=
  rgW_iff.2 (.inr (.inr ⟨rfl,e,b,⟨q,g⟩,fun a c=>aDd (r a c)⟩))
open Classical in
noncomputable def okU (p:Prop):kB Unit:=if p then some ()else none
def okU_iff {p:Prop}:okU p=some ()↔p:=by
  unfold okU;split
  ·rename_i h;exact⟨fun _=>h,fun _=>rfl⟩
  ·rename_i h;exact⟨fun e=>by simp at e,fun e=>dC e h⟩
def A.b (x:kA)(h:H):kB (kC (kA×H)):=match A.a x h with
  |some l=>some l
  |none=>(A.yK x h).map fun p=>[p]
noncomputable def aKi (o:kB (kC (kA×H)))(f:kA→H→kB Unit):kB Unit:=okU (∃l,o=some l∧∀x∈l,f x.1 x.2=some ())
def aTt {s:kB Tmp}{x:kK}{I:String}{i:kH Edge}{r:kC Oper}(c:O.toList=⟨s,.next x false,t,I,i,none⟩::r)(z:gC nt O=true)(E:oO P t=false){e:T kA}(G:aH NG e h x=some v)(S:aKi (A.b v h) (fun u h=>runOps P C NG O r (cS e s (some u)) h K)=some ()):rgW P C NG nt isR d R O false e h K=some ():=by
  obtain⟨l,k,g⟩:=okU_iff.1 S;refine rgW_iff.2 (.inl ?_);unfold A.b at k
  cases m:A.a v h with
  |some V=>
    rw[m]at k;simp only[kP]at k;subst k;obtain⟨J,D,L⟩:=aDs (f:=fun v h=>runOps P C NG O r (cS e s (some v)) h fun e h=>some (Ex.normal,e,h)) (Q:=fun o=>K o.2.1 o.2.2=some ()) V (fun y U=>by
      obtain⟨j,n,q,w⟩:=qD (g y U);exact⟨(.normal,j,n),by rw[gH,q];rfl,w⟩)
    refine⟨J,?_,L⟩;have:nE P C NG nt O false e h=some J:=by
      unfold nE;simp only[z,sQ,Bool.and_self,sV,c,G,m,D]
    unfold aJz;rw[this]
  |none=>
    rw[m]at k;obtain⟨p,N,rfl⟩:=sZ.1 k;obtain⟨j,n,q,w⟩:=qD (g p (mC.2 rfl));refine⟨[(.normal,j,n)],?_,fun o M=>by rw[mC.1 M];exact w⟩;have B:nE P C NG nt O false e h=none:=by
      unfold nE;simp only[z,sQ,Bool.and_self,sV,c,G,m]
    obtain⟨u,W⟩:=p;unfold aJz;rw[B];simp only[z,sV,sW,c,runOps,aop,G,N,bN,E,pR];rw[gH,q];rfl
end
def CF.le (C b:CF):Prop:=∀f a h r,C f a h=some r→b f a h=some r
def CF.le_refl (C:CF):C.le C:=fun _ _ _ _ h=>h
def CF.le.trans {A D C:CF}(x:A.le D)(y:D.le C):A.le C:=fun _ _ _ _ h=>y _ _ _ _ (x _ _ _ _ h)
structure Dir (S:CF→Prop)(Ci:CF):Prop where
  ne:∃C,S C
  up:∀A B,S A→S B→∃C,S C∧A.le C∧B.le C
  fin:∀f args h r,Ci f args h=some r→∃C,S C∧C f args h=some r
def Dir.one (C:CF):Dir (fun A=>A=C) C:=⟨⟨C,rfl⟩,fun A B a b=>⟨C,rfl,a▸CF.le_refl _,b▸CF.le_refl _⟩,fun _ _ _ _ h=>⟨C,rfl,h⟩⟩
section
variable {S:CF→Prop}{Ci:CF}
def aJr {A D:CF}(d:A.le D)(b:callV A v a h=some r):callV D v a h=some r:=by
  unfold callV at b⊢;split at b
  ·obtain⟨c,b⟩:=aB b;simp only[c,sV];exact d _ _ _ _ b
  ·exact d _ _ _ _ b
  ·cases b
def aUt {A D:CF}(c:A.le D)(b:callM P A v a h=some r):callM P D v a h=some r:=by
  unfold callM at b⊢;split at b
  ·split at b
   ·obtain⟨f,b⟩:=aB b;obtain⟨p,d,b⟩:=bind_some b;obtain⟨q,e,b⟩:=bind_some b;simp only[*,sV,pR];exact c _ _ _ _ b
   ·cases b
  ·exact aJr c b
def Dir.callV (d:Dir S Ci){v:kA}{a:kC kA}{h:H}{r:kA×H}(b:callV Ci v a h=some r):∃C,S C∧callV C v a h=some r:=by
  unfold AM.callV at b⊢;split at b
  ·obtain⟨f,b⟩:=aB b;obtain⟨C,c,e⟩:=d.fin _ _ _ _ b;exact⟨C,c,by simp only[f,sV];exact e⟩
  ·exact d.fin _ _ _ _ b
  ·cases b
def Dir.callM (d:Dir S Ci){f:kA}{a:kC kA}{h:H}{r:kA×H}(b:callM P Ci f a h=some r):∃C,S C∧callM P C f a h=some r:=by
  unfold AM.callM at b⊢;split at b
  ·split at b
   ·obtain⟨j,b⟩:=aB b;obtain⟨p,g,b⟩:=bind_some b;obtain⟨q,i,b⟩:=bind_some b;obtain⟨C,c,e⟩:=d.fin _ _ _ _ b;exact⟨C,c,by simp only[*,sV,pR]⟩
   ·cases b
  ·exact d.callV b
def bMp {A D:CF}(j:A.le D){r:kB kA×H}(d:aop P A G h o aY=some r):aop P D G h o aY=some r:=by
  unfold aop at d⊢
  cases e:o.op with
  |call c=>
    rw[e]at d
    cases g:c.callee with
    |value f=>
      simp only[g]at d⊢;split at d
      ·rename_i k l;obtain⟨q,i,d⟩:=bind_some d;simp only[aUt j i,pR];exact d
      ·cases d
    |builtin b=>simp only[g]at d⊢;exact d
    |invoke a b=>simp only[g]at d⊢;exact d
  |makeFunc f a b=>rw[e]at d;cases f<;>exact d
  |makeMap t r=>rw[e]at d;cases r<;>exact d
  |_=>rw[e]at d;exact d
def Dir.aop (d:Dir S Ci){ρ:kK→kB kA}{x:H}{o:Oper}{r:kB kA×H}(h:aop P Ci ρ x o aY=some r):∃C,S C∧aop P C ρ x o aY=some r:=by
  obtain⟨C0,i⟩:=d.ne;unfold AM.aop at h⊢
  cases g:o.op with
  |call c=>
    rw[g]at h
    cases j:c.callee with
    |value f=>
      simp only[j]at h⊢;split at h
      ·rename_i m n;obtain⟨q,l,h⟩:=bind_some h;obtain⟨C,k,e⟩:=d.callM l;exact⟨C,k,by simp only[e,pR];exact h⟩
      ·cases h
    |builtin b=>simp only[j]at h⊢;exact⟨C0,i,h⟩
    |invoke a b=>simp only[j]at h⊢;exact⟨C0,i,h⟩
  |makeFunc f a b=>rw[g]at h;refine⟨C0,i,?_⟩;cases f<;>exact h
  |makeMap t r=>rw[g]at h;refine⟨C0,i,?_⟩;cases r<;>exact h
  |_=>rw[g]at h;exact⟨C0,i,h⟩
def Dir.aopT (d:Dir S Ci){γ:Type}{K:kB kA→H→kB Y}{r:Y}(a:AM.aop P Ci G h o (bN P o K)=some r):
    ∃b c,K b c=some r∧∃C,S C∧∀C',C.le C'→∀K':kB kA→H→kB γ,AM.aop P C' G h o (bN P o K')=K' b c:=by
  rw[eH]at a;obtain⟨⟨b,c⟩,f,a⟩:=bind_some a;obtain⟨C,g,e⟩:=d.aop f;have k:=eM a;refine⟨b,c,k,C,g,fun C' hle K'=>?_⟩;rw[eH,bMp hle e,pR];simp only[bN]at a⊢
  cases i:oO P o.type with
  |false=>rfl
  |true=>
    rw[i]at a;simp only[sV]at a⊢
    cases b with
    |none=>rfl
    |some v=>cases v<;>first|rfl|(simp[aF]at a)
def Dir.runOps (d:Dir S Ci){Y γ:Type}{ops:kH Oper}{K:T kA→H→kB Y}{r:Y}:∀(l:kC Oper) (a:T kA) (h:H),AM.runOps P Ci NG ops l a h K=some r→
    ∃f e,K f e=some r∧∃C,S C∧∀C',C.le C'→∀K':T kA→H→kB γ,AM.runOps P C' NG ops l a h K'=K' f e
  |[],a,h,c=>let⟨C,hC⟩:=d.ne;⟨a,h,c,C,hC,fun _ _ _=>rfl⟩
  |o::rest,a,h,c=>by
    have m:=fun a h=>d.runOps (ops:=ops) (K:=K) (r:=r) (γ:=γ) rest a h;have u:∀a:T kA,AM.aop P Ci (aH NG a h) h o (bN P o fun v e=>AM.runOps P Ci NG ops rest (cS a o.dst v) e K)=some r→
        ∃f e,K f e=some r∧∃C,S C∧∀C',C.le C'→∀K':T kA→H→kB γ,AM.aop P C' (aH NG a h) h o (bN P o fun v e=>AM.runOps P C' NG ops rest (cS a o.dst v) e K')=K' f e:=by
      intro a c;obtain⟨v,D,y,C1,g,n⟩:=d.aopT (γ:=γ) c;obtain⟨f,e,q,C2,i,p⟩:=m _ _ y;obtain⟨C3,k,z,B⟩:=d.up _ _ g i;exact⟨f,e,q,C3,k,fun C' hle K'=>by rw[n C' (z.trans hle),p C' (B.trans hle)]⟩
    simp only[AM.runOps]at c⊢;split at c
    ·exact u a c
    ·rename_i j w E
     skip
     split at c
     ·cases c
     ·rename_i t x
      skip
      split at c
      ·rename_i b s
       skip
       cases b<;>cases w<;>first|exact u _ c|exact m _ _ c
      ·rename_i G s;exact m _ _ c
      ·cases c
def Dir.runD (d:Dir S Ci){Y γ:Type}{ops:kH Oper}{bef:kC Nat}{K:T kA→H→kB Y}{r:Y}:∀(l:kC Oper) (i:Nat) (f:T kA) (h:H) (s:kC (Nat×H)) (k:kC (Nat×Oper×T kA×kA)),AM.runD P Ci NG ops bef i l f h s k K=some r→
    ∃c a,K c a=some r∧∃C,S C∧∀C',C.le C'→∀K':T kA→H→kB γ,AM.runD P C' NG ops bef i l f h s k K'=K' c a
  |[],i,f,h,s,k,e=>let⟨C,hC⟩:=d.ne;⟨f,h,e,C,hC,fun _ _ _=>rfl⟩
  |o::rest,i,f,h,s,k,e=>by
    have D:=fun f h s k=>d.runD (ops:=ops) (bef:=bef) (K:=K) (r:=r) (γ:=γ) rest (i+1) f h s k;have I:∀f:T kA,(match bL P o with
      |some .effect=>AM.aop P Ci (aH NG f h) h o<|bN P o fun g a=>
          bif k.all (fun(j,M,w,N)=>Nat.testBit (bef.getD i 0) j||bV P NG M w a N)then
            AM.runD P Ci NG ops bef (i+1) rest (cS f o.dst g) a ((i,h)::s) k K else none
      |some .reads=>AM.aop P Ci (aH NG f h) h o<|bN P o fun g a=>
          (match g with
           |some v=>bif s.all (fun(p,L)=>Nat.testBit (bef.getD i 0) p||bV P NG o f L v)then
              AM.runD P Ci NG ops bef (i+1) rest (cS f o.dst g) a s ((i,o,f,v)::k) K else none
           |none=>none)
      |some _=>AM.aop P Ci (aH NG f h) h o<|bN P o fun g a=>AM.runD P Ci NG ops bef (i+1) rest (cS f o.dst g) a s k K
      |none=>none)=some r→
        ∃c a,K c a=some r∧∃C,S C∧∀C',C.le C'→∀K':T kA→H→kB γ,(match bL P o with
      |some .effect=>AM.aop P C' (aH NG f h) h o<|bN P o fun g a=>
          bif k.all (fun(j,M,w,N)=>Nat.testBit (bef.getD i 0) j||bV P NG M w a N)then
            AM.runD P C' NG ops bef (i+1) rest (cS f o.dst g) a ((i,h)::s) k K' else none
      |some .reads=>AM.aop P C' (aH NG f h) h o<|bN P o fun g a=>
          (match g with
           |some v=>bif s.all (fun(p,L)=>Nat.testBit (bef.getD i 0) p||bV P NG o f L v)then
              AM.runD P C' NG ops bef (i+1) rest (cS f o.dst g) a s ((i,o,f,v)::k) K' else none
           |none=>none)
      |some _=>AM.aop P C' (aH NG f h) h o<|bN P o fun g a=>AM.runD P C' NG ops bef (i+1) rest (cS f o.dst g) a s k K'
      |none=>none)=K' c a:=by
      intro f e;split at e
      ·obtain⟨g,O,u,C1,m,x⟩:=d.aopT (γ:=γ) e;obtain⟨B,u⟩:=aB u;obtain⟨c,a,z,C2,n,y⟩:=D _ _ _ _ u;obtain⟨C3,q,E,G⟩:=d.up _ _ m n;exact⟨c,a,z,C3,q,fun C' hle K'=>by rw[x C' (E.trans hle),B,sV,y C' (G.trans hle)]⟩
      ·obtain⟨g,O,u,C1,m,x⟩:=d.aopT (γ:=γ) e
       cases g with
       |none=>cases u
       |some v=>
         obtain⟨B,u⟩:=aB u;obtain⟨c,a,z,C2,n,y⟩:=D _ _ _ _ u;obtain⟨C3,q,E,G⟩:=d.up _ _ m n;exact⟨c,a,z,C3,q,fun C' hle K'=>by rw[x C' (E.trans hle)];dsimp only;rw[B,sV,y C' (G.trans hle)]⟩
      ·obtain⟨g,O,u,C1,m,x⟩:=d.aopT (γ:=γ) e;obtain⟨c,a,z,C2,n,y⟩:=D _ _ _ _ u;obtain⟨C3,q,E,G⟩:=d.up _ _ m n;exact⟨c,a,z,C3,q,fun C' hle K'=>by rw[x C' (E.trans hle),y C' (G.trans hle)]⟩
      ·cases e
    simp only[AM.runD]at e⊢;split at e
    ·exact I f e
    ·rename_i j J R
     skip
     split at e
     ·cases e
     ·rename_i t Q
      skip
      split at e
      ·rename_i b B
       skip
       cases b<;>cases J<;>first|exact I _ e|exact D _ _ _ _ e
      ·rename_i U B;exact D _ _ _ _ e
      ·cases e
def Dir.execK (d:Dir S Ci){Y γ:Type}{L nt:Nat}{RR:kC Tmp}:∀(c:Code) (o:kC Tmp) (env:kC (Nat×kC Tmp)) (i:T kA) (h:H) (K:Ex→T kA→H→kB Y) (r:Y),AM.execK P Ci L NG nt RR c o env i h K=some r→
    ∃y g z,K y g z=some r∧∃C,S C∧∀C',C.le C'→∀L',L≤L'→∀K':Ex→T kA→H→kB γ,AM.execK P C' L' NG nt RR c o env i h K'=K' y g z:=by
  obtain⟨C0,X⟩:=d.ne;intro c
  induction c with
  |skip=>intro o env i h K r f;exact⟨_,_,_,f,C0,X,fun _ _ _ _ _=>rfl⟩
  |label l=>intro o env i h K r f;exact⟨_,_,_,f,C0,X,fun _ _ _ _ _=>rfl⟩
  |exit id=>intro o env i h K r f;exact⟨_,_,_,f,C0,X,fun _ _ _ _ _=>rfl⟩
  |ret=>intro o env i h K r f;exact⟨_,_,_,f,C0,X,fun _ _ _ _ _=>rfl⟩
  |region id g3 U=>
    intro o env i h K r f;simp only[AM.execK]at f⊢;obtain⟨hd,f⟩:=aB f
    cases U with
    |false=>
      simp only[sW]at f⊢;obtain⟨g,z,E,C,D,e⟩:=d.runOps (γ:=γ) _ _ _ f;exact⟨_,_,_,E,C,D,fun C' hle _ _ K'=>by rw[hd,sV,e C' hle]⟩
    |true=>
      simp only[sV]at f⊢;obtain⟨b3,f⟩:=aB f;obtain⟨g,z,E,C,D,e⟩:=d.runD (γ:=γ) _ _ _ _ _ _ f;exact⟨_,_,_,E,C,D,fun C' hle _ _ K'=>by rw[hd,sV,b3,sV,e C' hle]⟩
  |seq a b M N=>
    intro o env i h K r f;simp only[AM.execK]at f⊢;obtain⟨y,V,O,B,C1,w,G⟩:=M _ _ _ _ _ _ f
    cases y with
    |normal=>
      obtain⟨y,g,z,E,C2,I,e2⟩:=N _ _ _ _ _ _ B;obtain⟨C3,J,l1,l2⟩:=d.up _ _ w I;exact⟨y,g,z,E,C3,J,fun C' hle L' q K'=>by rw[G C' (l1.trans hle) L' q];exact e2 C' (l2.trans hle) L' q K'⟩
    |exit j=>exact⟨_,_,_,B,C1,w,fun C' hle L' q K'=>by rw[G C' hle L' q];rfl⟩
    |ret=>exact⟨_,_,_,B,C1,w,fun C' hle L' q K'=>by rw[G C' hle L' q];rfl⟩
  |cond x a b M N=>
    intro o env i h K r f;simp only[AM.execK]at f⊢;obtain⟨v,R,f⟩:=bind_some f
    cases v with
    |bool t=>
      cases t with
      |true=>
        obtain⟨y,g,z,E,C,D,e⟩:=M _ _ _ _ _ _ f;exact⟨y,g,z,E,C,D,fun C' hle L' q K'=>by rw[R];exact e C' hle L' q K'⟩
      |false=>
        obtain⟨y,g,z,E,C,D,e⟩:=N _ _ _ _ _ _ f;exact⟨y,g,z,E,C,D,fun C' hle L' q K'=>by rw[R];exact e C' hle L' q K'⟩
    |_=>simp[aP]at f
  |block id b W=>
    intro o env i h K r f;simp only[AM.execK]at f⊢;obtain⟨y,V,O,B,C1,w,G⟩:=W _ _ _ _ _ _ f
    cases y with
    |normal=>exact⟨_,_,_,B,C1,w,fun C' hle L' q K'=>by rw[G C' hle L' q];rfl⟩
    |exit j=>
      simp only[nX]at B
      cases Z:Nat.beq j id with
      |true=>rw[Z]at B;exact⟨_,_,_,B,C1,w,fun C' hle L' q K'=>by rw[G C' hle L' q];simp only[nX,Z,sV]⟩
      |false=>rw[Z]at B;exact⟨_,_,_,B,C1,w,fun C' hle L' q K'=>by rw[G C' hle L' q];simp only[nX,Z,sW]⟩
    |ret=>exact⟨_,_,_,B,C1,w,fun C' hle L' q K'=>by rw[G C' hle L' q];rfl⟩
  |loop b W=>
    intro o env i h K r f;simp only[AM.execK]at f⊢;have f3:∀(n:Nat) (i:T kA) (h:H),lN (fun i h K=>AM.execK P Ci L NG nt RR b (live RR b [] env) env i h K) n i h K=some r→
        ∃y g z,K y g z=some r∧∃C,S C∧∀C',C.le C'→∀L',L≤L'→∀m,n≤m→∀K':Ex→T kA→H→kB γ,lN (fun i h K=>AM.execK P C' L' NG nt RR b (live RR b [] env) env i h K) m i h K'=K' y g z:=by
      intro n
      induction n with
      |zero=>intro i h f;cases f
      |succ n e3=>
        intro i h f;simp only[lN]at f;obtain⟨y,V,O,B,C1,w,G⟩:=W _ _ _ _ _ _ f;have sc:∀m,n+1≤m→∃k,m=k+1∧n≤k:=fun m Q=>⟨m-1,by omega,by omega⟩
        cases y with
        |normal=>
          obtain⟨y,g,z,E,C2,I,e2⟩:=e3 _ _ B;obtain⟨C3,J,l1,l2⟩:=d.up _ _ w I;refine⟨y,g,z,E,C3,J,fun C' hle L' q m Q K'=>?_⟩;obtain⟨k,rfl,B⟩:=sc m Q;simp only[lN];rw[G C' (l1.trans hle) L' q];exact e2 C' (l2.trans hle) L' q k B K'
        |exit j=>
          refine⟨_,_,_,B,C1,w,fun C' hle L' q m Q K'=>?_⟩;obtain⟨k,rfl,_⟩:=sc m Q;simp only[lN];rw[G C' hle L' q];rfl
        |ret=>
          refine⟨_,_,_,B,C1,w,fun C' hle L' q m Q K'=>?_⟩;obtain⟨k,rfl,_⟩:=sc m Q;simp only[lN];rw[G C' hle L' q];rfl
    obtain⟨y,g,z,E,C,D,e⟩:=f3 L _ _ f;exact⟨y,g,z,E,C,D,fun C' hle L' q K'=>e C' hle L' q L' q K'⟩
  |scope b W=>
    intro o env i h K r f;simp only[AM.execK]at f⊢;exact W _ _ _ _ _ _ f
  |rangeFunc gv ps as bd _ _=>
    intro o env i h K r f;simp only[AM.execK]at f⊢;obtain⟨v,R,f⟩:=bind_some f;obtain⟨hf,f⟩:=aB f;obtain⟨⟨u,h2⟩,hc,f⟩:=bind_some f;obtain⟨C,D,e⟩:=d.callV hc;have hx:∀(l:kC (Nat×kC Tmp)) (id:Nat) (h3:H),exL (l.map fun p=>(p.1,fun h=>K (.exit p.1) (bY i p.2) h)) id h3=some r→∃s,K (.exit id) (bY i s) h3=some r∧∀K':Ex→T kA→H→kB γ,exL (l.map fun p=>(p.1,fun h=>K' (.exit p.1) (bY i p.2) h)) id h3=K' (.exit id) (bY i s) h3:=by
      intro l
      induction l with
      |nil=>intro id h3 f;cases f
      |cons p l d3=>
        intro id h3 f;simp only[mH,exL]at f⊢
        cases hb:Nat.beq p.1 id with
        |true=>
          rw[hb]at f;have:=beq_iff.1 hb;subst this;exact⟨_,f,fun K'=>rfl⟩
        |false=>rw[hb]at f;obtain⟨s,O,h2⟩:=d3 id h3 f;exact⟨s,O,fun K'=>by rw[←h2 K'];rfl⟩
    have he:∀C',C.le C'→AM.callV C' v [.func (.yield h.next) #[] #[]] (h.push (.loop nt i ps.toList as bd .ready))=some (u,h2):=fun C' hle=>aJr hle e;simp only[oU]at f;split at f
    ·rename_i hg;split at f
     ·exact⟨_,_,_,f,C,D,fun C' hle _ _ K'=>by rw[R,pR,hf,sV,he C' hle,pR];simp only[oU,hg]⟩
     ·exact⟨_,_,_,f,C,D,fun C' hle _ _ K'=>by rw[R,pR,hf,sV,he C' hle,pR];simp only[oU,hg]⟩
     ·obtain⟨s,O,a3⟩:=hx env _ _ f;exact⟨_,_,_,O,C,D,fun C' hle _ _ K'=>by rw[R,pR,hf,sV,he C' hle,pR];simp only[oU,hg,a3 K']⟩
     ·cases f
    ·cases f
  |_=>intro o env i h K r f;simp[AM.execK]at f
def aDf {A D:CF}(hle:A.le D){i:Nat}(L:n≤i){id:Nat}(b:roundK P A n NG id a h (fun v h=>some (v,h))=some r):roundK P D i NG id a h (fun v h=>some (v,h))=some r:=by
  unfold roundK at b⊢;split at b
  ·obtain⟨l,b⟩:=aB b;obtain⟨x,g,m,k,C,rfl,e⟩:=(Dir.one A).execK (γ:=kA×H) _ _ _ _ _ _ _ b;rw[l,sV,e D hle i L]
   cases x with
   |normal=>
     dsimp only at k⊢
     split at k
     ·obtain⟨x,j,h3,d,C2,c,f⟩:=(Dir.one C).execK (γ:=kA×H) _ _ _ _ _ _ _ k;subst c;rw[f D hle i L];exact d
     ·cases k
   |_=>cases k
  ·cases b
def Dir.roundK (d:Dir S Ci){n:Nat}{id:Nat}{a:kC kA}{h:H}{r:kA×H}(b:AM.roundK P Ci n NG id a h (fun v h=>some (v,h))=some r):∃C,S C∧AM.roundK P C n NG id a h (fun v h=>some (v,h))=some r:=by
  unfold AM.roundK at b⊢;split at b
  ·obtain⟨m,b⟩:=aB b;obtain⟨x,j,s,k,C1,c,g⟩:=d.execK (γ:=kA×H) _ _ _ _ _ _ _ b
   cases x with
   |normal=>
     dsimp only at k
     split at k
     ·rename_i o;obtain⟨x,l,h3,k,C2,e,i⟩:=d.execK (γ:=kA×H) _ _ _ _ _ _ _ k;obtain⟨C3,f,p,q⟩:=d.up _ _ c e;refine⟨C3,f,?_⟩;rw[m,sV,g C3 p n (kQ _)]
      dsimp only
      rw[o]
      dsimp only
      rw[i C3 q n (kQ _)];exact k
     ·cases k
   |_=>cases k
  ·cases b
end
def jF (P:kD)(NG:Nat)(D:CF):Nat→CF
  |0=>fun _ _ _=>none
  |n+1=>fun f a h=>
    match D f a h with
    |some r=>some r
    |none=>
      match P.funcs[f]? with
      |none=>bif Nat.beq f 1099511627776 then bFb a fun id s=>roundK P (jF P NG D n) n NG id s h fun v h=>some (v,h)else none
      |some b=>match b.body with
        |none=>tT (xS b) a h
        |some c=>fR P (jF P NG D n) n NG b c a h fun v h=>some (v,h)
section
def aHk (z:aL P=true)(K:P.follows .mixedOrders=true)(L:iB P=true){D:CF}(hD:aO P NG D):∀(n:Nat),aO P NG (jF P NG D n):=by
  intro n
  induction n with
  |zero=>intro f d h v V r;simp[jF]at r
  |succ n O=>
    intro f d h v V r;simp only[jF]at r
    cases M:D f d h with
    |some u=>
      rw[M]at r;simp only[kP]at r;subst r;exact hD _ _ _ _ _ M
    |none=>
    rw[M]at r;simp only[]at r;split at r
    ·obtain⟨g,r⟩:=aB r;have g:=beq_iff.1 g;obtain⟨x,us,k0,rfl,w⟩:=aCv r;replace r:=w;clear w;unfold roundK at r;split at r
     ·rename_i nt Z ps s o E;obtain⟨p,r⟩:=aB r;simp only[pA,mB]at p;obtain⟨⟨⟨W,h2⟩,h3⟩,h4⟩:=p;obtain⟨C,a3,d3,k,c1⟩:=lJ z K O (nt:=nt) s _ _ _ _ _ _ r
      cases C with
      |normal=>
        simp only[]at k;split at k
        ·rename_i e3 f2 p2 a2 b2 G;obtain⟨B,b3,m,a,c2⟩:=lJ z K O (nt:=nt) o _ _ _ _ _ _ k;change (match m.get x with|some (.loop y U X Q R _)=>some (Value.bool (aEm B).1,m.put x (.loop y U X Q R (aEm B).2))|_=>none)=some (v,V)at a
         split at a
         ·rename_i y U X Q R f3 I;simp only[kP,kW]at a;obtain⟨rfl,rfl⟩:=a;obtain⟨hle,N⟩:=aGl E (beq_iff.1 W) (fun t ht=>blt_iff.1 (h2 t ht)) h3 h4 c1 G c2 I;refine⟨hle,fun J=>dC J (aCk g),fun id g3 _ e=>?_⟩;simp only[tM,Value.int.injEq,Int.ofNat.injEq]at e;obtain⟨⟨_,rfl⟩,rfl⟩:=e;exact N
         ·simp at a
        ·simp at k
      |exit j=>simp at k
      |ret=>simp at k
     ·simp at r
    ·rename_i Y i;split at r
     ·rename_i E;exact aDp L i E r
     ·rename_i c p;unfold fR at r;obtain⟨l,r⟩:=aB r;have l:=ble_iff.1 l;obtain⟨B,Z,W,k,q⟩:=lJ z K O (nt:=Y.ntmps) c _ _ _ _ _ _ r
      cases B with
      |exit j=>simp[yV]at k
      |normal=>
        simp only[yV]at k;obtain⟨vs,b,k⟩:=bind_some k;simp only[kP,kW]at k;obtain⟨rfl,rfl⟩:=k;exact oI L i p l q (.inl rfl) b
      |ret=>
        simp only[yV]at k;obtain⟨vs,b,k⟩:=bind_some k;simp only[kP,kW]at k;obtain⟨rfl,rfl⟩:=k;exact oI L i p l q (.inr rfl) b
end
section
variable {D:CF}
def aFc {A C:CF}(hle:A.le C){i:Nat}(L:n≤i){f:Func}(b:fR P A n NG f c a h (fun v h=>some (v,h))=some r):fR P C i NG f c a h (fun v h=>some (v,h))=some r:=by
  unfold fR at b⊢;obtain⟨g,b⟩:=aB b;obtain⟨x,d,j,k,l,rfl,e⟩:=(Dir.one A).execK (γ:=kA×H) _ _ _ _ _ _ _ b;rw[g,sV,e C hle i L];exact k
def aBc:∀n,(jF P NG D n).le (jF P NG D (n+1))
  |0=>fun f b h r a=>by cases a
  |n+1=>fun f b h r a=>by
    have i:=aBc n;rw[jF]at a⊢
    dsimp only at a⊢
    split at a
    ·exact a
    ·split at a
     ·obtain⟨c,a⟩:=aB a;rw[c,sV];obtain⟨id,u,k,rfl,a⟩:=aCv a;show bFb (.int k (.ofNat id)::u) _=_;exact aDf i (sF n) a
     ·split at a
      ·exact a
      ·exact aFc i (sF n) a
def nP {i:Nat}(h:n≤i):(jF P NG D n).le (jF P NG D i):=by
  induction h with
  |refl=>exact CF.le_refl _
  |step _ a=>exact a.trans (aBc _)
open Classical in
noncomputable def iD (P:kD)(NG:Nat)(D:CF):CF:=fun f a h=>if e:∃r,∃n,jF P NG D n f a h=some r then some e.choose else none
def vV (c:jF P NG D n Q a h=some r):iD P NG D Q a h=some r:=by
  unfold iD;have e:∃r,∃n,jF P NG D n Q a h=some r:=⟨r,n,c⟩;rw[dif_pos e];obtain⟨m,f⟩:=e.choose_spec;have b:=nP (P:=P) (NG:=NG) (D:=D) (Nat.le_max_left n m) Q a h r c;have d:=nP (P:=P) (NG:=NG) (D:=D) (Nat.le_max_right n m) Q a h _ f;rw[d]at b;exact b
def aJs (b:iD P NG D Q a h=some r):∃n,jF P NG D n Q a h=some r:=by
  unfold iD at b;split at b
  ·rename_i e;simp only[kP]at b;subst b;exact e.choose_spec
  ·cases b
def callI_dir:Dir (fun A=>∃n,A=jF P NG D n) (iD P NG D):=
  ⟨⟨_,0,rfl⟩,fun _ _ ⟨n,a⟩ ⟨m,b⟩=>⟨_,⟨max n m,rfl⟩,a▸nP (Nat.le_max_left _ _),b▸nP (Nat.le_max_right _ _)⟩,fun _ _ _ _ h=>let⟨n,hn⟩:=aJs h;⟨_,⟨n,rfl⟩,hn⟩⟩
def aJt (z:aL P=true)(m:P.follows .mixedOrders=true)(d:iB P=true)(c:aO P NG D):aO P NG (iD P NG D):=fun f a h v b r=>
  let⟨n,e⟩:=aJs r
  aHk z m d c n f a h v b e
def iC {f:kI}{v:kA×H}(b:D f a h=some v):iD P NG D f a h=some v:=vV (n:=1) (by simp only[jF,b])
def aJu {nt:Nat}{f:Func}(i:D n a h=none)(l:P.funcs[n]?=some f)(k:f.body=some c)(b:f.ntmps=nt)(d:jC f=RR)(o:Nat.ble a.length nt=true)(j:nH 0 a=fr)(p:execK P (iD P NG D) L NG nt RR c RR [] fr h (yV P f fun v h=>some (v,h))=some r):iD P NG D n a h=some r:=by
  subst b;subst d;subst j;obtain⟨x,g,s,m,C,⟨q,rfl⟩,e⟩:=callI_dir.execK (γ:=kA×H) _ _ _ _ _ _ _ p;refine vV (n:=max q L+1) ?_;simp only[jF,i,l,k,fR,o,sV];rw[e _ (nP (Nat.le_max_left _ _)) _ (Nat.le_max_right _ _)];exact m
def aHl {id:Nat}(b:D Y0 (.int .i64 (.ofNat id)::a) h=none)(f:P.funcs[Y0]?=none)(c:roundK P (iD P NG D) L NG id a h (fun v h=>some (v,h))=some r):iD P NG D Y0 (.int .i64 (.ofNat id)::a) h=some r:=by
  obtain⟨C,⟨n,rfl⟩,e⟩:=callI_dir.roundK c;refine vV (n:=max n L+1) ?_;simp only[jF,b,f];exact aDf (nP (Nat.le_max_left _ _)) (Nat.le_max_right _ _) e
def aPr {f:Func}(b:D Q a h=none)(d:P.funcs[Q]?=some f)(c:f.body=none)(e:tT (xS f) a h=some r):iD P NG D Q a h=some r:=
  vV (n:=1) (by simp only[jF,b,d,c];exact e)
end
def aBv (isR:kI→Bool)(o:Oper):Bool:=match bP isR o with|some false=>true|_=>false
def cEh (isR:kI→Bool)(o:Oper):Bool:=match bP isR o with|some true=>true|_=>false
def aFs (isR:kI→Bool):kC Oper→Bool
 |[]=>false
 |o::r=>(cEh isR o&&r.all (aBv isR))||(aBv isR o&&aFs isR r)
def aIw (P:kD)(o:kH Oper)(d:Bool):kB (kB Tmp×kK×kC Oper):=
 bif d then none else
 match o.toList with
 |⟨dst,.next x false,ty,_,_,none⟩::rest=>bif oO P ty then none else some (dst,x,rest)
 |_=>none
def aFt (ops:kH Oper):Bool:=match ops.toList with
 |⟨_,.next _ false,_,_,_,none⟩::_=>false
 |_=>true
noncomputable def yW (isR:kI→Bool)(d:kI→kC kA→H→Prop)(R:kI→kC kA→H→kA→H→Prop)(C:CF)(f:CF→kB Unit):kB Unit:=okU (∀a,Val isR d R a→f (lZ C isR a)=some ())
noncomputable def rgP (P:kD)(C:CF)(N nt:Nat)(isR:kI→Bool)(a:kI→kC kA→H→Prop)(R:kI→kC kA→H→kA→H→Prop)(o:kH Oper)(d:Bool)(f:T kA)(h:H)(K:T kA→H→kB Unit):kB Unit:=
 bif gC nt o then
  match aIw P o d with
  |some (dst,x,rest)=>(aH N f h x).bind fun v=>aKi (A.b v h) fun u h=>runOps P C N o rest (cS f dst (some u)) h K
  |none=>
   bif o.toList.all (aBv isR)then
    bif d then(bif lR P o (before o)then runD P C N o (before o) 0 o.toList f h [] [] K else none)
    else(bif aFt o then runOps P C N o o.toList f h K else none)
   else
    bif d then(bif lR P o (before o)&&(List.range o.size).any (aFr isR o (before o))then yW isR a R C fun C=>runD P C N o (before o) 0 o.toList f h [] [] K else none)
    else(bif aFs isR o.toList&&aFt o then yW isR a R C fun C=>runOps P C N o o.toList f h K else none)
 else none
section
variable {nt:Nat}{C:CF}{isR:kI→Bool}{φ:kI→kC kA→H→kB (kA×H)}
def aLh (a:aFt ops=true):nE P C NG nt ops false f h=none:=by
 unfold nE
 cases gC nt ops with
 |false=>rfl
 |true=>
  simp only[sQ,Bool.and_self,sV];unfold aFt at a;split at a
  ·cases a
  ·rename_i n;split
   ·rename_i e;exact dC e (n _ _ _ _ _ _)
   ·rfl
def statB_iff :aBv isR o=true↔bP isR o=some false:=by
 unfold aBv;split
 ·rename_i e;simp[e]
 ·rename_i e;simp only[pP,false_iff];exact e
def qC {Y:Type}{ops:kH Oper}{K:T kA→H→kB Y}:∀(l:kC Oper) (f:T kA) (h:H),l.all (aBv isR)=true→runOps P (lZ C isR φ) NG ops l f h K=runOps P C NG ops l f h K
 |[],f,h,_=>rfl
 |o::rest,f,h,hs=>by
  simp only[dQ,pA]at hs;have i:=fun f h=>qC (ops:=ops) (K:=K) rest f h hs.2;simp only[runOps,i,vW (statB_iff.1 hs.1)]
def nS {ops:kH Oper}{K:T kA→H→kB Unit}:∀(l:kC Oper) (f:T kA) (h:H),l.all (aBv isR)=true→runOps P C NG ops l f h K=some ()→bE P C NG isR dom R ops l f h (fun f h=>K f h=some ())
 |[],f,h,_,r=>r
 |o::rest,f,h,hs,r=>by
  simp only[dQ,pA]at hs;have m:=fun f h=>nS (ops:=ops) (K:=K) rest f h hs.2;have k:=statB_iff.1 hs.1;have u:∀f:T kA,aop P C (aH NG f h) h o (bN P o fun c a=>runOps P C NG ops rest (cS f o.dst c) a K)=some ()→
   (match bP isR o,o.op with
    |some true,.call ⟨.value (.func g),args,_⟩=>∃s,eT (aH NG f h) args.toList=some s∧dom g s h∧∀v a,R g s h v a→bE P C NG isR dom R ops rest (cS f o.dst (some v)) a (fun f h=>K f h=some ())
    |_,_=>∃c a,aop P C (aH NG f h) h o aY=some (c,a)∧bE P C NG isR dom R ops rest (cS f o.dst c) a (fun f h=>K f h=some ())):=by
   intro f r;rw[eH]at r;obtain⟨⟨c,a⟩,q,i⟩:=bind_some r;have i:=m _ _ (eM i);rw[k];exact⟨c,a,q,i⟩
  simp only[runOps]at r;simp only[bE]
  cases e:o.guard with
  |none=>simp only[e]at r;exact u f r
  |some t=>
   obtain⟨j,w⟩:=t;simp only[e]at r⊢
   cases n:(ops[j]?).bind (·.dst)with
   |none=>simp only[n]at r;cases r
   |some d=>
    simp only[n]at r⊢
    cases p:f.get d with
    |none=>simp only[p]at r;cases r
    |some v=>
     simp only[p]at r⊢
     cases v with
     |bool b=>cases b<;>cases w<;>first|exact u _ r|exact m _ _ r
     |tuple s=>exact m _ _ r
     |_=>cases r
def Val.ex (o:RelOK P NG isR dom R):∃φ,Val isR dom R φ:=by
 classical
 refine⟨fun g s x=>if e:isR g=true∧dom g s x then some ((o.tot g s x e.1 e.2).choose,(o.tot g s x e.1 e.2).choose_spec.choose)else none,fun g s x a=>⟨fun h=>?_,fun v b e=>?_⟩⟩
 ·exact⟨_,_,dif_pos ⟨a,h⟩,(o.tot g s x a h).choose_spec.choose_spec⟩
 ·dsimp only at e
  by_cases h:dom g s x
  ·rw[dif_pos ⟨a,h⟩]at e;simp only[kP,kW]at e;obtain⟨rfl,rfl⟩:=e;exact⟨h,(o.tot g s x a h).choose_spec.choose_spec⟩
  ·rw[dif_neg (fun e=>h e.2)]at e;simp at e
def xG (ok:RelOK P NG isR dom R){ops:kH Oper}{K:T kA→H→kB Unit}:∀(l:kC Oper) (fr:T kA) (h:H),aFs isR l=true→(∀φ,Val isR dom R φ→runOps P (lZ C isR φ) NG ops l fr h K=some ())→bE P C NG isR dom R ops l fr h (fun fr h=>K fr h=some ())
 |[],fr,h,hs,_=>by cases hs
 |o::rest,fr,h,hs,hr=>by
  obtain⟨φ0,hφ0⟩:=Val.ex ok;simp only[aFs,tI,pA]at hs;rcases hs with⟨h1,h2⟩|⟨h1,h2⟩
  ·-- that call
   have hrel:bP isR o=some true:=by
    unfold cEh at h1;split at h1
    ·assumption
    ·cases h1
   obtain⟨c,g,hop,hcl,hg⟩:=fG hrel;obtain⟨callee,args,tys⟩:=c;simp only at hcl;subst hcl;have hY:=(ok.body g hg).1;have run:∀fr:T kA,(∀φ,Val isR dom R φ→aop P (lZ C isR φ) (aH NG fr h) h o (bN P o fun rv h'=>runOps P (lZ C isR φ) NG ops rest (cS fr o.dst rv) h' K)=some ())→
    (match bP isR o,o.op with
    |some true,.call ⟨.value (.func g),args,_⟩=>∃vs,eT (aH NG fr h) args.toList=some vs∧dom g vs h∧∀v h',R g vs h v h'→bE P C NG isR dom R ops rest (cS fr o.dst (some v)) h' (fun fr h=>K fr h=some ())
    |_,_=>∃rv h',aop P C (aH NG fr h) h o aY=some (rv,h')∧bE P C NG isR dom R ops rest (cS fr o.dst rv) h' (fun fr h=>K fr h=some ())):=by
    intro fr hr;rw[hrel,hop]
    dsimp only
    have h0:=hr φ0 hφ0;rw[eH,tV (c:=⟨.value (.func g),args,tys⟩) hop rfl hg hY]at h0;obtain⟨_,h0,_⟩:=bind_some h0;obtain⟨vs,hvs,h0⟩:=bind_some h0;obtain⟨⟨v0,h0'⟩,hv0,_⟩:=bind_some h0;have hd:=((hφ0 g vs h hg).2 v0 h0' hv0).1;refine⟨vs,hvs,hd,fun v h' hR=>?_⟩;obtain⟨φ1,hφ1,e1,_⟩:=aId hφ0 hd hR;have h3:=hr φ1 hφ1;rw[eH,tV (c:=⟨.value (.func g),args,tys⟩) hop rfl hg hY,hvs]at h3;simp only[pR,e1]at h3;have h4:=eM h3;rw[qC _ _ _ h2]at h4;exact nS _ _ _ h2 h4
   have hr0:=hr φ0 hφ0;simp only[runOps]at hr hr0;simp only[bE]
   cases hg0:o.guard with
   |none=>simp only[hg0]at hr;exact run fr hr
   |some jw=>
    obtain⟨j,want⟩:=jw;simp only[hg0]at hr hr0⊢
    cases hd:(ops[j]?).bind (·.dst)with
    |none=>simp only[hd]at hr0;cases hr0
    |some d=>
     simp only[hd]at hr hr0⊢
     cases hv:fr.get d with
     |none=>simp only[hv]at hr0;cases hr0
     |some v=>
      have pass:∀fr:T kA,(∀φ,Val isR dom R φ→runOps P (lZ C isR φ) NG ops rest fr h K=some ())→bE P C NG isR dom R ops rest fr h (fun fr h=>K fr h=some ()):=fun fr hp=>by
       have:=hp φ0 hφ0;rw[qC _ _ _ h2]at this;exact nS _ _ _ h2 this
      simp only[hv]at hr hr0⊢
      cases v with
      |bool b=>cases b<;>cases want<;>first|exact run _ hr|exact pass _ hr
      |tuple vs=>exact pass _ hr
      |_=>cases hr0
  ·have ih:=fun fr h=>xG ok (ops:=ops) (K:=K) rest fr h h2;have hst:=statB_iff.1 h1;have run:∀fr:T kA,(∀φ,Val isR dom R φ→aop P (lZ C isR φ) (aH NG fr h) h o (bN P o fun rv h'=>runOps P (lZ C isR φ) NG ops rest (cS fr o.dst rv) h' K)=some ())→
    (match bP isR o,o.op with
    |some true,.call ⟨.value (.func g),args,_⟩=>∃vs,eT (aH NG fr h) args.toList=some vs∧dom g vs h∧∀v h',R g vs h v h'→bE P C NG isR dom R ops rest (cS fr o.dst (some v)) h' (fun fr h=>K fr h=some ())
    |_,_=>∃rv h',aop P C (aH NG fr h) h o aY=some (rv,h')∧bE P C NG isR dom R ops rest (cS fr o.dst rv) h' (fun fr h=>K fr h=some ())):=by
    intro fr hr;rw[hst];have h0:=hr φ0 hφ0;rw[vW hst,eH]at h0;obtain⟨⟨rv,h'⟩,e1,_⟩:=bind_some h0;refine⟨rv,h',e1,ih _ _ fun φ hφ=>?_⟩;have h3:=hr φ hφ;rw[vW hst,eH,e1,pR]at h3;exact eM h3
   have hr0:=hr φ0 hφ0;simp only[runOps]at hr hr0;simp only[bE]
   cases hg0:o.guard with
   |none=>simp only[hg0]at hr;exact run fr hr
   |some jw=>
    obtain⟨j,want⟩:=jw;simp only[hg0]at hr hr0⊢
    cases hd:(ops[j]?).bind (·.dst)with
    |none=>simp only[hd]at hr0;cases hr0
    |some d=>
     simp only[hd]at hr hr0⊢
     cases hv:fr.get d with
     |none=>simp only[hv]at hr0;cases hr0
     |some v=>
      simp only[hv]at hr hr0⊢
      cases v with
      |bool b=>cases b<;>cases want<;>first|exact run _ hr|exact ih _ _ hr
      |tuple vs=>exact ih _ _ hr
      |_=>cases hr0
def bUp (p:RelOK P NG isR dom R)(r:rgP P C NG nt isR dom R O J f h K=some ()):rgW P C NG nt isR dom R O J f h K=some ():=by
 unfold rgP at r;obtain⟨a,r⟩:=aB r;split at r
 ·rename_i k x j n;unfold aIw at n
  cases J with
  |true=>cases n
  |false=>
   simp only[sW]at n;split at n
   ·rename_i s u y t c g o
    cases e:oO P y with
    |true=>rw[e]at n;cases n
    |false=>
     rw[e]at n;simp only[sW,kP,kW]at n;obtain⟨rfl,rfl,rfl⟩:=n;obtain⟨v,m,r⟩:=bind_some r;exact aTt o a e m r
   ·cases n
 ·cases i:O.toList.all (aBv isR)with
  |true=>
   rw[i,sV]at r
   cases J with
   |true=>
    rw[sV]at r;obtain⟨d,r⟩:=aB r;exact aTu a d r
   |false=>
    rw[sW]at r;obtain⟨b,r⟩:=aB r;exact aZk a (aLh b) r
  |false=>
   rw[i,sW]at r
   cases J with
   |true=>
    rw[sV]at r;obtain⟨d,r⟩:=aB r;rw[pA,rP]at d;obtain⟨d,q,_,l⟩:=d;exact aZj a d l (okU_iff.1 r)
   |false=>
    rw[sW]at r;obtain⟨b,r⟩:=aB r;rw[pA]at b;exact rgW_iff.2 (.inr (.inl ⟨rfl,a,xG p _ _ _ b.1 (okU_iff.1 r)⟩))
def aUm (y:RelOK P NG isR dom R):∀(c:Code) (o:kC Tmp) (env:kC (Nat×kC Tmp)) (f:T kA) (h:H) (K:Ex→T kA→H→kB Unit) (K':KW),(∀x f h,K x f h=some ()→K' x f h)→
 bG (rgP P C NG nt isR dom R) n NG p c o env f h K=some ()→vA P C isR dom R n NG nt p c o env f h K':=by
 intro c
 induction c with
 |skip=>intro o env f h K K' d r;exact d _ _ _ r
 |label l=>intro o env f h K K' d r;exact d _ _ _ r
 |exit id=>intro o env f h K K' d r;exact d _ _ _ r
 |ret=>intro o env f h K K' d r;exact d _ _ _ r
 |region id z q=>intro o env f h K K' d r;exact aKq (fun f h k=>d _ _ _ k) (rgW_iff.1 (bUp y r))
 |seq a b i e=>
  intro o env f h K K' d r;refine i _ _ _ _ _ _ (fun x m u k=>?_) r
  cases x with
  |normal=>exact e _ _ _ _ _ _ d k
  |exit j=>exact d _ _ _ k
  |ret=>exact d _ _ _ k
 |cond c a b i e=>
  intro o env f h K K' d r;simp only[bG]at r;obtain⟨v,w,r⟩:=bind_some r
  cases v with
  |bool t=>
   refine⟨t,w,?_⟩
   cases t with
   |true=>exact i _ _ _ _ _ _ d r
   |false=>exact e _ _ _ _ _ _ d r
  |_=>simp[aP]at r
 |block id b g=>
  intro o env f h K K' d r;refine g _ _ _ _ _ _ (fun x m u k=>?_) r
  cases x with
  |normal=>exact d _ _ _ k
  |exit j=>
   simp only[nX,aGa]at k⊢
   cases s:Nat.beq j id with
   |true=>rw[s]at k;exact d _ _ _ k
   |false=>rw[s]at k;exact d _ _ _ k
  |ret=>exact d _ _ _ k
 |loop b g=>
  intro o env f h K K' d r;exact aOi (fun f h K K' d r=>g _ _ f h K K' d r) n _ h K K' d r
 |scope b g=>intro o env f h K K' d r;exact g _ _ _ _ _ _ d r
 |_=>intro o env f h K K' d r;simp[bG]at r
def bAg (t:RelOK P NG isR dom R){b:Func}{S:kC Tmp}(i:P.funcs[Q]?=some b)(m:(b.body,b.ntmps,jC b,Nat.ble a.length nt,nH 0 a)=(some c,nt,S,true,f))(q:bG (rgP P C NG nt isR dom R) n NG S c S [] f h (yV P b fun v h=>okU (X v h))=some ()):fK P C isR dom R n NG Q a h X:=by
 obtain⟨d,e⟩:=Prod.mk.inj m;obtain⟨l,e⟩:=Prod.mk.inj e;obtain⟨r,e⟩:=Prod.mk.inj e;obtain⟨p,o⟩:=Prod.mk.inj e;clear m;subst l;subst r;subst o;refine⟨b,c,i,d,ble_iff.1 p,aUm t c _ _ _ _ _ _ (fun x f u k=>?_) q⟩
 cases x with
 |exit j=>simp[yV]at k
 |normal=>
  simp only[yV]at k;obtain⟨s,d,g⟩:=bind_some k;exact⟨.inl rfl,s,d,okU_iff.1 g⟩
 |ret=>
  simp only[yV]at k;obtain⟨s,d,g⟩:=bind_some k;exact⟨.inr rfl,s,d,okU_iff.1 g⟩
end
def orD (A B:CF):CF:=fun f a h=>match A f a h with|some r=>some r|none=>B f a h
def aNi {A D:CF}(c:aO P n A)(B:aO P n D):aO P n (orD A D):=by
 intro f b h v d a;unfold orD at a;split at a
 ·rename_i r e;simp only[kP]at a;subst a;exact c _ _ _ _ _ e
 ·exact B _ _ _ _ _ a
def aMb (F:kI→Bool)(A:CF):CF:=fun f a h=>bif F f then A f a h else none
def aUa {F:kI→Bool}{A:CF}(b:aO P n A):aO P n (aMb F A):=by
 intro f a h v c r;unfold aMb at r;exact b _ _ _ _ _ (aB r).2
structure aKj (NG:Nat)(T0:H):Prop where
 next:T0.next=NG
 blk:∀id b,T0.get id=some b→id<NG∧∃cs,b=.cells cs none∧cQ cs=true
def HasT (a h:H):Prop:=∀id b,a.get id=some b→h.get id=some b
def HasT.ext {j g:H}(t:aKj n j)(x:HasT j h)(c:n≤h.next)(e:Ext h g):HasT j g:=fun id b a=>by
 rw[e.get id (kT (t.blk id b a).1 c)];exact x id b a
open Classical in
noncomputable def tO (F:kI→Bool)(C:CF)(b:H):CF:=fun f a h=>
 if F f=true∧eU a=true∧HasT b h then(match C f a b with|some (v,_)=>bif aJ v then some (v,h)else none|none=>none)else none
def aIt {F:kI→Bool}{D:CF}{j g:H}(b:F Q=true)(c:eU a=true)(t:HasT j h)(e:aJ v=true)(d:D Q a j=some (v,g)):tO F D j Q a h=some (v,h):=by
 unfold tO;rw[kM ⟨b,c,t⟩,d];simp only[e,sV]
def aIs {F:kI→Bool}{D:CF}(U:aO P n D)(V:∀f,F f=true→f<Y0∧∀o,P.funcs[f]?=some o→o.body.isSome=true)(t:aKj n h):aO P n (tO F D h):=by
 intro f L Q v h' j;unfold tO at j;split at j
 ·rename_i p;obtain⟨C,M,h3⟩:=p;split at j
  ·rename_i v0 K e;obtain⟨O,j⟩:=aB j;simp only[kP,kW]at j;obtain⟨rfl,rfl⟩:=j;obtain⟨Y,E⟩:=V f C;obtain⟨hle,p,_⟩:=U _ _ _ _ _ e;obtain⟨o,q,I,⟨d,p⟩|⟨d,_⟩⟩:=p Y
   case inr=>have:=E o q;rw[d]at this;cases this
   refine⟨kQ _,fun _=>⟨o,q,I,.inl ⟨d,fun y w z r _ m=>?_⟩⟩,fun id us e=>dC Y (aCk e)⟩;obtain rfl:=m.eq_of_plain M;let s:Mu:=fun id=>if id<n then y id else none
   have rs:RH n s h w:={
    ng:=by rw[t.next];exact kQ _
    wf:=fun id b d=>by rw[t.next];exact(t.blk id b d).1
    br:=fun id b l d m=>by
     obtain⟨G,cs,rfl,hp⟩:=t.blk id b d;have m:y id=some l:=by simpa[s,G]using m
     obtain⟨B,ty,fz,g1,g2,g3,g4,g5,g6⟩:=r.br id _ l (h3 id _ d) m;refine⟨B,ty,fz,g1,g2,g3,fun i x K=>?_,fun Q=>by simp at Q,fun es Q=>by simp at Q⟩;obtain⟨c,k1,k2,k3⟩:=g4 i x K;have u:=(eD cs hp i x K).1;have:=k2.eq_of_plain u;subst this;exact⟨_,k1,VR.of_plain _ _ u,k3⟩
    inj:=fun id b l a3 b' l' d ho=>by
     obtain⟨_,cs,rfl,_⟩:=t.blk id b d;simp[Blk.owned]at ho
    bd:=fun id l m=>by
     by_cases e:id<n
     ·exact r.bd id l (by simpa[s,e]using m)
     ·simp[s,e]at m
    gl:=fun g N=>by
     obtain⟨l,e1,R⟩:=r.gl g N;exact⟨l,by simpa[s,N]using e1,R⟩}
   refine(p s w _ rs (fun id C _=>by rw[t.next]at C;simp[s];omega) (LR.of_plain_mem _ fun a S=>?_)).mono fun e w' ⟨cv,b3,W,st,J⟩=>?_
   ·obtain⟨i,X⟩:=mM.1 S;exact fD _ M i a X
   ·have:=J.eq_of_plain O;subst this;exact⟨_,y,W,Step.ofBelow r (st.below fun id k Z=>by obtain⟨_,cs,rfl,_⟩:=t.blk id k Z;rfl),VR.of_plain y _ O⟩
  ·cases j
 ·cases j
section
variable {nt:Nat}{C:CF}{isR:kI→Bool}
def aUo {f:kA→H→kB (Ex×T kA×H)}{a:OL}(h:vB f l=some a)(b:l≠[]):∃o,o∈a:=by
 cases l with
 |nil=>exact dC rfl b
 |cons x r=>
  obtain⟨v,c⟩:=x;simp only[vB]at h;split at h
  ·simp only[kP]at h;subst h;exact⟨_,mO⟩
  ·cases h
def aPd (b:A.a v h=some l):l≠[]:=by
 unfold A.a at b;split at b
 ·split at b
  ·split at b
   ·cases c:(!List.isEmpty _&&!List.isEmpty _&&List.all _ _)with
    |true=>rw[c,sV]at b;cases b
    |false=>
     rw[c,sW]at b;split at b
     ·cases b
     ·obtain⟨_,b⟩:=aB b;simp only[kP]at b;subst b;simp
   ·cases b
  ·cases b
 ·cases b
def aZl {l:OL}(r:aJz P C NG nt O J f h=some l):∃o,o∈l:=by
 unfold aJz at r;split at r
 ·rename_i c a;simp only[kP]at r;subst r;unfold nE at a;obtain⟨_,a⟩:=aB a;split at a
  ·split at a
   ·split at a
    ·rename_i n;exact aUo a (aPd n)
    ·cases a
   ·cases a
  ·cases a
 ·obtain⟨_,r⟩:=aB r
  cases J with
  |true=>
   rw[sV]at r;obtain⟨_,r⟩:=aB r;rw[rU]at r;obtain⟨_,_,b⟩:=bind_some r;simp only[kP]at b;subst b;exact⟨_,mC.2 rfl⟩
  |false=>
   rw[sW]at r;rw[gH]at r;obtain⟨_,_,b⟩:=bind_some r;simp only[kP]at b;subst b;exact⟨_,mC.2 rfl⟩
def jX (ok:RelOK P NG isR dom R){ops:kH Oper}{K:T kA→H→Prop}:∀(l:kC Oper) (fr:T kA) (h:H),bE P C NG isR dom R ops l fr h K→∃fr' h',K fr' h'
 |[],fr,h,hr=>⟨fr,h,hr⟩
 |o::rest,fr,h,hr=>by
  have run:∀fr:T kA,(match bP isR o,o.op with
   |some true,.call ⟨.value (.func g),args,_⟩=>∃vs,eT (aH NG fr h) args.toList=some vs∧dom g vs h∧∀v h',R g vs h v h'→bE P C NG isR dom R ops rest (cS fr o.dst (some v)) h' K
   |_,_=>∃rv h',aop P C (aH NG fr h) h o aY=some (rv,h')∧bE P C NG isR dom R ops rest (cS fr o.dst rv) h' K)→∃fr' h',K fr' h':=by
   intro fr hr;split at hr
   ·rename_i g args _ hrel hop;obtain⟨vs,_,hd,hr⟩:=hr;obtain⟨c,g',hop',hcl,hg⟩:=fG hrel;rw[hop]at hop';cases hop';simp only[Callee.value.injEq,Operand.func.injEq]at hcl;subst hcl;obtain⟨v,h',hR⟩:=ok.tot _ _ _ hg hd;exact jX ok rest _ _ (hr v h' hR)
   ·obtain⟨rv,h',_,hr⟩:=hr;exact jX ok rest _ _ hr
  simp only[bE]at hr;split at hr
  ·exact run fr hr
  ·split at hr
   ·exact hr.elim
   ·split at hr
    ·split at hr
     ·exact run _ hr
     ·exact jX ok rest _ _ hr
    ·exact jX ok rest _ _ hr
    ·exact hr.elim
def aTw (k:RelOK P NG isR dom R){K:T kA→H→Prop}(c:aEh P C NG nt isR dom R O J f h K):∃r a,K r a:=by
 rcases c with⟨l,hl,b⟩|⟨_,_,c⟩|⟨_,_,_,_,hA⟩
 ·obtain⟨o,e⟩:=aZl hl;exact⟨_,_,b o e⟩
 ·exact jX k _ _ _ c
 ·obtain⟨g,d⟩:=Val.ex k;obtain⟨r,a,_,b⟩:=hA g d;exact⟨r,a,b⟩
def aJb {f:T kA→H→KW→Prop}(c:∀a h K,f a h K→∃e r b,K e r b):∀(n:Nat) (a:T kA) (h:H) (K:KW),aMc f n a h K→∃e r b,K e r b
 |0,_,_,_,h=>h.elim
 |n+1,a,h,K,hr=>by
  obtain⟨e,r,b,k⟩:=c _ _ _ hr
  cases e with
  |normal=>exact aJb c n _ _ _ k
  |exit j=>exact⟨_,_,_,k⟩
  |ret=>exact⟨_,_,_,k⟩
def aUl (w:RelOK P NG isR dom R){s:kC Tmp}:∀(c:Code) (o:kC Tmp) (env:kC (Nat×kC Tmp)) (f:T kA) (h:H) (K:KW),vA P C isR dom R n NG nt s c o env f h K→∃x d m,K x d m:=by
 intro c
 induction c with
 |skip=>intro o env f h K r;exact⟨_,_,_,r⟩
 |label l=>intro o env f h K r;exact⟨_,_,_,r⟩
 |exit id=>intro o env f h K r;exact⟨_,_,_,r⟩
 |ret=>intro o env f h K r;exact⟨_,_,_,r⟩
 |region id y p=>intro o env f h K r;obtain⟨d,m,u⟩:=aTw w r;exact⟨_,_,_,u⟩
 |seq a b i e=>
  intro o env f h K r;obtain⟨x,d,m,k⟩:=i _ _ _ _ _ r
  cases x with
  |normal=>exact e _ _ _ _ _ k
  |exit j=>exact⟨_,_,_,k⟩
  |ret=>exact⟨_,_,_,k⟩
 |cond c a b i e=>
  intro o env f h K r;obtain⟨t,_,r⟩:=r
  cases t with
  |true=>exact i _ _ _ _ _ r
  |false=>exact e _ _ _ _ _ r
 |block id b g=>
  intro o env f h K r;obtain⟨x,d,m,k⟩:=g _ _ _ _ _ r
  cases x with
  |normal=>exact⟨_,_,_,k⟩
  |exit j=>
   simp only[aGa]at k
   cases q:Nat.beq j id with
   |true=>rw[q]at k;exact⟨_,_,_,k⟩
   |false=>rw[q]at k;exact⟨_,_,_,k⟩
  |ret=>exact⟨_,_,_,k⟩
 |loop b g=>intro o env f h K r;exact aJb (fun f h K v=>g _ _ f h K v) n _ h K r
 |scope b g=>intro o env f h K r;exact g _ _ _ _ _ r
 |_=>intro o env f h K r;exact r.elim
def aJq (o:RelOK P NG isR dom R)(r:fK P C isR dom R n NG Q a h X):∃v b,X v b:=by
 obtain⟨f,c,_,_,_,r⟩:=r;obtain⟨e,g,b,_,s,_,d⟩:=aUl o _ _ _ _ _ _ r;exact⟨_,_,d⟩
def RelOK.zero (b:∀f,isR f=true→f<Y0∧∃n c,P.funcs[f]?=some n∧n.body=some c∧n.name≠ "runtime.NumGoroutine"):RelOK P NG isR (fun _ _ _=>False) (fun _ _ _ _ _=>False):=
 ⟨b,fun _ _ _ _ h=>h.elim,fun _ _ _ _ _ _ h=>h.elim,fun _ _ _ _ h=>h.elim⟩
def RelOK.layer (z:aL P=true)(n:P.follows .mixedOrders=true)(k:aO P NG C)(o:RelOK P NG isR dom R){b:kI→kC kA→H→kA→H→Prop}(c:∀f a h,isR f=true→d f a h→∃L,fK P C isR dom R L NG f a h (b f a h))(m:∀f a h v j,isR f=true→b f a h v j→h.next≤j.next):RelOK P NG isR d b:=
 ⟨o.body,fun f a h i g q w e p s l=>by
  obtain⟨L,r⟩:=c f a h i g;exact qT z n k o r p s l,m,fun f a h i g=>by
  obtain⟨L,r⟩:=c f a h i g;exact aJq o r⟩
def RelOK.layers (z:aL P=true)(s:P.follows .mixedOrders=true)(l:aO P NG C)(p:∀f,isR f=true→f<Y0∧∃n c,P.funcs[f]?=some n∧n.body=some c∧n.name≠ "runtime.NumGoroutine")(b:∀f a h,isR f=true→d f a h→∃dom R,RelOK P NG isR dom R∧∃L,fK P C isR dom R L NG f a h (e f a h))(m:∀f a h v k,isR f=true→e f a h v k→h.next≤k.next):RelOK P NG isR d e:=
 ⟨p,fun f a h j i x w g t u q=>by
  obtain⟨_,_,o,L,r⟩:=b f a h j i;exact qT z s l o r t u q,m,fun f a h j i=>by
  obtain⟨_,_,o,L,r⟩:=b f a h j i;exact aJq o r⟩
end
end Go.AM
namespace Go.AM.Pk
open Go Go.AM
def ti {P:kD}{n i nt:Nat}{S:kC Tmp}{f:T kA}{h:H}{D:CF}{l:Nat}{c:Code}{d:Func}{a:kC kA}(p:D l a h=none)(s:P.funcs[l]?=some d){m o:kB (kA×H)}(e:execK P (iD P n D) i n nt S c S [] f h (yV P d fun v h=>some (v,h))=m)
 (g:(d.body,d.ntmps,jC d,Nat.ble a.length nt,nH 0 a,m)=(some c,nt,S,true,f,o)) {r:kA×H} (u:o=some r):iD P n D l a h=some r:=by
 obtain⟨g,b⟩:=Prod.mk.inj g;obtain⟨j,b⟩:=Prod.mk.inj b;obtain⟨k,b⟩:=Prod.mk.inj b;obtain⟨t,b⟩:=Prod.mk.inj b;obtain⟨q,w⟩:=Prod.mk.inj b;exact aJu p s g j k t q (e.trans (w.trans u))
end Go.AM.Pk
namespace Go.AM.Pw
open Go Go.AM Go.AM.Pk
section
abbrev Rg (a:Type):=kH Oper→Bool→T kA→H→(T kA→H→kB a)→kB a
variable {β:Type}{r:Rg β}{L G:Nat}{S o l':kC Tmp}{env:kC (Nat×kC Tmp)}{fr Y:T kA}{h:H}{K:KK β}{c:Code}{m:Nat}{Z X:O β}{v:V}
abbrev Lw (r:Rg β)(L G:Nat)(R:kC Tmp)(c:Code)(S:kC Tmp)(env:kC (Nat×kC Tmp))(n:Nat)(fr:T kA)(h:H)(K:KK β):O β:=lN (fun fr h K=>bG r L G R c S env fr h K) n fr h K
def exS (r:Rg β)(L G:Nat)(S o:kC Tmp)(env:kC (Nat×kC Tmp))(K:KK β):Nat→Code→T kA→H→(T kA→H→O β)→O β
 |0,_,fr,h,k=>k fr h
 |j+1,c,fr,h,k=>bG r L G S (cL c) (live S (cR c) o env) env fr h (S1 (fun fr h=>exS r L G S o env K j (cR c) fr h k) K)
def yT {d:Code}:∀(j:Nat) (c:Code) (fr:T kA) (h:H),isq j c=true→tlC j c=d→bG r L G S c o env fr h K=exS r L G S o env K j c fr h (fun fr h=>bG r L G S d o env fr h K)
 |0,c,fr,h,_,e=>by cases e;rfl
 |j+1,.seq a b,fr,h,hj,e=>by
  show bG r L G S a (live S b o env) env fr h (S1 (fun fr h=>bG r L G S b o env fr h K) K)=bG r L G S a (live S b o env) env fr h (S1 (fun fr h=>exS r L G S o env K j b fr h _) K);rw[show(fun fr h=>bG r L G S b o env fr h K)=fun fr h=>exS r L G S o env K j b fr h (fun fr h=>bG r L G S d o env fr h K)from funext fun fr=>funext fun h=>yT j b fr h hj e]
def y (j:Nat)(l:kC Nat){A:Kn β l.length→O β}{B:Kn β l.length}(e:∀k,exS r L G S o env K j (g c m) fr h k=A (M k l))(b:M (fun fr h=>bG r L G S (g c (tl j m)) o env fr h K) l=B)(a:(isq j (g c m),tlC j (g c m))=(true,g c (tl j m))):bG r L G S (g c m) o env fr h K=A B:=by
 obtain⟨a,d⟩:=Prod.mk.inj a;exact((yT j _ _ _ a d).trans (e _)).trans (sX A b)
def Q (l' l:kC Nat){A:Kn β l.length→O β}{B:Kn β l.length}(e:∀k,bG r L G S (g c (2*m)) l' env fr h (S1 k K)=A (M k l))(b:M (fun fr h=>bG r L G S (g c (2*m+1)) o env fr h K) l=B)(a:(g c m,live S (g c (2*m+1)) o env)=(.seq (g c (2*m)) (g c (2*m+1)),l')):bG r L G S (g c m) o env fr h K=A B:=by
 obtain⟨d,a⟩:=Prod.mk.inj a;subst a;rw[d];exact(e _).trans (sX A b)
def q (l:kC Nat){A:Kn β l.length→O β}{B:Kn β l.length}(e:∀k,bG r L G S (g c (2*m)) l env fr h (S1 k K)=A (M k l))(a:M (fun fr h=>bG r L G S (g c (2*m+1)) o env fr h K) l=B)(b:(g c m,live S (g c (2*m+1)) o env)=(.seq (g c (2*m)) (g c (2*m+1)),l)):bG r L G S (g c m) o env fr h K=A B:=Q l l e a b
def lw (a l:kC Nat){W:Nat→Kn β l.length}{F:Kn β l.length→Kn β l.length}(b:W 0=Zn l.length)(s:∀n,W (n+1)=F (W n))(e:∀k,M (fun fr h=>bG r L G S c a env fr h (S1 k K)) l=F (M k l)):∀n,M (fun fr h=>Lw r L G S c a env n fr h K) l=W n:=by
 intro n;induction n with
 |zero=>rw[b];exact aNq (f:=fun n fr h=>Lw r L G S c a env n fr h K) fun _ _=>rfl
 |succ n i=>rw[s,←i];exact e _
def bk (id:Nat)(e:bG r L G S (g c (2*m)) o ((id,o)::env) fr h (fun x f a=>nX id x K f a)=Z)(b:g c m=.block id (g c (2*m))):bG r L G S (g c m) o env fr h K=Z:=by rw[b];exact e
def cd (e:bG r L G S (g c (2*m)) o env fr h K=Z)(b:bG r L G S (g c (2*m+1)) o env fr h K=X)(a:(g c m,aH G fr h (cX (g c m)))=(.cond (cX (g c m)) (g c (2*m)) (g c (2*m+1)),some v)):bG r L G S (g c m) o env fr h K=aP v Z X:=by
 obtain⟨a,d⟩:=Prod.mk.inj a;rw[a];show(aH G fr h (cX (g c m))).bind (fun v=>aP v (bG r L G S (g c (2*m)) o env fr h K) (bG r L G S (g c (2*m+1)) o env fr h K))=_;rw[d,e,b];rfl
def lp (e:Lw r L G S (g c (2*m)) l' env L Y h K=Z)(a:(g c m,live S (g c (2*m)) [] env,bY fr l')=(.loop (g c (2*m)),l',Y)):bG r L G S (g c m) o env fr h K=Z:=by
 obtain⟨b,a⟩:=Prod.mk.inj a;obtain⟨a,f⟩:=Prod.mk.inj a;subst a;subst f;rw[b];exact e
end
abbrev Dm:=kI→kC kA→H→Prop
abbrev Rl:=kI→kC kA→H→kA→H→Prop
def tw {P:kD}{D:CF}{isR:kI→Bool}{d:Dm}{r:Rl}{n i nt:Nat}{S:kC Tmp}{f:T kA}{h:H}{l:Nat}{c:Code}{b:Func}{a:kC kA}{X:V→H→Prop}(q:RelOK P n isR d r)(o:P.funcs[l]?=some b){k m:O Unit}
 (e:bG (rgP P D n nt isR d r) i n S c S [] f h (yV P b fun v h=>okU (X v h))=k) (j:(b.body,b.ntmps,jC b,Nat.ble a.length nt,nH 0 a)=(some c,nt,S,true,f)) (w:k=m) (p:m=some ()):fK P D isR d r i n l a h X:=by
 have g:b.ntmps=nt:=sX (fun x=>x.2.1) j;subst g;exact bAg q o j (e.trans (w.trans p))
end Go.AM.Pw
namespace Go.Proofs.YtbmdhjdgpeleoaaGreatDoor.TaZ
open Go Go.AM
def isR (f:kI):Bool:=[48,25,26,28,30,31,27,16,6].any (Nat.beq f)
end Go.Proofs.YtbmdhjdgpeleoaaGreatDoor.TaZ
