import Derived.Test.YtpanfoafajepcaaGreatDoorGn
namespace Go.AM
open Go Go.RowKit Go.ChangeShapes Go.WideShapes Go.ChangeAt
variable {P:Program}{NG:Nat}
def eR (P:Program)(f:FuncId)(args:List Value)(v:Value):Prop:=
 (∃fn c,P.funcs[f]?=some fn∧fn.body=some c∧fn.name≠ "runtime.NumGoroutine")∧cS args=true∧aJ v=true∧
 ∀w:World,Calls P f ⟨args⟩ w fun e w'=>e=.returned v∧Below w.heap.size w w'
abbrev Orc:=FuncId→List Value→Option Value
def aI (P:Program)(NG:Nat)(Q:Orc):Nat→CF
 |0=>fun _ _ _=>none
 |n+1=>fun f args h=>
  match Q f args with
  |some v=>some (v,h)
  |none=>
   match P.funcs[f]? with
   |none=>bif Nat.beq f 1099511627776 then aLp args fun id vs=>roundK P (aI P NG Q n) n NG id vs h fun v h=>some (v,h)else none
   |some fn=>match fn.body with
    |none=>lN (oS fn) args h
    |some c=>dG P (aI P NG Q n) n NG fn c args h fun v h=>some (v,h)
theorem jN (hzp:aK P=true)(hm:P.follows .mixedOrders=true)(hn:eJ P=true){Q:Orc}(hQ:∀f args v,Q f args=some v→eR P f args v):∀(n:Nat),aM P NG (aI P NG Q n):=by
 intro n
 induction n with
 |zero=>intro f args h v h' hr;simp[aI]at hr
 |succ n ih=>
  intro f args h v h' hr;simp only[aI]at hr
  cases hq:Q f args with
  |some u=>
   rw[hq]at hr;simp only[kE,kK]at hr;obtain⟨rfl,rfl⟩:=hr;obtain⟨⟨fn,c,hfn,hbd,hname⟩,ha,hv,hc⟩:=hQ _ _ _ hq;have hlt:=(gQ hn hfn).2;refine⟨kF _,fun _=>⟨fn,hfn,hname,.inl ⟨⟨c,hbd⟩,fun μ w cargs rh _ hl=>?_⟩⟩,fun id us e=>absurd hlt (pL e)⟩;have:=hl.eq_of_plain ha;subst this;exact(hc w).mono fun e w' ⟨he,hb⟩=>⟨u,μ,he,Step.ofBelow rh hb,VR.of_plain μ u hv⟩
  |none=>
  rw[hq]at hr;simp only[]at hr;split at hr
  ·obtain⟨hf0,hr⟩:=aA hr;have hf0:=beq_iff.1 hf0;obtain⟨id0,us,k0,rfl,hr2⟩:=nN hr;replace hr:=hr2;clear hr2;unfold roundK at hr;split at hr
   ·rename_i nt fr ps assign body hb;obtain⟨hc,hr⟩:=aA hr;simp only[kO,List.all_eq_true]at hc;obtain⟨⟨⟨h1,h2⟩,h3⟩,h4⟩:=hc;obtain⟨ex1,fr2,h2',hk,c1⟩:=dX hzp hm ih (nt:=nt) assign _ _ _ _ _ _ hr
    cases ex1 with
    |normal=>
     simp only[]at hk;split at hk
     ·rename_i nt2 f2 p2 a2 b2 hb2;obtain⟨ex,fr4,h4',hk2,c2⟩:=dX hzp hm ih (nt:=nt) body _ _ _ _ _ _ hk;change (match h4'.get id0 with|some (.loop nt4 f4 p4 a4 b4 _)=>some (Value.bool (oX ex).1,h4'.put id0 (.loop nt4 f4 p4 a4 b4 (oX ex).2))|_=>none)=some (v,h')at hk2
      split at hk2
      ·rename_i nt4 f4 p4 a4 b4 st4 hb4;simp only[kE,kK]at hk2;obtain⟨rfl,rfl⟩:=hk2;obtain⟨hle,hro⟩:=oJ hb (beq_iff.1 h1) (fun t ht=>blt_iff.1 (h2 t ht)) h3 h4 c1 hb2 c2 hb4;refine⟨hle,fun hlt=>absurd hlt (pL hf0),fun id us' _ e=>?_⟩;simp only[List.cons.injEq,Value.int.injEq,Int.ofNat.injEq]at e;obtain⟨⟨_,rfl⟩,rfl⟩:=e;exact hro
      ·simp at hk2
     ·simp at hk
    |exit j=>simp at hk
    |ret=>simp at hk
   ·simp at hr
  ·rename_i fn hfn;split at hr
   ·rename_i hb;exact tS hn hfn hb hr
   ·rename_i c hc;unfold dG at hr;obtain⟨hlen,hr⟩:=aA hr;have hlen:=ble_iff.1 hlen;obtain⟨ex,fr,h1,hk,hcs⟩:=dX hzp hm ih (nt:=fn.ntmps) c _ _ _ _ _ _ hr
    cases ex with
    |exit j=>simp[qC]at hk
    |normal=>
     simp only[qC]at hk;obtain⟨vs,hres,hk⟩:=bind_some hk;simp only[kE,kK]at hk;obtain⟨rfl,rfl⟩:=hk;exact iN hn hfn hc hlen hcs (.inl rfl) hres
    |ret=>
     simp only[qC]at hk;obtain⟨vs,hres,hk⟩:=bind_some hk;simp only[kE,kK]at hk;obtain⟨rfl,rfl⟩:=hk;exact iN hn hfn hc hlen hcs (.inr rfl) hres
theorem uX {n:Nat}{f:FuncId}{args:List Value}{v:Value}{h':H}(hzp:aK P=true)(hm:P.follows .mixedOrders=true)(hn:eJ P=true)
 (hf:∃fn c,P.funcs[f]?=some fn∧fn.body=some c∧fn.name≠ "runtime.NumGoroutine") (ha:cS args=true) (hv:aJ v=true) (h:aI P 0 (fun _ _=>none) n f args ⟨.nil,0⟩=some (v,h')):eR P f args v:=by
 refine⟨hf,ha,hv,fun w=>?_⟩;obtain⟨fn,c,hfn,hb,_⟩:=hf;obtain⟨_,hc,_⟩:=jN (NG:=0) hzp hm hn (Q:=fun _ _=>none) (fun _ _ _ e=>nomatch e) n f args _ _ _ h
 obtain⟨fn',hfn',_,⟨_,hc⟩|⟨hb',_⟩⟩:=hc (gQ hn hfn).2
 case inr=>rw[hfn]at hfn';simp only[kE]at hfn';subst hfn';rw[hb']at hb;simp at hb
 refine(hc (fun _=>none) w args (RH.nothing w) (fun _ _ _=>rfl) (LR.of_plain_mem _ fun a hA=>?_)).mono fun e w' ⟨cv,μ',he,hst,hvr⟩=>?_
 ·obtain⟨i,hi⟩:=List.mem_iff_getElem?.1 hA;exact cY args ha i a hi
 ·have:=hvr.eq_of_plain hv;subst this;exact⟨he,hst.below fun id k hk=>by simp[H.get]at hk⟩
theorem aHr {Q:Orc}{f:Nat}{nt:Nat}{RR:List Tmp}{fn:Func}{c:Code}{args:List Value}{n:Nat}{h:H}(hQ:Q f args=none)(hf:P.funcs[f]?=some fn)(hb:fn.body=some c)(hnt:fn.ntmps=nt)(hrr:eY fn=RR)(hl:Nat.ble args.length nt=true){fr:T Value}
 (ha:gO 0 args=fr):
 aI P NG Q (n+1) f args h=execK P (aI P NG Q n) n NG nt RR c RR [] fr h (qC P fn fun v h=>some (v,h)):=by
 subst hnt;subst hrr;subst ha;simp only[aI,hQ,hf,hb,dG,hl,cond_true]
abbrev Tab:=List (FuncId×List Value×Value)
def Tab.orc (t:Tab):Orc:=fun f args=>(t.find? fun e=>Nat.beq e.1 f&&sameL e.2.1 args).map fun e=>e.2.2
theorem Tab.none {t:Tab}{f:FuncId}(h:(t.all fun e=>!Nat.beq e.1 f)=true)(args:List Value):t.orc f args=Option.none:=by
 unfold Tab.orc;rw[List.find?_eq_none.2];rfl;intro e he;have:=List.all_eq_true.1 h e he;simp only[Bool.not_eq_true']at this;rw[this,Bool.false_and];simp
noncomputable def okE (P:Program)(n:Nat)(e:FuncId×List Value×Value):Bool:=
 (match P.funcs[e.1]? with|some fn=>fn.body.isSome&&!(fn.name== "runtime.NumGoroutine")|none=>false)&&(cS e.2.1&&(aJ e.2.2&&(match aI P 0 (fun _ _=>none) n e.1 e.2.1 ⟨.nil,0⟩with|some (v,_)=>same v e.2.2|none=>false)))
theorem rF {n:Nat}(hzp:aK P=true)(hm:P.follows .mixedOrders=true)(hn:eJ P=true){e:FuncId×List Value×Value}(h:okE P n e=true):eR P e.1 e.2.1 e.2.2:=by
 unfold okE at h;simp only[kO]at h;obtain⟨h1,h2,h3,h4⟩:=h;have hf:∃fn c,P.funcs[e.1]?=some fn∧fn.body=some c∧fn.name≠ "runtime.NumGoroutine" :=by
  split at h1
  ·rename_i fn hfn;simp only[kO]at h1;obtain⟨c,hc⟩:=Option.isSome_iff_exists.1 h1.1;exact⟨fn,c,hfn,hc,by simpa using h1.2⟩
  ·cases h1
 split at h4
 ·rename_i v h' hr;have:=gB _ _ h4;subst this;exact uX hzp hm hn hf h2 h3 hr
 ·cases h4
theorem Tab.closed {t:Tab}(h:∀e∈t,eR P e.1 e.2.1 e.2.2):∀f args v,t.orc f args=some v→eR P f args v:=by
 intro f args v hv;unfold Tab.orc at hv
 cases hf:t.find? (fun e=>Nat.beq e.1 f&&sameL e.2.1 args)with
 |none=>rw[hf]at hv;cases hv
 |some e=>
  rw[hf]at hv;have hm:=List.mem_of_find?_eq_some hf;have hp:=List.find?_some hf;simp only[kO]at hp;have e1:=beq_iff.1 hp.1;have e2:=rZ _ _ hp.2;have e3:e.2.2=v:=kP hv;subst e1;subst e2;subst e3;exact h e hm
end Go.AM

set_option linter.unusedVariables false
namespace Go.AM.Pk
open Go Go.AM
abbrev V:=Value
abbrev O (β:Type):=Option β
abbrev KK (β:Type):=Ex→T Value→H→O β
def gk:Nat→Code→Nat→Code
 |0,c,_=>c
 |f+1,c,n=>bif Nat.ble n 1 then c else bif Nat.beq (n%2) 0 then cL (gk f c (n / 2))else cR (gk f c (n / 2))
def g (c:Code)(n:Nat):Code:=gk 64 c n
def cX:Code→Operand
 | .cond x _ _=>x
 |_=>.const .nilFunc
abbrev Lw {β:Type}(P:Program)(C:CF)(L G nt:Nat)(R:List Tmp)(c:Code)(S:List Tmp)(env:List (Nat×List Tmp))(n:Nat)(fr:T Value)(h:H)(K:KK β):O β:=fW (fun fr h K=>execK P C L G nt R c S env fr h K) n fr h K
abbrev K0 (β:Type):=H→O β
abbrev K1 (β:Type):=V→K0 β
abbrev K2 (β:Type):=V→K1 β
abbrev K3 (β:Type):=V→K2 β
abbrev K4 (β:Type):=V→K3 β
abbrev K5 (β:Type):=V→K4 β
abbrev K6 (β:Type):=V→K5 β
abbrev K7 (β:Type):=V→K6 β
abbrev K8 (β:Type):=V→K7 β
abbrev K9 (β:Type):=V→K8 β
variable {β:Type}{P:Program}{C:CF}{L G nt:Nat}{S out l':List Tmp}{env:List (Nat×List Tmp)}{fr fr1:T Value}{h:H}{K:KK β}{c:Code}{m:Nat}{v1 v2:O β}{v:V}
abbrev S1 (k:T Value→H→O β)(K:KK β):KK β:=fun ex fr h=>xM ex k K fr h
def exS (P:Program)(C:CF)(L G nt:Nat)(S out:List Tmp)(env:List (Nat×List Tmp)){β:Type}(K:KK β):Nat→Code→T Value→H→(T Value→H→O β)→O β
 |0,_,fr,h,k=>k fr h
 |j+1,c,fr,h,k=>execK P C L G nt S (cL c) (live S (cR c) out env) env fr h (S1 (fun fr h=>exS P C L G nt S out env K j (cR c) fr h k) K)
def tl:Nat→Nat→Nat
 |0,m=>m
 |j+1,m=>tl j (2*m+1)
def tlC:Nat→Code→Code
 |0,c=>c
 |j+1,c=>tlC j (cR c)
def isq:Nat→Code→Bool
 |0,_=>true
 |j+1,.seq _ b=>isq j b
 |_,_=>false
theorem pQ {d:Code}:∀(j:Nat) (c:Code) (fr:T Value) (h:H),isq j c=true→tlC j c=d→execK P C L G nt S c out env fr h K=exS P C L G nt S out env K j c fr h (fun fr h=>execK P C L G nt S d out env fr h K)
 |0,c,fr,h,_,e=>by cases e;rfl
 |j+1,.seq a b,fr,h,hj,e=>by
  show execK P C L G nt S a (live S b out env) env fr h (S1 (fun fr h=>execK P C L G nt S b out env fr h K) K)=execK P C L G nt S a (live S b out env) env fr h (S1 (fun fr h=>exS P C L G nt S out env K j b fr h _) K);rw[show(fun fr h=>execK P C L G nt S b out env fr h K)=fun fr h=>exS P C L G nt S out env K j b fr h (fun fr h=>execK P C L G nt S d out env fr h K)from funext fun fr=>funext fun h=>pQ j b fr h hj e]
def Kn (β:Type):Nat→Type
 |0=>H→O β
 |n+1=>V→Kn β n
def Mg (k:T Value→H→O β):(l:List Nat)→List (Nat×V)→Kn β l.length
 |[],a=>fun h=>k (fs a) h
 |i::l,a=>fun x=>Mg k l (a++[(i,x)])
def M (k:T Value→H→O β)(l:List Nat):Kn β l.length:=Mg k l []
def N (K:KK β)(l:List Nat):Kn β l.length:=M (K .normal) l
def R (K:KK β)(l:List Nat):Kn β l.length:=M (K .ret) l
def X (K:KK β)(id:Nat)(l:List Nat):Kn β l.length:=M (K (.exit id)) l
def Zn:(n:Nat)→Kn β n
 |0=>fun _=>none
 |n+1=>fun _=>Zn n
theorem y (j:Nat)(l:List Nat){A:Kn β l.length→O β}{B:Kn β l.length}(e1:∀k,exS P C L G nt S out env K j (g c m) fr h k=A (M k l))(e2:M (fun fr h=>execK P C L G nt S (g c (tl j m)) out env fr h K) l=B)(hc:(isq j (g c m),tlC j (g c m))=(true,g c (tl j m))):execK P C L G nt S (g c m) out env fr h K=A B:=by
 obtain⟨hc,hl⟩:=Prod.mk.inj hc;exact((pQ j _ _ _ hc hl).trans (e1 _)).trans (congrArg A e2)
theorem Q (l' l:List Nat){A:Kn β l.length→O β}{B:Kn β l.length}(e1:∀k,execK P C L G nt S (g c (2*m)) l' env fr h (S1 k K)=A (M k l))(e2:M (fun fr h=>execK P C L G nt S (g c (2*m+1)) out env fr h K) l=B)(hl:(g c m,live S (g c (2*m+1)) out env)=(.seq (g c (2*m)) (g c (2*m+1)),l')):execK P C L G nt S (g c m) out env fr h K=A B:=by
 obtain⟨hc,hl⟩:=Prod.mk.inj hl;subst hl;rw[hc];exact(e1 _).trans (congrArg A e2)
theorem q (l:List Nat){A:Kn β l.length→O β}{B:Kn β l.length}(e1:∀k,execK P C L G nt S (g c (2*m)) l env fr h (S1 k K)=A (M k l))(e2:M (fun fr h=>execK P C L G nt S (g c (2*m+1)) out env fr h K) l=B)(hl:(g c m,live S (g c (2*m+1)) out env)=(.seq (g c (2*m)) (g c (2*m+1)),l)):execK P C L G nt S (g c m) out env fr h K=A B:=Q l l e1 e2 hl
theorem aDa {f:Nat→T Value→H→O β}:∀{l:List Nat} {a:List (Nat×V)},(∀fr h,f 0 fr h=none)→Mg (f 0) l a=Zn l.length
 |[],_,h=>funext fun h1=>h _ h1
 |_::_,_,h=>funext fun _=>aDa h
theorem lw (l0 l:List Nat){W:Nat→Kn β l.length}{F:Kn β l.length→Kn β l.length}(h0:W 0=Zn l.length)(hs:∀n,W (n+1)=F (W n))(e:∀k,M (fun fr h=>execK P C L G nt S c l0 env fr h (S1 k K)) l=F (M k l)):∀n,M (fun fr h=>Lw P C L G nt S c l0 env n fr h K) l=W n:=by
 intro n;induction n with
 |zero=>rw[h0];exact aDa (f:=fun n fr h=>Lw P C L G nt S c l0 env n fr h K) fun _ _=>rfl
 |succ n ih=>rw[hs,←ih];exact e _
theorem s0 (l':List Tmp)(e:∀k,execK P C L G nt S (g c (2*m)) l' env fr h (S1 k K)=v2)(hl:(g c m,live S (g c (2*m+1)) out env)=(.seq (g c (2*m)) (g c (2*m+1)),l')):execK P C L G nt S (g c m) out env fr h K=v2:=by obtain⟨hc,hl⟩:=Prod.mk.inj hl;subst hl;rw[hc];exact e _
theorem bk (id:Nat)(e:execK P C L G nt S (g c (2*m)) out ((id,out)::env) fr h (fun ex fr' h'=>iE id ex K fr' h')=v1)(hc:g c m=.block id (g c (2*m))):execK P C L G nt S (g c m) out env fr h K=v1:=by rw[hc];exact e
theorem sc (e:execK P C L G nt S (g c (2*m)) out env fr h K=v1)(hc:g c m=.scope (g c (2*m))):execK P C L G nt S (g c m) out env fr h K=v1:=by rw[hc];exact e
theorem cd (e:execK P C L G nt S (g c (2*m)) out env fr h K=v1)(e2:execK P C L G nt S (g c (2*m+1)) out env fr h K=v2)(hc:(g c m,aG G fr h (cX (g c m)))=(.cond (cX (g c m)) (g c (2*m)) (g c (2*m+1)),some v)):execK P C L G nt S (g c m) out env fr h K=aW v v1 v2:=by
 obtain⟨hc,hv⟩:=Prod.mk.inj hc;rw[aBr (a:=g c (2*m)) (b:=g c (2*m+1)) (x:=cX (g c m)) (v:=v) hc hv,e,e2]
theorem lp (e:Lw P C L G nt S (g c (2*m)) l' env L fr1 h K=v1)(hS:(g c m,live S (g c (2*m)) [] env,bQ fr l')=(.loop (g c (2*m)),l',fr1)):execK P C L G nt S (g c m) out env fr h K=v1:=by
 obtain⟨hc,hS⟩:=Prod.mk.inj hS;obtain⟨hS,hf⟩:=Prod.mk.inj hS;subst hS;subst hf;rw[hc];exact e
theorem tq {Q:Orc}{f n:Nat}{c:Code}{fn:Func}{args:List Value}(hQ:Q f args=none)(hf:P.funcs[f]?=some fn){v1 v2:Option (Value×H)}(e:execK P (aI P G Q n) n G nt S c S [] fr h (qC P fn fun v h=>some (v,h))=v1)(hb:(fn.body,fn.ntmps,eY fn,Nat.ble args.length nt,gO 0 args)=(some c,nt,S,true,fr))(hw:v1=v2):aI P G Q (n+1) f args h=v2:=by
 obtain⟨hb,hS⟩:=Prod.mk.inj hb;obtain⟨hnt,hS⟩:=Prod.mk.inj hS;obtain⟨hrr,hS⟩:=Prod.mk.inj hS;obtain⟨hl,ha⟩:=Prod.mk.inj hS;exact((aHr hQ hf hb hnt hrr hl ha).trans e).trans hw
abbrev r0:T Value:=(fs [])
theorem w0 {f g:K0 β}(e:∀h,f h=g h):f=g:=funext e
theorem c0 {f g:K0 β}(e:f=g)(h:H):f h=g h:=by rw[e]
abbrev r1 (a:Nat)(x0:V):T Value:=(fs [(a,x0)])
theorem w1 {f g:K1 β}(e:∀x0 h,f x0 h=g x0 h):f=g:=funext fun x=>w0 (e x)
theorem c1 {f g:K1 β}(e:f=g)(x0:V)(h:H):f x0 h=g x0 h:=by rw[e]
abbrev r2 (a b:Nat)(x0 x1:V):T Value:=(fs [(a,x0),(b,x1)])
theorem w2 {f g:K2 β}(e:∀x0 x1 h,f x0 x1 h=g x0 x1 h):f=g:=funext fun x=>w1 (e x)
theorem c2 {f g:K2 β}(e:f=g)(x0 x1:V)(h:H):f x0 x1 h=g x0 x1 h:=by rw[e]
abbrev r3 (a b d:Nat)(x0 x1 x2:V):T Value:=(fs [(a,x0),(b,x1),(d,x2)])
theorem w3 {f g:K3 β}(e:∀x0 x1 x2 h,f x0 x1 x2 h=g x0 x1 x2 h):f=g:=funext fun x=>w2 (e x)
theorem c3 {f g:K3 β}(e:f=g)(x0 x1 x2:V)(h:H):f x0 x1 x2 h=g x0 x1 x2 h:=by rw[e]
abbrev r4 (a b d e:Nat)(x0 x1 x2 x3:V):T Value:=(fs [(a,x0),(b,x1),(d,x2),(e,x3)])
theorem w4 {f g:K4 β}(e:∀x0 x1 x2 x3 h,f x0 x1 x2 x3 h=g x0 x1 x2 x3 h):f=g:=funext fun x=>w3 (e x)
theorem c4 {f g:K4 β}(e:f=g)(x0 x1 x2 x3:V)(h:H):f x0 x1 x2 x3 h=g x0 x1 x2 x3 h:=by rw[e]
abbrev r5 (a b d e f:Nat)(x0 x1 x2 x3 x4:V):T Value:=(fs [(a,x0),(b,x1),(d,x2),(e,x3),(f,x4)])
theorem w5 {f g:K5 β}(e:∀x0 x1 x2 x3 x4 h,f x0 x1 x2 x3 x4 h=g x0 x1 x2 x3 x4 h):f=g:=funext fun x=>w4 (e x)
theorem c5 {f g:K5 β}(e:f=g)(x0 x1 x2 x3 x4:V)(h:H):f x0 x1 x2 x3 x4 h=g x0 x1 x2 x3 x4 h:=by rw[e]
abbrev r6 (a b d e f i:Nat)(x0 x1 x2 x3 x4 x5:V):T Value:=(fs [(a,x0),(b,x1),(d,x2),(e,x3),(f,x4),(i,x5)])
theorem w6 {f g:K6 β}(e:∀x0 x1 x2 x3 x4 x5 h,f x0 x1 x2 x3 x4 x5 h=g x0 x1 x2 x3 x4 x5 h):f=g:=funext fun x=>w5 (e x)
theorem c6 {f g:K6 β}(e:f=g)(x0 x1 x2 x3 x4 x5:V)(h:H):f x0 x1 x2 x3 x4 x5 h=g x0 x1 x2 x3 x4 x5 h:=by rw[e]
theorem w7 {f g:K7 β}(e:∀x0 x1 x2 x3 x4 x5 x6 h,f x0 x1 x2 x3 x4 x5 x6 h=g x0 x1 x2 x3 x4 x5 x6 h):f=g:=funext fun x=>w6 (e x)
theorem c7 {f g:K7 β}(e:f=g)(x0 x1 x2 x3 x4 x5 x6:V)(h:H):f x0 x1 x2 x3 x4 x5 x6 h=g x0 x1 x2 x3 x4 x5 x6 h:=by rw[e]
theorem w8 {f g:K8 β}(e:∀x0 x1 x2 x3 x4 x5 x6 x7 h,f x0 x1 x2 x3 x4 x5 x6 x7 h=g x0 x1 x2 x3 x4 x5 x6 x7 h):f=g:=funext fun x=>w7 (e x)
theorem c8 {f g:K8 β}(e:f=g)(x0 x1 x2 x3 x4 x5 x6 x7:V)(h:H):f x0 x1 x2 x3 x4 x5 x6 x7 h=g x0 x1 x2 x3 x4 x5 x6 x7 h:=by rw[e]
theorem w9 {f g:K9 β}(e:∀x0 x1 x2 x3 x4 x5 x6 x7 x8 h,f x0 x1 x2 x3 x4 x5 x6 x7 x8 h=g x0 x1 x2 x3 x4 x5 x6 x7 x8 h):f=g:=funext fun x=>w8 (e x)
end Go.AM.Pk
