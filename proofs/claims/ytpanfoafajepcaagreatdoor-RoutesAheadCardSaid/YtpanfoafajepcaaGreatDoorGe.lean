import Derived.Test.YtpanfoafajepcaaGreatDoorGd
import Derived.KernelRfl
namespace Go.AM
open Go
section
variable {β:Type}
def aW (v:Value)(x y:Option β):Option β:=
  match v with
  | .bool t=>bif t then x else y
  |_=>none
def xM (ex:Ex)(n:T Value→H→Option β)(K:Ex→T Value→H→Option β)(fr:T Value)(h:H):Option β:=
  match ex with
  | .normal=>n fr h
  | .exit j=>K (.exit j) fr h
  | .ret=>K .ret fr h
def iE (id:Nat)(ex:Ex)(K:Ex→T Value→H→Option β)(fr:T Value)(h:H):Option β:=
  match ex with
  | .normal=>K .normal fr h
  | .exit j=>bif Nat.beq j id then K .normal fr h else K (.exit j) fr h
  | .ret=>K .ret fr h
def fW (f:T Value→H→(Ex→T Value→H→Option β)→Option β):Nat→T Value→H→(Ex→T Value→H→Option β)→Option β
  |0,_,_,_=>none
  |n+1,fr,h,K=>f fr h fun ex fr' h'=>xM ex (fun fr h=>fW f n fr h K) K fr' h'
def exL:List (Nat×(H→Option β))→Nat→H→Option β
  |[],_,_=>none
  |(i,k)::r,id,h=>bif Nat.beq i id then k h else exL r id h
def iU (l:Nat)(h:H)(kn kr:H→Option β)(kx:Nat→H→Option β):Option β:=
  match h.get l with
  |some (.loop nt' fr' ps' as' bd' st)=>
    (match st with
     | .ready=>kn (h.put l (.loop nt' fr' ps' as' bd' .exhausted))
     | .done none=>kr (h.put l (.loop nt' fr' ps' as' bd' .exhausted))
     | .done (some id)=>kx id (h.put l (.loop nt' fr' ps' as' bd' .exhausted))
     |_=>none)
  |_=>none
def execK (P:Program)(C:CF)(L NG nt:Nat)(RR:List Tmp):Code→List Tmp→List (Nat×List Tmp)→T Value→H→(Ex→T Value→H→Option β)→Option β
  | .skip,out,_,fr,h,K=>K .normal (bQ fr out) h
  | .region _ ops draw,out,_,fr,h,K=>
    bif dJ nt ops then
      bif draw then
        (bif fQ P ops (before ops)then runD P C NG ops (before ops) 0 ops.toList fr h [] [] fun fr h=>K .normal (bQ fr out) h else none)
      else runOps P C NG ops ops.toList fr h fun fr h=>K .normal (bQ fr out) h
    else none
  | .seq a b,out,env,fr,h,K=>
    execK P C L NG nt RR a (live RR b out env) env fr h fun ex fr' h'=>xM ex (fun fr h=>execK P C L NG nt RR b out env fr h K) K fr' h'
  | .cond c a b,out,env,fr,h,K=>
    (aG NG fr h c).bind fun v=>aW v (execK P C L NG nt RR a out env fr h K) (execK P C L NG nt RR b out env fr h K)
  | .block id b,out,env,fr,h,K=>
    execK P C L NG nt RR b out ((id,out)::env) fr h fun ex fr' h'=>iE id ex K fr' h'
  | .loop b,_,env,fr,h,K=>fW (fun fr h K=>execK P C L NG nt RR b (live RR b [] env) env fr h K) L (bQ fr (live RR b [] env)) h K
  | .exit id,_,env,fr,h,K=>K (.exit id) (bQ fr (aCh id env)) h
  | .scope b,out,env,fr,h,K=>execK P C L NG nt RR b out env fr h K
  | .label _,out,_,fr,h,K=>K .normal (bQ fr out) h
  | .ret,_,_,fr,h,K=>K .ret (bQ fr RR) h
  | .rangeFunc g ps assign body,out,env,fr,h,K=>
    (aG NG fr h g).bind fun gv=>
    bif aFd P gv then(callV C gv [.func (.yield h.next) #[] #[]] (h.push (.loop nt fr ps.toList assign body .ready))).bind fun(_,h2)=>iU h.next h2 (fun h=>K .normal (bQ fr out) h) (fun h=>K .ret (bQ fr RR) h) (exL (env.map fun p=>(p.1,fun h=>K (.exit p.1) (bQ fr p.2) h)))
    else none
  |_,_,_,_,_,_=>none
def qC (P:Program)(fn:Func)(K:Value→H→Option β)(ex:Ex)(fr:T Value)(h:H):Option β:=
  match ex with
  | .exit _=>none
  |_=>(aAs P fr h fn.results.toList).bind fun vs=>K (sM vs) h
def dG (P:Program)(C:CF)(L NG:Nat)(fn:Func)(c:Code)(args:List Value)(h:H)(K:Value→H→Option β):Option β:=
  bif Nat.ble args.length fn.ntmps then
    execK P C L NG fn.ntmps (eY fn) c (eY fn) [] (gO 0 args) h (qC P fn K)
  else none
end
def roundK {β:Type}(P:Program)(C:CF)(L NG:Nat)(id:Nat)(args:List Value)(h:H)(K:Value→H→Option β):Option β:=
  match h.get id with
  |some (.loop nt fr ps assign body .ready)=>
    bif Nat.beq ps.length args.length&&ps.all (fun t=>Nat.blt t nt)&&cK assign&&cK body then
      execK P C L NG nt [] assign (live [] body [] []) [] (sJ fr ps args) h fun ex fr2 h2=>match ex with
        | .normal=>(match h2.get id with
          |some (.loop nt2 f2 p2 a2 b2 .ready)=>execK P C L NG nt [] body [] [] fr2 (h2.put id (.loop nt2 f2 p2 a2 b2 .busy)) fun ex _ h4=>(match h4.get id with
            |some (.loop nt4 f4 p4 a4 b4 _)=>K (.bool (oX ex).1) (h4.put id (.loop nt4 f4 p4 a4 b4 (oX ex).2))
            |_=>none)
          |_=>none)
        |_=>none
    else none
  |_=>none
theorem Step.ofBelow {NG:Nat}{μ:Mu}{h:H}{w w':World}(r:RH NG μ h w)(b:Go.RowKit.Below w.heap.size w w'):Step NG μ h w μ h w' where
  wf:=r.wf
  le:=fun _ _ h=>h
  old:=fun _ _=>rfl
  out:=fun _ _=>rfl
  next:=kF _
  rh:=⟨r.ng,r.wf,fun id c l hb hl=>(r.br id c l hb hl).congr (b.block l.blk (r.bd _ _ hl)),r.inj,fun id l hl=>kH (r.bd id l hl) b.size,r.gl⟩
  size:=b.size
  os:=b.os
  tape:=b.tape
  output:=b.output
  frame:=fun k hk _=>b.block k hk
  src:=fun id k l hk ho hl=>.inr ⟨id,k,l,hk,ho,hl,rfl⟩
  unm:=fun _ _ h _=>h
  dead:=fun _ _ h=>h
  ro:=fun _ _ h _=>h
section
variable {β:Type}{P:Program}{NG nt:Nat}{C:CF}
theorem FR.keep {μ:Mu}{s:List Tmp}{fr:T Value}{a:Act}(f:FR nt μ fr a):FR nt μ (bQ fr s) a:=
  ⟨f.1,fun t v h=>f.2 t v (eQ fr s t v h)⟩
def KS (P:Program)(NG nt:Nat)(c:Code)(fr:T Value)(h:H)(K:Ex→T Value→H→Option β)(r:β):Prop:=
  ∃ex fr' h',K ex fr' h'=some r∧wE P NG nt c fr h ex fr' h'
theorem wQ {f:T Value→H→(Ex→T Value→H→Option β)→Option β}{b:Code}(hb:∀fr h K r,f fr h K=some r→KS P NG nt b fr h K r):
    ∀(n:Nat) (fr:T Value) (h:H) (K:Ex→T Value→H→Option β) (r:β),fW f n fr h K=some r→
      ∃ex fr' h',K ex fr' h'=some r∧ex≠.normal∧h.next≤h'.next∧
      ∀(μ:Mu) (a:Act) (w:World),RH NG μ h w→Fresh μ h.next h'.next→FR nt μ fr a→∀(ro:Option Nat),(ro=none∨cK b=true)→
        Code.roundsIn (Fr ro) 0 P b (fun e a' w'=>ExR ex e∧StepTo NG nt μ h w a fr' h' a' w') n a w:=by
  intro n
  induction n with
  |zero=>intro fr h K r hr;simp[fW]at hr
  |succ n ih=>
    intro fr h K r hr;simp only[fW]at hr;obtain⟨ex1,fr1,h1,hk,hc⟩:=hb _ _ _ _ hr
    cases ex1 with
    |normal=>
      simp only[xM]at hk;obtain⟨ex,fr',h',hK,hne,hle,hs⟩:=ih _ _ _ _ hk;refine⟨ex,fr',h',hK,hne,kG hc.1 hle,fun μ a w rh hf f0 ro hro=>?_⟩;rw[roundsIn_succ];refine wpIn_mono (hc.2 μ a w rh (fun id e1 e2=>hf id e1 (kH e2 hle)) f0 ro hro) fun e a1 w1 ⟨he,μ1,st,f1,d1⟩=>?_
      cases e with
      |normal=>
        have:=hs μ1 a1 w1 st.rh (hf.second st) f1 ro hro;clear hs ih;have mono:∀(m:Nat) (a2:Act) (w2:World),Code.roundsIn (Fr ro) 0 P b (fun e a' w'=>ExR ex e∧StepTo NG nt μ1 h1 w1 a1 fr' h' a' w') m a2 w2→
            Code.roundsIn (Fr ro) 0 P b (fun e a' w'=>ExR ex e∧StepTo NG nt μ h w a fr' h' a' w') m a2 w2:=by
          intro m
          induction m with
          |zero=>intro a2 w2 hh;exact hh
          |succ m ihm=>
            intro a2 w2 hh;rw[roundsIn_succ]at hh⊢;refine wpIn_mono hh fun e a3 w3 hh=>?_
            cases e with
            |normal=>exact ihm _ _ hh
            |_=>exact⟨hh.1,hh.2.trans st d1⟩
        exact mono n a1 w1 this
      |_=>exact he.elim
    |exit id=>
      simp only[xM]at hk;refine⟨.exit id,fr1,h1,hk,by simp,hc.1,fun μ a w rh hf f0 ro hro=>?_⟩;rw[roundsIn_succ];refine wpIn_mono (hc.2 μ a w rh hf f0 ro hro) fun e a1 w1 ⟨he,hst⟩=>?_
      cases e with
      |normal=>exact he.elim
      |_=>exact⟨he,hst⟩
    |ret=>
      simp only[xM]at hk;refine⟨.ret,fr1,h1,hk,by simp,hc.1,fun μ a w rh hf f0 ro hro=>?_⟩;rw[roundsIn_succ];refine wpIn_mono (hc.2 μ a w rh hf f0 ro hro) fun e a1 w1 ⟨he,hst⟩=>?_
      cases e with
      |normal=>exact he.elim
      |_=>exact⟨he,hst⟩
theorem aAh {fr:T Value}{K:Ex→T Value→H→Option β}:∀{env:List (Nat×List Tmp)} {id:Nat} {h:H} {r:β},exL (env.map fun p=>(p.1,fun h=>K (.exit p.1) (bQ fr p.2) h)) id h=some r→∃s,K (.exit id) (bQ fr s) h=some r
  |[],id,h,r,hr=>by simp[exL]at hr
  |(i,s)::env,id,h,r,hr=>by
    simp only[List.map_cons,exL]at hr
    cases hb:Nat.beq i id with
    |true=>rw[hb]at hr;have:=beq_iff.1 hb;subst this;exact⟨s,hr⟩
    |false=>rw[hb]at hr;exact aAh (env:=env) hr
theorem qS {F:Fence}{n:Nat}{P:Program}{Q:Exit→Act→World→Prop}{a:Act}{w:World}{c:Code}(h:c.wpIn F n P Q a w)(hg:∀l a w,¬Q (.goto l) a w):(Code.scope c).wpIn F n P Q a w:=by
  intro b k cs hro hb hr;have st:step P (lone (b.atR a (.code (.scope c)::k)) cs w)=.next (lone (b.atR a (.code c::.inScope c::k)) cs w):=step_lone_go (by simp[stepG,stepG.exec,Frame.atR]);have st2:∀a w,step P (lone (b.atR a (.inScope c::k)) cs w)=.next (lone (b.atR a k) cs w):=fun _ _=>step_lone_go (by simp[stepG,stepG.exec,Frame.atR]);have h0:(lone (b.atR a (.code (.scope c)::k)) cs w).fenced P F:=fenced_calm hb hr rfl;obtain⟨e,a₁,w₁,hq,harr⟩:=h b (.inScope c::k) cs hro hb hr
  cases e with
  |normal=>exact⟨.normal,a₁,w₁,hq,.head h0 st (StepsIn.trans harr (.one (fenced_calm hb hr rfl) (st2 _ _)))⟩
  |exit id=>
    have hx:exitTo id (.inScope c::k)=exitTo id k:=by simp[exitTo]
    exact⟨.exit id,a₁,w₁,hq,fun k' hk=>.head h0 st (harr.1 k' (by rw[hx];exact hk)),
      fun hr' hk=>let⟨k₁,h1,h2⟩:=harr.2 hr' (by rw[hx];exact hk);⟨k₁,h1,.head h0 st h2⟩⟩
  |goto l=>exact absurd hq (hg _ _ _)
  |ret=>exact⟨_,a₁,w₁,hq,.of_steps (.one h0 st) harr⟩
  |panic ch=>exact⟨_,a₁,w₁,hq,.of_steps (.one h0 st) harr⟩
  |outgrown=>exact⟨_,a₁,w₁,hq,.of_steps (.one h0 st) harr⟩
theorem dX (hzp:aK P=true)(hm:P.follows .mixedOrders=true)(hC:aM P NG C){L:Nat}{RR:List Tmp}:
    ∀(c:Code) (out:List Tmp) (env:List (Nat×List Tmp)) (fr:T Value) (h:H) (K:Ex→T Value→H→Option β) (r:β),
      execK P C L NG nt RR c out env fr h K=some r→KS P NG nt c fr h K r:=by
  intro c
  induction c with
  |skip=>
    intro out env fr h K r hr;exact⟨_,_,_,hr,kF _,fun μ a w rh _ f ro _=>wpIn_skip ⟨trivial,μ,Step.refl rh,f.keep,Marks.refl _ _ _⟩⟩
  |label l=>
    intro out env fr h K r hr;exact⟨_,_,_,hr,kF _,fun μ a w rh _ f ro _=>wpIn_label ⟨trivial,μ,Step.refl rh,f.keep,Marks.refl _ _ _⟩⟩
  |exit id=>
    intro out env fr h K r hr;exact⟨_,_,_,hr,kF _,fun μ a w rh _ f ro _=>wpIn_exit ⟨rfl,μ,Step.refl rh,f.keep,Marks.refl _ _ _⟩⟩
  |ret=>
    intro out env fr h K r hr;exact⟨_,_,_,hr,kF _,fun μ a w rh _ f ro _=>wpIn_ret ⟨trivial,μ,Step.refl rh,f.keep,Marks.refl _ _ _⟩⟩
  |region id ops draw=>
    intro out env fr h K r hr;simp only[execK]at hr;obtain⟨hd,hr⟩:=aA hr
    cases draw with
    |false=>
      simp only[cond_false]at hr;obtain⟨fr1,h1,hk,hle,hs⟩:=eF hzp hC hd ops.toList 0 fr h rfl hr;refine⟨_,_,_,hk,hle,fun μ a w rh hf f ro hro=>wpIn_region ?_⟩;have:=hs μ a w rh hf f ro (fun e a' w'=>ExR .normal e∧StepTo NG nt μ h w a (bQ fr1 out) h1 a' w') fun a' w' ⟨μ',st,f',d⟩=>⟨trivial,μ',st,f'.keep,by rw[d];exact Marks.refl _ _ _⟩;rw[Nat.sub_zero,←List.range_eq_range']at this;exact this
    |true=>
      simp only[cond_true]at hr;obtain⟨hdr,hr⟩:=aA hr;obtain⟨fr1,h1,hk,hle,hs⟩:=mB hzp hC hd hdr hr;refine⟨_,_,_,hk,hle,fun μ a w rh hf f ro hro=>wpIn_region_any hm ?_⟩;exact hs μ a w rh hf f ro _ fun a' w' ⟨μ',st,f',d⟩=>⟨trivial,μ',st,f'.keep,by rw[d];exact Marks.refl _ _ _⟩
  |seq x y ihx ihy=>
    intro out env fr h K r hr;simp only[execK]at hr;obtain⟨ex1,fr1,h1,hk,hcx⟩:=ihx _ _ _ _ _ _ hr
    cases ex1 with
    |normal=>
      simp only[xM]at hk;obtain⟨ex2,fr2,h2,hK,hcy⟩:=ihy _ _ _ _ _ _ hk;refine⟨ex2,fr2,h2,hK,kG hcx.1 hcy.1,fun μ a w rh hf f ro hro=>wpIn_seq (wpIn_mono (hcx.2 μ a w rh (fun id e1 e2=>hf id e1 (kH e2 hcy.1)) f ro (pK hro).1) fun e a1 w1 ⟨he,μ1,st,f1,d1⟩=>?_)⟩
      cases e with
      |normal=>exact wpIn_mono (hcy.2 μ1 a1 w1 st.rh (hf.second st) f1 ro (pK hro).2) fun e a2 w2 ⟨he2,hst⟩=>⟨he2,hst.trans st d1⟩
      |_=>exact he.elim
    |exit id=>
      refine⟨_,_,_,hk,hcx.1,fun μ a w rh hf f ro hro=>wpIn_seq (wpIn_mono (hcx.2 μ a w rh hf f ro (pK hro).1) fun e a1 w1 ⟨he,hst⟩=>?_)⟩
      cases e with
      |normal=>exact he.elim
      |_=>exact⟨he,hst⟩
    |ret=>
      refine⟨_,_,_,hk,hcx.1,fun μ a w rh hf f ro hro=>wpIn_seq (wpIn_mono (hcx.2 μ a w rh hf f ro (pK hro).1) fun e a1 w1 ⟨he,hst⟩=>?_)⟩
      cases e with
      |normal=>exact he.elim
      |_=>exact⟨he,hst⟩
  |cond c x y ihx ihy=>
    intro out env fr h K r hr;simp only[execK]at hr;obtain⟨v,hc,hr⟩:=bind_some hr;unfold aW at hr;split at hr
    ·rename_i t
     cases t with
     |true=>
       simp only[cond_true]at hr;obtain⟨ex,fr',h',hK,hx⟩:=ihx _ _ _ _ _ _ hr;exact⟨ex,fr',h',hK,hx.1,fun μ a w rh hf f ro hro=>wpIn_cond_true ((f.ev rh c _ hc).bool_inv) (hx.2 μ a w rh hf f ro (pK hro).1)⟩
     |false=>
       simp only[cond_false]at hr;obtain⟨ex,fr',h',hK,hy⟩:=ihy _ _ _ _ _ _ hr;exact⟨ex,fr',h',hK,hy.1,fun μ a w rh hf f ro hro=>wpIn_cond_false ((f.ev rh c _ hc).bool_inv) (hy.2 μ a w rh hf f ro (pK hro).2)⟩
    ·simp at hr
  |block id b ih=>
    intro out env fr h K r hr;simp only[execK]at hr;obtain⟨ex1,fr1,h1,hk,hcx⟩:=ih _ _ _ _ _ _ hr
    cases ex1 with
    |normal=>
      refine⟨_,_,_,hk,hcx.1,fun μ a w rh hf f ro hro=>wpIn_block (wpIn_mono (hcx.2 μ a w rh hf f ro hro) fun e a1 w1 ⟨he,hst⟩=>?_)⟩
      cases e with
      |normal=>exact⟨trivial,hst⟩
      |_=>exact he.elim
    |ret=>
      refine⟨_,_,_,hk,hcx.1,fun μ a w rh hf f ro hro=>wpIn_block (wpIn_mono (hcx.2 μ a w rh hf f ro hro) fun e a1 w1 ⟨he,hst⟩=>?_)⟩
      cases e with
      |ret=>exact⟨trivial,hst⟩
      |_=>exact he.elim
    |exit j=>
      simp only[iE]at hk
      cases hj:Nat.beq j id with
      |true=>
        rw[hj]at hk;simp only[cond_true]at hk;have hj:=beq_iff.1 hj;refine⟨_,_,_,hk,hcx.1,fun μ a w rh hf f ro hro=>wpIn_block (wpIn_mono (hcx.2 μ a w rh hf f ro hro) fun e a1 w1 ⟨he,hst⟩=>?_)⟩
        cases e with
        |exit k=>
          simp only[ExR]at he;simp only[Exit.inBlock,←he,hj,if_true];exact⟨trivial,hst⟩
        |_=>exact he.elim
      |false=>
        rw[hj]at hk;simp only[cond_false]at hk;have hj:j≠id:=fun e=>by rw[beq_iff.2 e]at hj;simp at hj
        refine⟨_,_,_,hk,hcx.1,fun μ a w rh hf f ro hro=>wpIn_block (wpIn_mono (hcx.2 μ a w rh hf f ro hro) fun e a1 w1 ⟨he,hst⟩=>?_)⟩
        cases e with
        |exit k=>
          simp only[ExR]at he;simp only[Exit.inBlock,←he,hj,if_false];exact⟨rfl,hst⟩
        |_=>exact he.elim
  |loop b ih=>
    intro out env fr h K r hr;simp only[execK]at hr;obtain⟨ex,fr',h',hK,_,hle,hs⟩:=wQ (fun fr h K r hh=>ih _ _ fr h K r hh) L _ h K r hr;exact⟨ex,fr',h',hK,hle,fun μ a w rh hf f ro hro=>wpIn_loop_rounds L (hs μ a w rh hf f.keep ro hro)⟩
  |rangeFunc g ps assign body iha ihb=>
    intro out env fr h K r hr;simp only[execK]at hr;obtain⟨gv,hgv,hr⟩:=bind_some hr;obtain⟨hfn,hr⟩:=aA hr;obtain⟨⟨v,h2⟩,hcall,hr⟩:=bind_some hr;unfold iU at hr;split at hr
    ·rename_i nt' f' ps' as' bd' st hst;split at hr
     ·exact⟨_,_,_,hr,eW hC hgv hfn hcall hst rfl (eQ fr _)⟩
     ·exact⟨_,_,_,hr,eW hC hgv hfn hcall hst rfl (eQ fr _)⟩
     ·rename_i id;obtain⟨s,hs⟩:=aAh hr;exact⟨_,_,_,hs,eW hC hgv hfn hcall hst rfl (eQ fr _)⟩
     ·simp at hr
    ·simp at hr
  |scope b ih=>
    intro out env fr h K r hr;simp only[execK]at hr;obtain⟨ex1,fr1,h1,hk,hcx⟩:=ih _ _ _ _ _ _ hr;refine⟨ex1,fr1,h1,hk,hcx.1,fun μ a w rh hf f ro hro=>qS (hcx.2 μ a w rh hf f ro hro) fun l a w hq=>?_⟩;have:=hq.1;cases ex1<;>exact this.elim
  |_=>intro out env fr h K r hr;simp[execK]at hr
end
end Go.AM

namespace Go.AM
open Go
def fs:List (Nat×Value)→T Value
 |[]=>.nil
 |(t,v)::r=>(fs r).set t (some v)
def bnd {α β:Type}(o:Option α)(f:α→Option β):Option β:=
 match o with
 |some a=>f a
 |none=>none
def aF {α γ β:Type}(o:Option (α×γ))(f:α→γ→Option β):Option β:=
 match o with
 |some (a,c)=>f a c
 |none=>none
@[simp] theorem qZ {α β:Type}(a:α)(f:α→Option β):bnd (some a) f=f a:=(rfl)
@[simp] theorem qX {α γ β:Type}(a:α)(c:γ)(f:α→γ→Option β):aF (some (a,c)) f=f a c:=(rfl)
def chk (o:Option Value)(v:Value):Bool:=
 match o with
 |some u=>same u v
 |none=>false
def bKx (o:Option Value)(r:Option (List Value)):Option (List Value):=
 match o with
 |some v=>(match r with|some vs=>some (v::vs)|none=>none)
 |none=>none
def cL:Code→Code
 | .seq a _=>a
 | .cond _ a _=>a
 | .block _ b=>b
 | .loop b=>b
 | .scope b=>b
 | .rangeFunc _ _ a _=>a
 |c=>c
def cR:Code→Code
 | .seq _ b=>b
 | .cond _ _ b=>b
 | .rangeFunc _ _ _ b=>b
 |c=>c
section
variable {β:Type}{P:Program}{C:CF}{L NG nt:Nat}{RR out out1:List Tmp}{env:List (Nat×List Tmp)}{fr:T Value}{h:H}{K:Ex→T Value→H→Option β}
theorem aCv (n:T Value→H→Option β)(fr:T Value)(h:H):xM .normal n K fr h=n fr h:=(rfl)
theorem aSb (n:T Value→H→Option β)(fr:T Value)(h:H):xM .ret n K fr h=K .ret fr h:=(rfl)
theorem nY {c a b:Code}(hc:c=.seq a b)(ho:live RR b out env=out1):
 execK P C L NG nt RR c out env fr h K=execK P C L NG nt RR a out1 env fr h fun ex fr' h'=>xM ex (fun fr h=>execK P C L NG nt RR b out env fr h K) K fr' h':=by
 subst hc;subst ho;rfl
theorem wY {c b:Code}{id:Nat}(hc:c=.block id b):
 execK P C L NG nt RR c out env fr h K=execK P C L NG nt RR b out ((id,out)::env) fr h fun ex fr' h'=>iE id ex K fr' h':=by
 subst hc;rfl
theorem aBr {c a b:Code}{x:Operand}{v:Value}(hc:c=.cond x a b)(hv:aG NG fr h x=some v):
 execK P C L NG nt RR c out env fr h K=aW v (execK P C L NG nt RR a out env fr h K) (execK P C L NG nt RR b out env fr h K):=by
 subst hc;simp only[execK,hv,pD]
theorem wX {c assign body:Code}{g:Operand}{gv:Value}{ps:List Tmp}(hc:c=.rangeFunc g ⟨ps⟩ assign body)(hg:aG NG fr h g=some gv):
 execK P C L NG nt RR c out env fr h K=(bif aFd P gv then(callV C gv [.func (.yield h.next) #[] #[]] (h.push (.loop nt fr ps assign body .ready))).bind fun(_,h2)=>
  iU h.next h2 (fun h=>K .normal (bQ fr out) h) (fun h=>K .ret (bQ fr RR) h) (exL (env.map fun p=>(p.1,fun h=>K (.exit p.1) (bQ fr p.2) h)))else none):=by
 subst hc;show(aG NG fr h g).bind _=_;rw[hg];rfl
end
abbrev Kv0 (β:Type):=H→Option β
abbrev Kv1 (β:Type):=Value→H→Option β
abbrev Kv2 (β:Type):=Value→Value→H→Option β
abbrev Kv3 (β:Type):=Value→Value→Value→H→Option β
abbrev Kv4 (β:Type):=Value→Value→Value→Value→H→Option β
abbrev Kv5 (β:Type):=Value→Value→Value→Value→Value→H→Option β
abbrev Kv6 (β:Type):=Value→Value→Value→Value→Value→Value→H→Option β
abbrev Kv7 (β:Type):=Value→Value→Value→Value→Value→Value→Value→H→Option β
abbrev Kv8 (β:Type):=Value→Value→Value→Value→Value→Value→Value→Value→H→Option β
abbrev Kv9 (β:Type):=Value→Value→Value→Value→Value→Value→Value→Value→Value→H→Option β
abbrev bOp (β:Type):=Value→Value→Value→Value→Value→Value→Value→Value→Value→Value→H→Option β
abbrev bOo (β:Type):=Value→Value→Value→Value→Value→Value→Value→Value→Value→Value→Value→H→Option β
end Go.AM
