import Derived.Test.YtpanfoafajepcaaGreatDoorGc
namespace Go.AM
open Go
def aOc (f:T Value→H→Option (Ex×T Value×H)):Nat→T Value→H→Option (Ex×T Value×H)
  |0,_,_=>none
  |n+1,fr,h=>
    match f fr h with
    |some (.normal,fr',h')=>aOc f n fr' h'
    |r=>r
def exec (P:Program)(C:CF)(L NG nt:Nat)(RR:List Tmp)(lv:Bool):Code→List Tmp→List (Nat×List Tmp)→T Value→H→Option (Ex×T Value×H)
  | .skip,_,_,fr,h=>some (.normal,fr,h)
  | .region _ ops draw,out,_,fr,h=>
    bif dJ nt ops then
      bif draw then
        (bif fQ P ops (before ops)then runD P C NG ops (before ops) 0 ops.toList fr h [] [] fun fr h=>some (.normal,restrict lv out fr,h)else none)
      else runOps P C NG ops ops.toList fr h fun fr h=>some (.normal,restrict lv out fr,h)
    else none
  | .seq a b,out,env,fr,h=>
    match exec P C L NG nt RR lv a (live RR b out env) env fr h with
    |some (.normal,fr',h')=>exec P C L NG nt RR lv b out env fr' h'
    |r=>r
  | .cond c a b,out,env,fr,h=>
    match aG NG fr h c with
    |some (.bool t)=>bif t then exec P C L NG nt RR lv a out env fr h else exec P C L NG nt RR lv b out env fr h
    |_=>none
  | .block id b,out,env,fr,h=>
    match exec P C L NG nt RR lv b out ((id,out)::env) fr h with
    |some (.exit j,fr',h')=>bif Nat.beq j id then some (.normal,fr',h')else some (.exit j,fr',h')
    |r=>r
  | .loop b,_,env,fr,h=>aOc (exec P C L NG nt RR lv b (live RR b [] env) env) L fr h
  | .exit id,_,_,fr,h=>some (.exit id,fr,h)
  | .label _,_,_,fr,h=>some (.normal,fr,h)
  | .ret,_,_,fr,h=>some (.ret,fr,h)
  | .rangeFunc g ps assign body,_,_,fr,h=>
    match aG NG fr h g with
    |some gv=>
      bif aFd P gv then
        match callV C gv [.func (.yield h.next) #[] #[]] (h.push (.loop nt fr ps.toList assign body .ready))with
        |some (_,h2)=>(match h2.get h.next with
          |some (.loop nt' fr' ps' as' bd' st)=>(match iW st with
            |some ex=>some (ex,fr,h2.put h.next (.loop nt' fr' ps' as' bd' .exhausted))
            |none=>none)
          |_=>none)
        |none=>none
      else none
    |none=>none
  |_,_,_,_,_=>none
def eY (fn:Func):List Tmp:=fn.results.toList.map fun| .tmp t=>t| .cell t _=>t
def aAs (P:Program)(fr:T Value)(h:H):List ResultVar→Option (List Value)
  |[]=>some []
  | .tmp t::r=>match fr.get t with
    |some v=>(match aAs P fr h r with|some vs=>some (v::vs)|none=>none)
    |none=>none
  | .cell t ty::r=>match fr.get t,vI P ty,szP P ty with
    |some p,some g,some n=>(match A.load g n p h with
      |some v=>(match aAs P fr h r with|some vs=>some (v::vs)|none=>none)
      |none=>none)
    |_,_,_=>none
def sM:List Value→Value
  |[v]=>v
  |vs=>.tuple ⟨vs⟩
def gO:Nat→List Value→T Value
  |_,[]=>.nil
  |i,v::r=>(gO (i+1) r).set i (some v)
def eJ (P:Program):Bool:=(P.funcs.toList.all fun fn=>fn.name != "runtime.NumGoroutine")&&Nat.ble P.funcs.size 1099511627776
theorem gQ {P:Program}(hn:eJ P=true){f:Nat}{fn:Func}(hfn:P.funcs[f]?=some fn):fn.name≠ "runtime.NumGoroutine" ∧f<Y0:=by
  unfold eJ at hn;simp only[kO]at hn;have hmem:fn∈P.funcs.toList:=by rw[Array.mem_toList_iff];exact Array.mem_of_getElem? hfn
  have h1:=List.all_eq_true.1 hn.1 fn hmem;have h2:=Nat.le_of_ble_eq_true hn.2;have h3:=(Array.getElem?_eq_some_iff.1 hfn).1;exact⟨by simpa using h1,by show f<1099511627776;omega⟩
section
variable {P:Program}{NG nt:Nat}{C:CF}
theorem oB:∀(args:List Value) (i t:Nat) (v:Value),(gO i args).get t=some v→i≤t∧args[t-i]?=some v
  |[],i,t,v,h=>by simp[gO]at h
  |x::r,i,t,v,h=>by
    simp only[gO,T.get_set]at h;split at h
    ·rename_i e;subst e;simp at h;subst h;simp
    ·rename_i e;obtain⟨h1,h2⟩:=oB r (i+1) t v h;refine⟨by omega,?_⟩;rw[show t-i=(t-(i+1))+1 by omega];simpa using h2
theorem mC {fr:T Value}{h:H}{μ:Mu}{w:World}{a:Act}(rh:RH NG μ h w)(f:FR nt μ fr a):∀(rs:List ResultVar) (vs:List Value),aAs P fr h rs=some vs→
    ∃cs,(rs.mapM (m:=Sem) fun| .tmp t=>pure (a.tmps.getD t undef)| .cell ad t=>do loadVar t (←asAddr (a.tmps.getD ad undef))).run P w=.ok cs w∧LR μ vs cs
  |[],vs,hr=>by
    simp only[aAs,kE]at hr;subst hr;exact⟨[],rfl,.nil⟩
  | .tmp t::rs,vs,hr=>by
    simp only[aAs]at hr;split at hr
    ·rename_i v hv;split at hr
     ·rename_i vs' hvs;simp only[kE]at hr;subst hr;obtain⟨cs,hrun,hl⟩:=mC rh f rs vs' hvs;exact⟨_::cs,by simp only[List.mapM_cons,kR,kS,kQ,hrun],.cons (f.2 t v hv).2 hl⟩
     ·simp at hr
    ·simp at hr
  | .cell t ty::rs,vs,hr=>by
    simp only[aAs]at hr;split at hr
    ·rename_i p g n hp hg hn;split at hr
     ·rename_i v hv;split at hr
      ·rename_i vs' hvs;simp only[kE]at hr;subst hr;obtain⟨cs,hrun,hl⟩:=mC rh f rs vs' hvs;obtain⟨cv,hld,hr'⟩:=mE P rh hg hn hv (f.2 t p hp).2;have:∃ad,a.tmps.getD t undef=.pointer (some ad):=by
         have hpp:=(f.2 t p hp).2;have:∃q,p=.pointer (some q):=by
           cases g with
           |true=>
             simp only[A.load,cond_true]at hv;unfold A.loadN at hv;split at hv
             ·exact⟨_,rfl⟩
             ·simp at hv
           |false=>
             simp only[A.load,cond_false]at hv;unfold A.load1 at hv;split at hv
             ·exact⟨_,rfl⟩
             ·simp at hv
         obtain⟨q,rfl⟩:=this;generalize a.tmps.getD t undef=u at hpp;cases hpp;exact⟨_,rfl⟩
       obtain⟨ad,had⟩:=this;rw[had]at hld;simp only[Instr.loadAt,Instr.sureAddr,kR,kS,kQ]at hld;have ha:(asAddr (a.tmps.getD t undef)).run P w=.ok ad w:=by rw[had];rfl
       exact⟨cv::cs,by simp only[List.mapM_cons,kR,ha,kS,kQ,hld,hrun],.cons hr' hl⟩
      ·simp at hr
     ·simp at hr
    ·simp at hr
theorem lK {fn:Func}{fr:T Value}{h:H}{μ:Mu}{w:World}{a:Act}(rh:RH NG μ h w)(f:FR nt μ fr a){vs:List Value}(hr:aAs P fr h fn.results.toList=some vs):
    ∃cv,(results fn a.tmps).run P w=.ok cv w∧VR μ (sM vs) cv:=by
  obtain⟨cs,hrun,hl⟩:=mC rh f _ _ hr;have e1:(fn.results.mapM (m:=Sem) fun| .tmp t=>pure (a.tmps.getD t undef)| .cell ad t=>do loadVar t (←asAddr (a.tmps.getD ad undef))).run P w=.ok cs.toArray w:=by
    rw[Array.mapM_eq_mapM_toList];simp only[Sem.run_map];have:=hrun;rw[this];rfl
  clear hrun hr
  match vs,cs,hl,e1 with
  |[v],[c],hl,e1=>
    refine⟨c,?_,hl.2 0 v c rfl rfl⟩;simp only[results,kR];exact(congrArg (fun q=>Result.andThen q _) e1).trans rfl
  |[],[],hl,e1=>
    refine⟨.tuple ⟨[]⟩,?_,.tuple [] [] rfl (by simp)⟩;simp only[results,kR];exact(congrArg (fun q=>Result.andThen q _) e1).trans rfl
  |v::v2::vs,c::c2::cs,hl,e1=>
    refine⟨.tuple ⟨c::c2::cs⟩,?_,.tuple _ _ hl.1 hl.2⟩;simp only[results,kR];refine(congrArg (fun q=>Result.andThen q _) e1).trans ?_;simp only[kQ,kS];rw[dif_neg (by simp)]
  |[],_::_,hl,_=>exact absurd hl.1 (by simp)
  |_::_,[],hl,_=>exact absurd hl.1 (by simp)
  |[_],_::_::_,hl,_=>exact absurd hl.1 (by simp)
  |_::_::_,[_],hl,_=>exact absurd hl.1 (by simp)
theorem nN {α:Type}{args:List Value}{K:Nat→List Value→Option α}{r:α}(h:aLp args K=some r):∃id vs k,args=.int k (.ofNat id)::vs∧K id vs=some r:=by
  unfold aLp at h;split at h
  ·exact⟨_,_,_,rfl,h⟩
  ·simp at h
theorem pL {f:Nat}(e:f=Y0):¬f<Y0:=by rw[e];exact Nat.lt_irrefl _
theorem iN (hn:eJ P=true){f:FuncId}{fn:Func}(hfn:P.funcs[f]?=some fn){c:Code}(hc:fn.body=some c){args:List Value}{h:H}(hlen:args.length≤fn.ntmps)
    {ex:Ex} {fr:T Value} {h':H} (hcs:wE P NG fn.ntmps c (gO 0 args) h ex fr h') (hnr:ex=.normal∨ex=.ret) {vs:List Value} (hres:aAs P fr h' fn.results.toList=some vs):
    h.next≤h'.next∧
    (f<Y0→∃fn,P.funcs[f]?=some fn∧fn.name≠ "runtime.NumGoroutine" ∧
      (((∃c,fn.body=some c)∧∀μ w cargs,RH NG μ h w→Fresh μ h.next h'.next→LR μ args cargs→Calls P f ⟨cargs⟩ w (fX NG μ h w (sM vs) h'))∨
       (fn.body=none∧∀μ w cargs,RH NG μ h w→Fresh μ h.next h'.next→LR μ args cargs→∃cv w' μ',(callFunc f ⟨cargs⟩).run P w=.ok (.value cv) w'∧Step NG μ h w μ' h' w'∧VR μ' (sM vs) cv)))∧
    (∀id us,f=Y0→args=.int .i64 (.ofNat id)::us→∀μ w cargs l,RH NG μ h w→Fresh μ h.next h'.next→LR μ us cargs→μ id=some l→
      ∃g tm a b,(Instr.yield l.blk ⟨cargs⟩).run P w=.ok (.round l.blk g tm a b) w∧RoundIn Fence.wide 0 P l.blk g tm a b w (fX NG μ h w (sM vs) h')):=by
  obtain⟨hname,hlt⟩:=gQ hn hfn;refine⟨hcs.1,fun _=>⟨fn,hfn,hname,.inl ⟨⟨c,hc⟩,fun μ w cargs rh hf hl=>callsIn_Fr.1 (callsIn_of_wp_marks (F:=Fr none) (n:=0) hfn hc trivial ?_)⟩⟩,fun id us e=>absurd hlt (pL e)⟩;have hcl:cargs.length=args.length:=hl.1.symm;have f0:FR fn.ntmps μ (gO 0 args) {tmps:=(⟨cargs⟩:Array Value)++Array.replicate (fn.ntmps-(⟨cargs⟩:Array Value).size) undef,defers:=[]}:=by
    refine⟨by simp;omega,fun(t:Nat) u hu=>?_⟩;obtain⟨_,h2⟩:=oB args 0 t u hu;simp only[Nat.sub_zero]at h2;have hlt:t<args.length:=(List.getElem?_eq_some_iff.1 h2).1;refine⟨kH hlt hlen,?_⟩;obtain⟨b,hb,hr'⟩:=hl.get h2;have hlt2:t<cargs.length:=by rw[hcl];exact hlt
    have:((⟨cargs⟩:Array Value)++Array.replicate (fn.ntmps-(⟨cargs⟩:Array Value).size) undef)[t]?=some b:=by
      rw[Array.getElem?_append_left (by simpa using hlt2)];simpa using hb
    simp only[pG,this,pC];exact hr'
  refine wpIn_mono (hcs.2 μ _ w rh hf f0 none (.inl rfl)) fun e a' w' ⟨he,μ',st,f',ms,ed,nd,gd⟩=>?_;have fin:LeavesInM (Fr none) 0 P fn a'.tmps (fX NG μ h w (sM vs) h') a'.defers .returning w':=by
    have ed':a'.defers=ms.map (fun r=>(⟨.collected r,#[]⟩:Deferred)):=by rw[ed];simp
    rw[ed'];refine iC ms w' st nd gd fun w'' st''=>?_;obtain⟨cv,hrun,hvr⟩:=lK (w:=w'') st''.rh f' hres;exact⟨cv,hrun,cv,μ',rfl,st'',hvr⟩
  rcases hnr with rfl|rfl
  ·cases e with
   |normal=>exact fin
   |_=>exact he.elim
  ·cases e with
   |ret=>exact fin
   |_=>exact he.elim
theorem tS (hn:eJ P=true){f:FuncId}{fn:Func}(hfn:P.funcs[f]?=some fn)(hb:fn.body=none){args:List Value}{h h':H}{v:Value}(hr:lN (oS fn) args h=some (v,h')):
    h.next≤h'.next∧
    (f<Y0→∃fn,P.funcs[f]?=some fn∧fn.name≠ "runtime.NumGoroutine" ∧
      (((∃c,fn.body=some c)∧∀μ w cargs,RH NG μ h w→Fresh μ h.next h'.next→LR μ args cargs→Calls P f ⟨cargs⟩ w (fX NG μ h w v h'))∨
       (fn.body=none∧∀μ w cargs,RH NG μ h w→Fresh μ h.next h'.next→LR μ args cargs→∃cv w' μ',(callFunc f ⟨cargs⟩).run P w=.ok (.value cv) w'∧Step NG μ h w μ' h' w'∧VR μ' v cv)))∧
    (∀id us,f=Y0→args=.int .i64 (.ofNat id)::us→∀μ w cargs l,RH NG μ h w→Fresh μ h.next h'.next→LR μ us cargs→μ id=some l→
      ∃g tm a b,(Instr.yield l.blk ⟨cargs⟩).run P w=.ok (.round l.blk g tm a b) w∧RoundIn Fence.wide 0 P l.blk g tm a b w (fX NG μ h w v h')):=by
  obtain⟨hname,hlt⟩:=gQ hn hfn;obtain⟨rfl,hs⟩:=sT (NG:=NG) hfn hname hb hr;exact⟨kF _,fun _=>⟨fn,hfn,hname,.inr ⟨hb,fun μ w cargs rh _ hl=>hs μ w cargs rh hl⟩⟩,fun id us e=>absurd hlt (pL e)⟩
end
end Go.AM

namespace Go.AM
open Go Go.RowKit
theorem RH.nothing (w:World):RH 0 (fun _=>none) ⟨.nil,0⟩ w:=
 ⟨kF _,fun id b hb=>by simp[H.get]at hb,fun id b l hb=>by simp[H.get]at hb,fun id b l id' b' l' hb=>by simp[H.get]at hb,
  fun id l hl=>by simp at hl,fun g hg=>by omega⟩
theorem Step.below {NG:Nat}{μ μ':Mu}{h h':H}{w w':World}(st:Step NG μ h w μ' h' w')(ho:∀id k,h.get id=some k→k.owned=false):Below w.heap.size w w':=
 ⟨st.os,st.tape,st.output,st.size,fun k hk=>st.frame k hk fun id c l hc hco=>by rw[ho id c hc]at hco;simp at hco⟩
end Go.AM
