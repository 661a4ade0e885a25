import Derived.Test.YtpanfoafajepcaaGreatDoorGs
import Derived.Test.YtpanfoafajepcaaGreatDoorGq
namespace Go.AM
open Go Go.RowKit
def SF (μ:Mu)(h:H):Prop:=∀id,h.next≤id→μ id=none
theorem SF.step {NG:Nat}{μ μ':Mu}{h h':H}{w w':World}(f:SF μ h)(s:Step NG μ h w μ' h' w'):SF μ' h':=fun id hid=>by
 rw[s.out id hid];exact f id (kG s.next hid)
theorem SF.fresh {μ:Mu}{h:H}(f:SF μ h)(N:Nat):Fresh μ h.next N:=fun id h1 _=>f id h1
def aZ (isR:FuncId→Bool)(o:Oper):Option Bool:=
 match o.op with
 | .call c=>(match c.callee with
  | .value (.func g)=>some (isR g)
  | .builtin _=>some false
  |_=>none)
 |_=>some false
def gY (C:CF)(isR:FuncId→Bool)(φ:FuncId→List Value→H→Option (Value×H)):CF:=fun f args h=>bif isR f then φ f args h else C f args h
section
variable {P:Program}{NG nt:Nat}{C:CF}{isR:FuncId→Bool}{φ φ':FuncId→List Value→H→Option (Value×H)}
theorem nA {β:Type}{o:Oper}(hs:aZ isR o=some false)(fr:T Value)(h1 h:H)(K:Option Value→H→Option β):
 aop P (gY C isR φ) (aG NG fr h1) h o K=aop P C (aG NG fr h1) h o K:=by
 unfold aZ at hs;unfold aop;split at hs
 ·rename_i c hop;simp only[hop];split at hs
  ·rename_i g hcl;simp only[kE]at hs;have e:∀vs,callM P (gY C isR φ) (.func (.func g) ⟨[]⟩ ⟨[]⟩) vs h=callM P C (.func (.func g) ⟨[]⟩ ⟨[]⟩) vs h:=fun vs=>by
    simp only[callM,callV,gY,hs,cond_false]
   simp only[hcl];have ev:aG NG fr h1 (.func g)=some (.func (.func g) ⟨[]⟩ ⟨[]⟩):=rfl;rw[ev]
   cases cQ (aG NG fr h1) c.args.toList with
   |none=>rfl
   |some vs=>simp only[e]
  ·rename_i b hcl;simp only[hcl]
  ·cases hs
 ·rename_i hne
  cases hop:o.op with
  |call c=>exact absurd hop (hne c)
  |makeFunc f a b=>cases f<;>rfl
  |makeMap t r=>cases r<;>rfl
  |_=>rfl
structure RelOK (P:Program)(NG:Nat)(isR:FuncId→Bool)(dom:FuncId→List Value→H→Prop)(R:FuncId→List Value→H→Value→H→Prop):Prop where
 body:∀f,isR f=true→f<Y0∧∃fn c,P.funcs[f]?=some fn∧fn.body=some c∧fn.name≠ "runtime.NumGoroutine"
 call:∀f args h,isR f=true→dom f args h→∀(μ:Mu) (w:World) (cargs:List Value),RH NG μ h w→SF μ h→LR μ args cargs→
  Calls P f ⟨cargs⟩ w fun e w'=>∃v h',R f args h v h'∧fX NG μ h w v h' e w'
 mono:∀f args h v h',isR f=true→R f args h v h'→h.next≤h'.next
 tot:∀f args h,isR f=true→dom f args h→∃v h',R f args h v h'
theorem oK {dom:FuncId→List Value→H→Prop}{R:FuncId→List Value→H→Value→H→Prop}(ok:RelOK P NG isR dom R){o:Oper}{c:Call}{g:FuncId}(hop:o.op=.call c)(hcl:c.callee=.value (.func g))(hg:isR g=true)
 {ρ:Operand→Option Value} {vs:List Value} {h:H} (hvs:cQ ρ c.args.toList=some vs) (hd:dom g vs h) {μ:Mu} {a:Act} {w:World} (rh:RH NG μ h w) (sf:SF μ h) (ev:EvR μ ρ a)
 (ro:Option Nat) (next:Act→World→Prop) (Q:Exit→Act→World→Prop) (hn:∀v h' μ' w' cv,R g vs h v h'→Step NG μ h w μ' h' w'→VR μ' v cv→next (a.put o.dst cv) w'):o.wpIn (Fr ro) 0 P a w next Q:=by
 obtain⟨dst,op,type,pos,after,guard⟩:=o;obtain⟨callee,args,argTypes⟩:=c;simp only at hop hcl;subst hop;subst hcl;obtain⟨_,fn,b,hfn,hbd,hnm⟩:=ok.body g hg;have hef:a.eval (.func g)=.func (.func g) #[] #[]:=rfl;have e:((#[]:Array Value)++args.map a.eval++(#[]:Array Value))=⟨args.toList.map a.eval⟩:=by apply Array.ext';simp
 refine⟨fun _ _=>trivial,?_⟩;show Oper.uponIn (Fr ro) 0 P _ a next Q ((Oper.semAt ro a.eval _).run P w)
 rw[bV P (fS (c:=⟨.value (.func g),args,argTypes⟩) rfl hef hfn hbd hnm w) (fun d=>by simp) ro];simp only[Oper.uponIn,e];exact⟨fun h=>by simp[Fr,Fence.wide]at h,callsIn_Fr.2 ((ok.call g vs h hg hd μ w _ rh sf (fJ ev _ _ hvs)).mono fun e w' ⟨v,h',hR,cv,μ',he,hst,hv⟩=>by
  subst he;exact hn v h' μ' w' cv hR hst hv)⟩
def aX (P:Program)(C:CF)(NG:Nat)(isR:FuncId→Bool)(dom:FuncId→List Value→H→Prop)(R:FuncId→List Value→H→Value→H→Prop)(ops:Array Oper):List Oper→T Value→H→(T Value→H→Prop)→Prop
 |[],fr,h,K=>K fr h
 |o::rest,fr,h,K=>
  let run (fr:T Value):Prop:=
   match aZ isR o,o.op with
   |some true,.call ⟨.value (.func g),args,_⟩=>∃vs,cQ (aG NG fr h) args.toList=some vs∧dom g vs h∧∀v h',R g vs h v h'→aX P C NG isR dom R ops rest (bU fr o.dst (some v)) h' K
   |_,_=>∃rv h',aop P C (aG NG fr h) h o aQ=some (rv,h')∧aX P C NG isR dom R ops rest (bU fr o.dst rv) h' K
  match o.guard with
  |none=>run fr
  |some (j,want)=>match(ops[j]?).bind (·.dst)with
   |none=>False
   |some d=>match fr.get d with
    |some (.bool b)=>(match b==want with
     |true=>run (fr.set d (some (.bool b)))
     |false=>aX P C NG isR dom R ops rest (bU (fr.set d (some (.bool b))) o.dst (some undef)) h K)
    |some (.tuple _)=>aX P C NG isR dom R ops rest (bU fr o.dst (some undef)) h K
    |_=>False
theorem sQ (hzp:aK P=true)(hC:aM P NG C){dom:FuncId→List Value→H→Prop}{R:FuncId→List Value→H→Value→H→Prop}(ok:RelOK P NG isR dom R){ops:Array Oper}(hd:dJ nt ops=true):
 ∀(l:List Oper) (k:Nat) (fr:T Value) (h:H) (K:T Value→H→Prop),ops.toList.drop k=l→aX P C NG isR dom R ops l fr h K→
  ∀(μ:Mu) (a:Act) (w:World),RH NG μ h w→SF μ h→FR nt μ fr a→
   ∀(ro:Option Nat) (Q:Exit→Act→World→Prop),(∀a' w' fr' h',K fr' h'→lP NG nt μ h w a fr' h' a' w'→Q .normal a' w')→wpOpsIn (Fr ro) 0 P ops Q (List.range' k (ops.size-k)) a w:=by
 intro l
 induction l with
 |nil=>
  intro k fr h K hl hr μ a w rh _ f ro Q hQ;have hk:ops.size≤k:=by
   have:=congrArg List.length hl;simp at this;omega
  rw[show ops.size-k=0 by omega];exact hQ a w fr h hr ⟨μ,Step.refl rh,f,rfl⟩
 |cons o rest ih=>
  intro k fr h K hl hr μ a w rh sf f ro Q hQ;have hlt:k<ops.size:=by
   have:=congrArg List.length hl;simp at this;omega
  have ho:ops[k]?=some o:=by
   have:(ops.toList.drop k)[0]?=some o:=by rw[hl];rfl
   simpa using this
  have hrest:ops.toList.drop (k+1)=rest:=by
   have:(ops.toList.drop k).drop 1=rest:=by rw[hl];rfl
   rw[pT]at this;exact this
  have hdo:=vT hd ho;have hrange:List.range' k (ops.size-k)=k::List.range' (k+1) (ops.size-(k+1)):=by
   rw[show ops.size-k=(ops.size-(k+1))+1 by omega,List.range'_succ]
  rw[hrange,wpOpsIn_cons];unfold wpOpIn;simp only[ho];have behind:∀(fr1:T Value) (rv:Option Value) (h1:H),FR nt μ fr1 a→aX P C NG isR dom R ops rest (bU fr1 o.dst rv) h1 K→∀(μ1:Mu) (w1:World) (cv:Value),Step NG μ h w μ1 h1 w1→RV μ1 rv cv→
   wpOpsIn (Fr ro) 0 P ops Q (List.range' (k+1) (ops.size-(k+1))) (a.put o.dst cv) w1:=fun fr1 rv h1 f1 hr μ1 w1 cv hst hv=>
   ih (k+1) _ h1 K hrest hr μ1 _ w1 hst.rh (sf.step hst) ((f1.mono hst.le).put hdo hv) ro Q fun a' w' fr' h' hK ⟨μ2,hst2,f2,e2⟩=>hQ a' w' fr' h' hK ⟨μ2,hst.trans hst2,f2,e2.trans (dS _ _ _)⟩
  have run:∀(fr1:T Value),FR nt μ fr1 a→
   (match aZ isR o,o.op with
    |some true,.call ⟨.value (.func g),args,_⟩=>∃vs,cQ (aG NG fr1 h) args.toList=some vs∧dom g vs h∧∀v h',R g vs h v h'→aX P C NG isR dom R ops rest (bU fr1 o.dst (some v)) h' K
    |_,_=>∃rv h',aop P C (aG NG fr1 h) h o aQ=some (rv,h')∧aX P C NG isR dom R ops rest (bU fr1 o.dst rv) h' K)→
   o.wpIn (Fr ro) 0 P a w (fun a' w'=>wpOpsIn (Fr ro) 0 P ops Q (List.range' (k+1) (ops.size-(k+1))) a' w') Q:=by
   intro fr1 f1 hr;split at hr
   ·rename_i g args argTypes hrel hop;obtain⟨vs,hvs,hdom,hout⟩:=hr;have hg:isR g=true:=by simpa[aZ,hop]using hrel
    exact oK ok (c:=⟨.value (.func g),args,argTypes⟩) hop rfl hg hvs hdom rh sf (f1.ev rh) ro _ Q fun v h' μ' w' cv hR hst hv=>behind fr1 (some v) h' f1 (hout v h' hR) μ' w' cv hst hv
   ·obtain⟨rv,h1,hop,hrun⟩:=hr;obtain⟨rv',h',hk',hle,hs⟩:=eD hzp hC hop;simp only[aQ,kE,kK]at hk';obtain⟨rfl,rfl⟩:=hk';exact hs μ a w rh (sf.fresh _) (f1.ev rh) ro _ _ fun μ1 w1 cv hst hv=>behind fr1 rv' h' f1 hrun μ1 w1 cv hst hv
  simp only[aX]at hr;split at hr
  ·rename_i hg;simp only[show Region.wanted o (yielded ops a.tmps)=true by simp[Region.wanted,hg],if_true];exact run fr f hr
  ·rename_i j want hg;split at hr
   ·exact hr.elim
   ·rename_i d hdj;split at hr
    ·rename_i b hb;have hy:Region.wanted o (yielded ops a.tmps)=(b==want):=by
      simp only[Region.wanted,hg,f.yielded hdj hb];cases b<;>cases want<;>rfl
     split at hr
     ·rename_i hbw;simp only[hy,hbw,if_true];exact run _ (f.same hb) hr
     ·rename_i hbw;simp only[hy,hbw,pB,if_false];exact⟨fun _ _=>trivial,behind _ (some undef) h (f.same hb) hr μ w undef (Step.refl rh) (mW μ)⟩
    ·rename_i vs hb;simp only[show Region.wanted o (yielded ops a.tmps)=false by simp[Region.wanted,hg,f.yielded_none hdj hb],pB,if_false];exact⟨fun _ _=>trivial,behind fr (some undef) h f hr μ w undef (Step.refl rh) (mW μ)⟩
    ·exact hr.elim
theorem dH {f f1:T Value}(he:∀t,f.get t=f1.get t)(ops:Array Oper)(o:Oper):cA f ops o=cA f1 ops o:=by
 unfold cA;simp only[he]
theorem Row.stat {ops:Array Oper}{o:Oper}{f f':T Value}{h h':H}{r:Option Value}(hs:aZ isR o=some false)(x:Row P (gY C isR φ) NG ops o f h r f' h'):Row P C NG ops o f h r f' h':=by
 obtain⟨a,b|⟨b,c⟩⟩:=x
 ·exact⟨a,.inl b⟩
 ·exact⟨a,.inr ⟨b,by rw[←nA (φ:=φ) hs];exact c⟩⟩
theorem Row.det {ops:Array Oper}{o:Oper}{f f' f1 f1':T Value}{h h' h1':H}{r r1:Option Value}(x:Row P C NG ops o f h r f' h')(y:Row P C NG ops o f1 h r1 f1' h1')(he:∀t,f.get t=f1.get t):
 r=r1∧h'=h1'∧∀t,f'.get t=f1'.get t:=by
 obtain⟨a,b⟩:=x;obtain⟨a1,b1⟩:=y;have hw:=dH he ops o;have key:r=r1∧h'=h1':=by
  rcases b with⟨w,e1,e2⟩|⟨w,e⟩
  ·rcases b1 with⟨w1,g1,g2⟩|⟨w1,g⟩
   ·exact⟨e1.trans g1.symm,e2.trans g2.symm⟩
   ·rw[hw,w1]at w;simp at w
  ·rcases b1 with⟨w1,g1,g2⟩|⟨w1,g⟩
   ·rw[hw,w1]at w;simp at w
   ·rw[fU he,g]at e;simp only[kE,kK]at e;exact⟨e.1.symm,e.2.symm⟩
 refine⟨key.1,key.2,fun t=>?_⟩;rw[a t,a1 t,key.1,he t]
theorem dA {o:Oper}(h:aZ isR o=some true):∃c g,o.op=.call c∧c.callee=.value (.func g)∧isR g=true:=by
 unfold aZ at h;split at h
 ·rename_i c hop;split at h
  ·rename_i g hcl;exact⟨c,g,hop,hcl,by simpa using h⟩
  ·simp at h
  ·simp at h
 ·simp at h
theorem lO {o:Oper}{c:Call}{g:FuncId}(hop:o.op=.call c)(hcl:c.callee=.value (.func g))(hg:isR g=true)(hY:g<Y0)(fr:T Value)(h1 h:H):
 aop P (gY C isR φ) (aG NG fr h1) h o aQ=(cQ (aG NG fr h1) c.args.toList).bind fun vs=>(φ g vs h).bind fun(v,h')=>some (some v,h'):=by
 unfold aop;simp only[hop,hcl];have ev:aG NG fr h1 (.func g)=some (.func (.func g) ⟨[]⟩ ⟨[]⟩):=rfl;rw[ev]
 cases cQ (aG NG fr h1) c.args.toList with
 |none=>rfl
 |some vs=>
  have e:callM P (gY C isR φ) (.func (.func g) ⟨[]⟩ ⟨[]⟩) vs h=φ g vs h:=by
   have hb:Nat.blt g 1099511627776=true:=by rw[Nat.blt_eq];exact hY
   simp only[callM,callV,gY,hg,cond_true,hb,List.nil_append,List.append_nil]
  simp only[e];rfl
theorem Trace.agree {ops:Array Oper}{F F1:Nat→T Value}{Hh Hh1:Nat→H}{rv rv1:Nat→Option Value}(tr:Trace P (gY C isR φ) NG ops F Hh rv)(tr1:Trace P (gY C isR φ') NG ops F1 Hh1 rv1)
 (h0:Hh 0=Hh1 0) (f0:∀t,(F 0).get t=(F1 0).get t) {p:Nat} (hp:p≤ops.size) (hst:∀i o,i<p→ops[i]?=some o→aZ isR o=some false∨∃c g,o.op=.call c∧c.callee=.value (.func g)∧isR g=true∧g<Y0∧∀args x,φ g args x=φ' g args x):
 ∀i,i≤p→Hh i=Hh1 i∧(∀t,(F i).get t=(F1 i).get t)∧∀k,k<i→rv k=rv1 k:=by
 intro i
 induction i with
 |zero=>intro _;exact⟨h0,f0,fun k hk=>absurd hk (Nat.not_lt_zero _)⟩
 |succ i ih=>
  intro hi;obtain⟨e1,e2,e3⟩:=ih (by omega);obtain⟨o,ho,r⟩:=tr.row i (by omega);obtain⟨o1,ho1,r1⟩:=tr1.row i (by omega);obtain rfl:o1=o:=by rw[ho]at ho1;simpa using ho1.symm
  rw[←e1]at r1;obtain⟨g1,g2,g3⟩:rv i=rv1 i∧Hh (i+1)=Hh1 (i+1)∧∀t,(F (i+1)).get t=(F1 (i+1)).get t:=by
   rcases hst i o1 (by omega) ho with hs|⟨c,g,hop,hcl,hg,hY,he⟩
   ·exact(r.stat hs).det (r1.stat hs) e2
   ·refine(show Row P (gY C isR φ') NG ops o1 (F i) (Hh i) (rv i) (F (i+1)) (Hh (i+1))from⟨r.1,r.2.imp_right fun⟨a,b⟩=>⟨a,?_⟩⟩).det r1 e2;rw[lO hop hcl hg hY]at b⊢;rw[←b];congr 1;funext vs;rw[he]
  refine⟨g2,g3,fun k hk=>?_⟩;rcases Nat.lt_or_ge k i with h|h
  ·exact e3 k h
  ·have:k=i:=by omega
   subst this;exact g1
theorem aIe {ops:Array Oper}{f0 f1:T Value}{rv rv1:Nat→Option Value}{D:Nat→Bool}(h0:∀t,f0.get t=f1.get t)(h:∀i,D i=true→rv i=rv1 i):∀(m:Nat) (t:Tmp),env ops f0 rv D m t=env ops f1 rv1 D m t
 |0,t=>h0 t
 |m+1,t=>by
  simp only[env];rw[aIe h0 h m t];split
  ·rename_i hc;exact h m hc.1
  ·rfl
theorem Inv.switch {ops:Array Oper}{F F1:Nat→T Value}{Hh Hh1:Nat→H}{rv rv1:Nat→Option Value}{μ0 μ:Mu}{a0 a:Act}{w0 w:World}{D:Nat→Bool}{p:Nat}
 (inv:Inv P NG nt ops F Hh rv μ0 a0 w0 D a w μ p) (hp:p<ops.size)
 (ag:∀i,i≤p→Hh i=Hh1 i∧(∀t,(F i).get t=(F1 i).get t)∧∀k,k<i→rv k=rv1 k) (hD:∀i,D i=true→i<p) (hE:Eff P ops F p)
 (sf:∀id,(Hh p).next≤id→μ id=none) (sf0:∀id,(Hh 0).next≤id→μ0 id=none)
 (m0:(Hh 0).next≤(Hh p).next) (hmono1:∀i i',i≤i'→i'≤ops.size→(Hh1 i).next≤(Hh1 i').next):Inv P NG nt ops F1 Hh1 rv1 μ0 a0 w0 D a w μ p:=by
 have e0:=(ag 0 (pR _)).1;have ep:=(ag p (kF _)).1;have ran:∀{i o k},i≤p→Ran P ops F1 i o k→Ran P ops F i o k:=fun hi r=>⟨r.1,by rw[dH (ag _ hi).2.1];exact r.2.1,r.2.2⟩;have ran':∀{i o k},i≤p→Ran P ops F i o k→Ran P ops F1 i o k:=fun hi r=>⟨r.1,by rw[←dH (ag _ hi).2.1];exact r.2.1,r.2.2⟩;have hE1:Eff P ops F1 p:=by obtain⟨o,ho⟩:=hE;exact⟨o,ran' (kF _) ho⟩
 have mk:∀{i b},i<p→Mk P ops F1 Hh1 i b→Mk P ops F Hh i b:=fun hi m=>by
  obtain⟨⟨o,ho⟩,hb,hh⟩:=m;exact⟨⟨o,ran (pP hi) ho⟩,hb,by rw[(ag _ hi).1,(ag _ (pP hi)).1];exact hh⟩
 have hDp:D p=false:=by
  cases h:D p with
  |true=>exact absurd (hD p h) (Nat.lt_irrefl _)
  |false=>rfl
 exact{
  closed:=inv.closed
  dlt:=inv.dlt
  pn:=inv.pn
  pE:=fun i hi h=>by obtain⟨o,ho⟩:=h;exact inv.pE i hi ⟨o,ran (pP hi) ho⟩
  pNext:=.inr ⟨hE1,hDp⟩
  wfs:=fun i hi=>by rw[←(ag i hi).1];exact inv.wfs i hi
  rh:=by rw[←ep];exact inv.rh
  sz:=inv.sz
  regs:=fun t v h=>inv.regs t v (by
   rw[aIe (f1:=F1 0) (rv1:=rv1) (ag 0 (pR _)).2.1 (fun i hi=>(ag p (kF _)).2.2 i (hD i hi))];exact h)
  dfr:=inv.dfr
  mk1:=fun i b hm hd=>by
   have hi:=hD i hd;obtain⟨l,h1,h2,_⟩:=inv.mk1 i b (mk hi hm) hd;exact⟨l,by rw[←(ag i (pP hi)).1];exact h1,h2,fun h=>absurd h (Nat.not_le.2 hi)⟩
  mk2:=fun i b hm hd=>by
   rcases Nat.lt_or_ge i p with hi|hi
   ·obtain⟨h1,h2⟩:=inv.mk2 i b (mk hi hm) hd;exact⟨by rw[←(ag i (pP hi)).1];exact h1,fun h=>by rw[←ep,←(ag i (pP hi)).1];exact h2 h⟩
   ·have hlt:i<ops.size:=by obtain⟨o,ho⟩:=hm.1;exact(Array.getElem?_eq_some_iff.1 ho.1).1
    exact⟨sf _ (by rw[ep];exact hmono1 p i hi (pP hlt)),fun h=>absurd h (Nat.not_lt.2 hi)⟩
  fresh:=fun id h1 _ _=>sf id (by rw[ep];exact h1)
  le0:=inv.le0
  old0:=fun id h=>inv.old0 id (by rw[e0];exact h)
  out0:=fun id h=>by
   have:(Hh p).next≤id:=by rw[ep];exact kG (hmono1 p _ (pP hp) (kF _)) h
   rw[sf id this,sf0 id (kG m0 this)]
  size0:=inv.size0
  os0:=inv.os0
  tape0:=inv.tape0
  output0:=inv.output0
  frame0:=by rw[←e0];exact inv.frame0
  src0:=by rw[←e0,←ep];exact inv.src0
  unm0:=by rw[←e0,←ep];exact inv.unm0
  dead0:=by rw[←e0,←ep];exact inv.dead0
  ro0:=by rw[←e0,←ep];exact inv.ro0}
end
section
variable {P:Program}{NG nt:Nat}{C:CF}{isR:FuncId→Bool}{φ φ':FuncId→List Value→H→Option (Value×H)}
variable {dom:FuncId→List Value→H→Prop}{R:FuncId→List Value→H→Value→H→Prop}
def Val (isR:FuncId→Bool)(dom:FuncId→List Value→H→Prop)(R:FuncId→List Value→H→Value→H→Prop)(φ:FuncId→List Value→H→Option (Value×H)):Prop:=
 ∀f args h,isR f=true→(dom f args h→∃v h',φ f args h=some (v,h')∧R f args h v h')∧∀v h',φ f args h=some (v,h')→dom f args h∧R f args h v h'
theorem uO {o:Oper}(h:aZ isR o=some true):bC P o=some .effect:=by
 obtain⟨c,g,hop,hcl,_⟩:=dA h;simp[bC,hop,hcl]
structure aFi (isR:FuncId→Bool)(ops:Array Oper):Prop where
 kind:∀(i:Nat) (o:Oper),ops[i]?=some o→aZ isR o=some false∨aZ isR o=some true
 pred:∀(i j:Nat) (o:Oper),ops[i]?=some o→aZ isR o=some true→i<j→j<ops.size→lS ops j i
 diff:∀(i j:Nat) (o o':Oper) (c c':Call) (g g':FuncId),ops[i]?=some o→ops[j]?=some o'→aZ isR o=some true→aZ isR o'=some true→o.op=.call c→c.callee=.value (.func g)→o'.op=.call c'→c'.callee=.value (.func g')→i≠j→g≠g'
theorem Trace.next_monoR (hzp:aK P=true)(hC:aM P NG C)(ok:RelOK P NG isR dom R)(hφ:Val isR dom R φ)
 {ops:Array Oper} {F:Nat→T Value} {Hh:Nat→H} {rv:Nat→Option Value} (ra:aFi isR ops) (tr:Trace P (gY C isR φ) NG ops F Hh rv):∀i i',i≤i'→i'≤ops.size→(Hh i).next≤(Hh i').next:=by
 have one:∀i,i<ops.size→(Hh i).next≤(Hh (i+1)).next:=by
  intro i hi;obtain⟨o,ho,hrow⟩:=tr.row i hi;rcases ra.kind i o ho with hst|hrel
  rotate_left
  ·obtain⟨c,g,hop,hcl,hg⟩:=dA hrel;rcases hrow.2 with⟨_,_,hr⟩|⟨_,hr⟩
   ·rw[hr];exact kF _
   ·rw[lO hop hcl hg (ok.body g hg).1]at hr;obtain⟨vs,hvs,hr⟩:=bind_some hr;obtain⟨⟨v,h'⟩,hv,hr⟩:=bind_some hr;simp only[kE,kK]at hr;obtain⟨_,rfl⟩:=hr;exact ok.mono g vs _ v _ hg ((hφ g vs _ hg).2 v _ hv).2
  ·rcases(hrow.stat hst).2 with⟨_,_,hr⟩|⟨_,hr⟩
   ·rw[hr];exact kF _
   ·obtain⟨rv',h',hk,hs⟩:=eD hzp hC hr;simp only[aQ,kE,kK]at hk;obtain⟨rfl,rfl⟩:=hk;exact hs.1
 intro i i' h
 induction h with
 |refl=>intro _;exact kF _
 |step _ ih=>intro h;exact kG (ih (by omega)) (one _ (by omega))
theorem xW (hφ:Val isR dom R φ){g:FuncId}{vs:List Value}{h:H}{v:Value}{h':H}(hd:dom g vs h)(hR:R g vs h v h'):∃φ1,Val isR dom R φ1∧φ1 g vs h=some (v,h')∧∀f args x,f≠g→φ f args x=φ1 f args x:=by
 classical
 refine⟨fun f args x=>if f=g∧args=vs∧x=h then some (v,h')else φ f args x,fun f args x hf=>?_,by simp,fun f args x hne=>(kA fun e=>hne e.1).symm⟩
 by_cases e:f=g∧args=vs∧x=h
 ·obtain⟨rfl,rfl,rfl⟩:=e;simp only[and_self,if_true];refine⟨fun _=>⟨v,h',rfl,hR⟩,fun v1 h1 e=>?_⟩;simp only[kE,kK]at e;obtain⟨rfl,rfl⟩:=e;exact⟨hd,hR⟩
 ·simp only[e,if_false];exact hφ f args x hf
def SR (P:Program)(C:CF)(NG nt:Nat)(ops:Array Oper)(isR:FuncId→Bool)(dom:FuncId→List Value→H→Prop)(R:FuncId→List Value→H→Value→H→Prop)(fr:T Value)(h:H)(K:T Value→H→Prop)
 (μ0:Mu) (a0:Act) (w0:World) (D:Nat→Bool) (a:Act) (w:World):Prop:=
 ∃φ F Hh rv,Val isR dom R φ∧Trace P (gY C isR φ) NG ops F Hh rv∧F 0=fr∧Hh 0=h∧K (F ops.size) (Hh ops.size)∧∃μ p,Inv P NG nt ops F Hh rv μ0 a0 w0 D a w μ p
def AllR (P:Program)(C:CF)(NG:Nat)(ops:Array Oper)(isR:FuncId→Bool)(dom:FuncId→List Value→H→Prop)(R:FuncId→List Value→H→Value→H→Prop)(fr:T Value)(h:H)(K:T Value→H→Prop):Prop:=
 ∀φ,Val isR dom R φ→∃fr' h',runD P (gY C isR φ) NG ops (before ops) 0 ops.toList fr h [] [] (fun fr h=>some (fr,h))=some (fr',h')∧K fr' h'
theorem AllR.trace {ops:Array Oper}{fr:T Value}{h:H}{K:T Value→H→Prop}(hA:AllR P C NG ops isR dom R fr h K)(hφ:Val isR dom R φ):
 ∃F Hh rv,Trace P (gY C isR φ) NG ops F Hh rv∧F 0=fr∧Hh 0=h∧K (F ops.size) (Hh ops.size):=by
 obtain⟨fr',h',hr,hK⟩:=hA φ hφ;obtain⟨F,Hh,rv,_,hF,hH,hk,hrows,_,_,hc1,hc2,hc5⟩:=rD ops.toList 0 fr h [] [] rfl hr;rw[Nat.max_eq_right (pR _)]at hk;simp only[kE,kK]at hk;refine⟨F,Hh,rv,⟨fun i hi=>hrows i (pR _) hi,fun p i o o' v hlt=>hc1 p i o o' v (pR _) hlt,fun i p o o' v hlt=>hc2 i p o o' v (pR _) hlt,fun i o=>hc5 i o (pR _)⟩,hF,hH,?_⟩;rw[hk.1,hk.2];exact hK
theorem SR.step (hzp:aK P=true)(hC:aM P NG C)(ok:RelOK P NG isR dom R)
 {ops:Array Oper} (ra:aFi isR ops) (DF:bK P ops) (hd:dJ nt ops=true) {fr:T Value} {h:H} {K:T Value→H→Prop} (hA:AllR P C NG ops isR dom R fr h K)
 {μ0:Mu} {a0 a:Act} {w0 w:World} (rh0:RH NG μ0 h w0) (sf0:SF μ0 h) {D:Nat→Bool} (s:SR P C NG nt ops isR dom R fr h K μ0 a0 w0 D a w)
 {j:Nat} {o:Oper} (hj:D j=false) (ho:ops[j]?=some o) (hr:∀e∈o.after.toList,Region.binds .any e=true→D e.on=true)
 (ro:Option Nat) (Q:Exit→Act→World→Prop) (Kc:Act→World→Prop) (hK:∀a' w',SR P C NG nt ops isR dom R fr h K μ0 a0 w0 (add D j) a' w'→Kc a' w'):wpOpIn (Fr ro) 0 P ops Q j Kc a w:=by
 obtain⟨φ,F,Hh,rv,hφ,tr,rfl,rfl,hend,μ,p,inv⟩:=s;have hmono:=tr.next_monoR hzp hC ok hφ ra;have hjn:j<ops.size:=(Array.getElem?_eq_some_iff.1 ho).1;obtain⟨o',ho',hrow⟩:=tr.row j hjn;obtain rfl:o'=o:=by rw[ho]at ho';simpa using ho'.symm
 have aJ:Row P C NG ops o' (F j) (Hh j) (rv j) (F (j+1)) (Hh (j+1))→wpOpIn (Fr ro) 0 P ops Q j Kc a w:=fun hrow=>
  inv.stepR hzp hC tr DF hd hmono rh0.wf rh0.ng hj ho hrow hr ro Q Kc fun a' w' ⟨μ',p',inv'⟩=>hK a' w' ⟨φ,F,Hh,rv,hφ,tr,rfl,rfl,hend,μ',p',inv'⟩
 rcases ra.kind j o' ho with hst|hrel
 rotate_left
 ·obtain⟨gX,hrow⟩:=hrow;rcases hrow with hpass|⟨hw,hop⟩
  ·exact aJ ⟨gX,.inl hpass⟩
  ·obtain⟨c,g,hoc,hcl,hg⟩:=dA hrel;have ran:Ran P ops F j o' .effect:=⟨ho,hw,uO hrel⟩;have hE:Eff P ops F j:=⟨_,ran⟩;have hjp:j=p:=by
    rcases Nat.lt_or_ge j p with h|h
    ·have:=inv.pE j h hE;rw[hj]at this;simp at this
    ·rcases inv.pNext with h'|⟨⟨oq,hq⟩,hDp⟩
     ·omega
     ·by_cases e:j=p
      ·exact e
      ·have hp:=DF.chain p j oq _ hq.1 ho (by omega) hq.2.2 ran.2.2;have:=iG inv.closed ho hr hp;rw[hDp]at this;simp at this
   subst hjp;have hDlt:∀i,D i=true→i<j:=by
    intro i hi;rcases Nat.lt_trichotomy i j with h|h|h
    ·exact h
    ·subst h;rw[hj]at hi;simp at hi
    ·have:=eT inv.closed i j hi (ra.pred j i o' ho hrel h (inv.dlt i hi));rw[hj]at this;simp at this
   have hlook:=inv.look tr DF hj ho hr;rw[lO hoc hcl hg (ok.body g hg).1]at hop;obtain⟨vs,hvs,hop⟩:=bind_some hop;obtain⟨⟨v0,h0'⟩,hv0,hop⟩:=bind_some hop;have hdm:=((hφ g vs _ hg).2 _ _ hv0).1;have hvs':cQ (uJ NG (env ops (F 0) rv D ops.size)) c.args.toList=some vs:=by
    rw[←hvs];refine(eS fun x hx=>hlook (Hh j) x ?_).symm;rw[hoc];show x∈c.operands;simp only[Call.operands,Array.mem_append];exact .inr (by simpa using hx)
   have m0:(Hh 0).next≤(Hh j).next:=hmono 0 j (pR _) (pP hjn);have sf:SF μ (Hh j):=by
    intro id hid;rcases Nat.lt_or_ge id (Hh ops.size).next with hlt|hge
    ·refine inv.fresh id hid hlt fun i b hmk hD e=>?_;have h1:=hDlt i hD;have h2:=hmk.next;have h3:=hmono (i+1) j h1 (pP hjn);omega
    ·rw[inv.out0 id hge];exact sf0 id (kG m0 hid)
   unfold wpOpIn;simp only[ho];rw[inv.wanted tr DF hj ho hr hw];simp only[if_true];refine oK ok hoc hcl hg hvs' hdm inv.rh sf inv.ev ro _ Q fun v h' μ' w' cv hR st hv=>?_;obtain⟨φ1,hφ1,e1,e0⟩:=xW hφ hdm hR;obtain⟨F1,Hh1,rv1,tr1,f1,g1,hend1⟩:=hA.trace hφ1;have hmono1:=tr1.next_monoR hzp hC ok hφ1 ra;have ag:=tr.agree tr1 g1.symm (fun t=>by rw[f1]) (pP hjn) fun i oi hi hoi=>by
    rcases ra.kind i oi hoi with h|h
    ·exact .inl h
    ·obtain⟨ci,gi,hci,hcli,hgi⟩:=dA h;exact .inr ⟨ci,gi,hci,hcli,hgi,(ok.body gi hgi).1,fun args x=>e0 gi args x (ra.diff i j oi o' ci c gi g hoi ho h hrel hci hcli hoc hcl (Nat.ne_of_lt hi))⟩
   have inv1:=inv.switch hjn ag hDlt hE sf sf0 m0 hmono1;obtain⟨ej,fj,_⟩:=ag j (kF _);have hE1:Eff P ops F1 j:=⟨o',ho,by rw[←dH fj];exact hw,ran.2.2⟩;obtain⟨o2,ho2,hrow2⟩:=tr1.row j hjn;obtain rfl:o2=o':=by rw[ho]at ho2;simpa using ho2.symm
   have hout:rv1 j=some v∧Hh1 (j+1)=h':=by
    rcases hrow2.2 with⟨hw2,_⟩|⟨_,hop2⟩
    ·rw[←dH fj,hw]at hw2;simp at hw2
    ·rw[lO hoc hcl hg (ok.body g hg).1,←fU fj,←ej,hvs]at hop2;simp only[pD,e1,kE,kK]at hop2;exact⟨hop2.1.symm,hop2.2.symm⟩
   rw[←hout.2,ej]at st;obtain⟨p',inv2⟩:=inv1.effect tr1 DF hd hj ho hr hE1 hmono1 (by rw[g1];exact rh0.wf) st (by rw[hout.1];exact hv);exact hK _ _ ⟨φ1,F1,Hh1,rv1,hφ1,tr1,f1,g1,hend1,μ',p',inv2⟩
 ·exact aJ (hrow.stat hst)
theorem aBz {ops:Array Oper}(DF:bK P ops)(ro:Option Nat)(Q:Exit→Act→World→Prop){S:(Nat→Bool)→Act→World→Prop}
 (hstep:∀D a w j o,S D a w→D j=false→ops[j]?=some o→(∀e∈o.after.toList,Region.binds .any e=true→D e.on=true)→
  ∀Kc:Act→World→Prop,(∀a' w',S (add D j) a' w'→Kc a' w')→wpOpIn (Fr ro) 0 P ops Q j Kc a w)
 (hQ:∀a' w',S (fun i=>decide (i<ops.size)) a' w'→Q .normal a' w'):
 ∀(fuel:Nat) (listed:Array Bool) (a:Act) (w:World),listed.size=ops.size→((List.range ops.size).filter fun i=>!listed.getD i false).length≤fuel→
  S (fun i=>listed.getD i false) a w→wpAnyIn (Fr ro) 0 P .any ops Q fuel listed a w:=by
 have getDD:∀(listed:Array Bool) (i:Nat),listed.size=ops.size→i<ops.size→listed.getD i true=listed.getD i false:=by
  intro listed i hs hi;simp[pG,pI (show i<listed.size by omega)]
 have done:∀(listed:Array Bool) (a:Act) (w:World),listed.size=ops.size→S (fun i=>listed.getD i false) a w→Region.ready .any ops listed=[]→Q .normal a w:=by
  intro listed a w hs inv hr;have all:∀i,i<ops.size→listed.getD i false=true:=by
   intro i
   induction i using Nat.strongRecOn with
   |_ i ih=>
    intro hi
    cases hl:listed.getD i false with
    |true=>rfl
    |false=>
     exfalso;have hmem:i∈Region.ready .any ops listed:=by
      rw[mem_ready];refine⟨by rw[getDD listed i hs hi];exact hl,ops[i],by simp[hi],fun e he hb=>?_⟩;have hlt:=DF.edge i ops[i] (by simp[hi]) e (by simpa using he) hb;exact ih e.on hlt (by omega)
     rw[hr]at hmem;simp at hmem
  have hD:(fun i=>listed.getD i false)=fun i=>decide (i<ops.size):=by
   funext i;by_cases hi:i<ops.size
   ·simp only[all i hi,hi,decide_true]
   ·rw[pG,Array.getElem?_eq_none (by omega)];simp[hi]
  rw[hD]at inv;exact hQ a w inv
 intro fuel
 induction fuel with
 |zero=>
  intro listed a w hs hlen inv;have hr:Region.ready .any ops listed=[]:=by
   apply List.eq_nil_iff_forall_not_mem.2;intro i hi;rw[mem_ready]at hi;obtain⟨h1,o,ho,_⟩:=hi;have hlt:i<ops.size:=(Array.getElem?_eq_some_iff.1 ho).1;have:i∈(List.range ops.size).filter fun i=>!listed.getD i false:=by
    rw[List.mem_filter];exact⟨List.mem_range.2 hlt,by rw[←getDD listed i hs hlt,h1];rfl⟩
   rw[List.length_eq_zero_iff.1 (Nat.le_zero.1 hlen)]at this;simp at this
  exact⟨hr,done listed a w hs inv hr⟩
 |succ fuel ih=>
  intro listed a w hs hlen inv;refine⟨done listed a w hs inv,fun j hj=>?_⟩;rw[mem_ready]at hj;obtain⟨h1,o,ho,hedges⟩:=hj;have hlt:j<ops.size:=(Array.getElem?_eq_some_iff.1 ho).1;have hDj:listed.getD j false=false:=by rw[←getDD listed j hs hlt];exact h1
  refine hstep _ a w j o inv hDj ho (fun e he hb=>hedges e (by simpa using he) hb) _ fun a' w' inv'=>?_;have hadd:add (fun i=>listed.getD i false) j=fun i=>(listed.setIfInBounds j true).getD i false:=by
   funext i;unfold add;by_cases e:i=j
   ·subst e;rw[kB rfl,pG,Array.getElem?_setIfInBounds,kB rfl,kB (by omega)];rfl
   ·rw[kA e];show listed.getD i false=_;rw[pG,pG,Array.getElem?_setIfInBounds_ne (Ne.symm e)]
  rw[hadd]at inv';refine ih _ a' w' (by simpa using hs) ?_ inv';have hsub:((List.range ops.size).filter fun i=>!(listed.setIfInBounds j true).getD i false)=((List.range ops.size).filter fun i=>!listed.getD i false).filter fun i=>decide (i≠j):=by
   rw[List.filter_filter];apply List.filter_congr;intro i _;have:=congrFun hadd i;rw[←this];unfold add;by_cases e:i=j
   ·subst e;simp
   ·simp[e]
  rw[hsub];have hmem:j∈(List.range ops.size).filter fun i=>!listed.getD i false:=by
   rw[List.mem_filter];exact⟨List.mem_range.2 hlt,by rw[hDj];rfl⟩
  have hlt2:(((List.range ops.size).filter fun i=>!listed.getD i false).filter fun i=>decide (i≠j)).length<((List.range ops.size).filter fun i=>!listed.getD i false).length:=by
   rw[List.length_filter_lt_length_iff_exists];exact⟨j,hmem,by simp⟩
  omega
theorem wI (hzp:aK P=true)(hC:aM P NG C)(ok:RelOK P NG isR dom R)
 {ops:Array Oper} (ra:aFi isR ops) (hd:dJ nt ops=true) (hdr:fQ P ops (before ops)=true) {fr:T Value} {h:H} {K:T Value→H→Prop} (hA:AllR P C NG ops isR dom R fr h K)
 {μ:Mu} {a:Act} {w:World} (rh:RH NG μ h w) (sf:SF μ h) (f:FR nt μ fr a) (ro:Option Nat) (Q:Exit→Act→World→Prop) (hQ:∀a' w' fr' h',K fr' h'→lP NG nt μ h w a fr' h' a' w'→Q .normal a' w'):
 wpAnyIn (Fr ro) 0 P .any ops Q ops.size (Array.replicate ops.size false) a {w with drawn:=w.drawn+1}:=by
 have DF:=rN hdr;obtain⟨φ,hφ⟩:∃φ,Val isR dom R φ:=by
  classical
  refine⟨fun g vs x=>if e:isR g=true∧dom g vs x then some ((ok.tot g vs x e.1 e.2).choose,(ok.tot g vs x e.1 e.2).choose_spec.choose)else none,fun g vs x hg=>⟨fun hd=>?_,fun v h' e=>?_⟩⟩
  ·exact⟨_,_,dif_pos ⟨hg,hd⟩,(ok.tot g vs x hg hd).choose_spec.choose_spec⟩
  ·dsimp only at e
   by_cases hd:dom g vs x
   ·rw[dif_pos ⟨hg,hd⟩]at e;simp only[kE,kK]at e;obtain⟨rfl,rfl⟩:=e;exact⟨hd,(ok.tot g vs x hg hd).choose_spec.choose_spec⟩
   ·rw[dif_neg (fun e=>hd e.2)]at e;simp at e
 obtain⟨F,Hh,rv,tr,hF,hH,hK⟩:=hA.trace hφ;have hmono:=tr.next_monoR hzp hC ok hφ ra;refine aBz (S:=SR P C NG nt ops isR dom R fr h K μ a w) DF ro Q (fun D a' w' j o s hj ho hr Kc hK=>s.step hzp hC ok ra DF hd hA rh sf hj ho hr ro Q Kc hK) (fun a' w' s=>?_) ops.size _ a _ (by simp) ?_ ?_
 ·obtain⟨φ,F,Hh,rv,hφ,tr,rfl,rfl,hK,μ',p,inv'⟩:=s;have hmono:=tr.next_monoR hzp hC ok hφ ra;have hp:p=ops.size:=by
   rcases inv'.pNext with h|⟨⟨o,ho⟩,h2⟩
   ·exact h
   ·have:=ho.lt;simp at h2;omega
  subst hp;refine hQ a' w' _ _ hK ⟨μ',?_,?_,inv'.dfr⟩
  ·exact{
    wf:=rh.wf
    le:=inv'.le0
    old:=inv'.old0
    out:=inv'.out0
    next:=hmono 0 _ (pR _) (kF _)
    rh:=inv'.rh
    size:=inv'.size0
    os:=inv'.os0
    tape:=inv'.tape0
    output:=inv'.output0
    frame:=inv'.frame0
    src:=inv'.src0
    unm:=inv'.unm0
    dead:=inv'.dead0
    ro:=inv'.ro0}
  ·refine⟨inv'.sz,fun t v hv=>inv'.regs t v ?_⟩;rw[←tr.env_at t ops.size (kF _)]at hv;rw[←hv];exact gJ t ops.size fun i hi _=>by simp[hi]
 ·exact kG (List.length_filter_le _ _) (by simp)
 ·have e:(fun i=>(Array.replicate ops.size false).getD i false)=fun _=>false:=by
   funext i;rw[pG];by_cases hi:i<ops.size
   ·simp[hi]
   ·rw[Array.getElem?_eq_none (by simpa using hi)];rfl
  rw[e];subst hF;subst hH;obtain⟨p,inv⟩:=Inv.start (a0:=a) (rv:=rv) tr DF hmono rh (sf.fresh _) f (w:={w with drawn:=w.drawn+1}) rfl rfl rfl rfl;exact⟨φ,F,Hh,rv,hφ,tr,rfl,rfl,hK,μ,p,inv⟩
end
end Go.AM

namespace Go.AM
open Go Go.RowKit
def aAt (P:Program)(C:CF)(NG nt:Nat)(ops:Array Oper)(draw:Bool)(fr:T Value)(h:H):Option OL:=
 match gN P C NG nt ops draw fr h with
 |some l=>some l
 |none=>bif dJ nt ops then
  bif draw then(bif fQ P ops (before ops)then runD P C NG ops (before ops) 0 ops.toList fr h [] [] fun fr h=>some [(.normal,fr,h)]else none)
  else runOps P C NG ops ops.toList fr h fun fr h=>some [(.normal,fr,h)]
  else none
def aCc (o:Oper):Option FuncId:=match o.op with
 | .call c=>(match c.callee with| .value (.func g)=>some g|_=>none)
 |_=>none
def sU (isR:FuncId→Bool)(ops:Array Oper)(bef:List Nat)(_q:Nat):Bool:=
 ops.toList.zipIdx.all fun(o,i)=>match aZ isR o with
  |some false=>true
  |some true=>ops.toList.zipIdx.all fun(o',j)=>Nat.ble j i&&Nat.beq j i||(Nat.ble j i||Nat.testBit (bef.getD j 0) i)&&(match aZ isR o' with|some true=>!(aCc o==aCc o')|_=>true)
  |none=>false
theorem uP {isR:FuncId→Bool}{ops:Array Oper}{q:Nat}(h:sU isR ops (before ops) q=true):aFi isR ops:=by
 have mem:∀i o,ops[i]?=some o→(o,i)∈ops.toList.zipIdx:=fun i o ho=>List.mem_zipIdx_iff_getElem?.2 (by simpa using ho);have key:=fun i o ho=>List.all_eq_true.1 h (o,i) (mem i o ho);have two:∀i o,ops[i]?=some o→aZ isR o=some true→∀j o',ops[j]?=some o'→j≠i→(j≤i∨lS ops j i)∧(aZ isR o'=some true→aCc o≠aCc o'):=by
  intro i o ho hr j o' ho' hne;have k:=key i o ho;simp only[hr]at k;have k:=List.all_eq_true.1 k (o',j) (mem j o' ho');simp only[Bool.or_eq_true,kO]at k;rcases k with⟨_,k⟩|⟨k1,k2⟩
  ·exact absurd (beq_iff.1 k) hne
  ·refine⟨k1.imp ble_iff.1 id,fun hr'=>?_⟩;simp only[hr']at k2;intro e;rw[e]at k2;simp at k2
 refine⟨fun i o ho=>?_,fun i j o ho hr hlt hj=>?_,fun i j o o' c c' g g' ho ho' hr hr' hc hcl hc' hcl' hne e=>?_⟩
 ·have k:=key i o ho
  cases hr:aZ isR o with
  |none=>simp only[hr]at k;cases k
  |some b=>cases b<;>simp
 ·rcases(two i o ho hr j ops[j] (by simp[hj]) (by omega)).1 with h1|h1
  ·omega
  ·exact h1
 ·subst e;exact(two i o ho hr j o' ho' (Ne.symm hne)).2 hr' (by simp[aCc,hc,hcl,hc',hcl'])
def uG (P:Program)(C:CF)(NG nt:Nat)(isR:FuncId→Bool)(dom:FuncId→List Value→H→Prop)(R:FuncId→List Value→H→Value→H→Prop)(ops:Array Oper)(draw:Bool)(fr:T Value)(h:H)(K:T Value→H→Prop):Prop:=
 (∃l,aAt P C NG nt ops draw fr h=some l∧∀o∈l,K o.2.1 o.2.2)∨
 (draw=false∧dJ nt ops=true∧aX P C NG isR dom R ops ops.toList fr h K)∨
 (draw=true∧dJ nt ops=true∧fQ P ops (before ops)=true∧(∃q,sU isR ops (before ops) q=true)∧AllR P C NG ops isR dom R fr h K)
abbrev KW:=Ex→T Value→H→Prop
def bGh (n:T Value→H→Prop)(K:KW):KW:=fun ex fr h=>match ex with
 | .normal=>n fr h
 | .exit j=>K (.exit j) fr h
 | .ret=>K .ret fr h
def vX (id:Nat)(K:KW):KW:=fun ex fr h=>match ex with
 | .normal=>K .normal fr h
 | .exit j=>bif Nat.beq j id then K .normal fr h else K (.exit j) fr h
 | .ret=>K .ret fr h
def aCg (f:T Value→H→KW→Prop):Nat→T Value→H→KW→Prop
 |0,_,_,_=>False
 |n+1,fr,h,K=>f fr h (bGh (fun fr h=>aCg f n fr h K) K)
def mM (P:Program)(C:CF)(isR:FuncId→Bool)(dom:FuncId→List Value→H→Prop)(R:FuncId→List Value→H→Value→H→Prop)(L NG nt:Nat)(RR:List Tmp):Code→List Tmp→List (Nat×List Tmp)→T Value→H→KW→Prop
 | .skip,out,_,fr,h,K=>K .normal (bQ fr out) h
 | .label _,out,_,fr,h,K=>K .normal (bQ fr out) h
 | .region _ ops draw,out,_,fr,h,K=>uG P C NG nt isR dom R ops draw fr h fun fr h=>K .normal (bQ fr out) h
 | .seq a b,out,env,fr,h,K=>mM P C isR dom R L NG nt RR a (live RR b out env) env fr h (bGh (fun fr h=>mM P C isR dom R L NG nt RR b out env fr h K) K)
 | .cond c a b,out,env,fr,h,K=>∃t,aG NG fr h c=some (.bool t)∧(match t with|true=>mM P C isR dom R L NG nt RR a out env fr h K|false=>mM P C isR dom R L NG nt RR b out env fr h K)
 | .block id b,out,env,fr,h,K=>mM P C isR dom R L NG nt RR b out ((id,out)::env) fr h (vX id K)
 | .loop b,_,env,fr,h,K=>aCg (fun fr h K=>mM P C isR dom R L NG nt RR b (live RR b [] env) env fr h K) L (bQ fr (live RR b [] env)) h K
 | .scope b,out,env,fr,h,K=>mM P C isR dom R L NG nt RR b out env fr h K
 | .exit id,_,env,fr,h,K=>K (.exit id) (bQ fr (aCh id env)) h
 | .ret,_,_,fr,h,K=>K .ret (bQ fr RR) h
 |_,_,_,_,_,_=>False
section
variable {P:Program}{NG nt:Nat}{C:CF}{isR:FuncId→Bool}{dom:FuncId→List Value→H→Prop}{R:FuncId→List Value→H→Value→H→Prop}
def wA (P:Program)(NG nt:Nat)(c:Code)(fr:T Value)(h:H)(K:KW):Prop:=
 ∀(μ:Mu) (a:Act) (w:World),RH NG μ h w→SF μ h→FR nt μ fr a→c.wpIn (Fr none) 0 P (fun e a' w'=>∃ex fr' h',K ex fr' h'∧ExR ex e∧StepTo NG nt μ h w a fr' h' a' w') a w
theorem aBd (hzp:aK P=true)(hm:P.follows .mixedOrders=true)(hC:aM P NG C){id:Nat}{ops:Array Oper}{draw:Bool}{fr:T Value}{h:H}{l:OL}(hr:aAt P C NG nt ops draw fr h=some l):
 wA P NG nt (.region id ops draw) fr h (fun ex fr' h'=>(ex,fr',h')∈l):=by
 unfold aAt at hr;split at hr
 ·rename_i l0 hl;simp only[kE]at hr;subst hr;intro μ a w rh hf f;obtain⟨N,hN⟩:∃N,∀o∈l0,o.2.2.next≤N:=by
   clear hl
   induction l0 with
   |nil=>exact⟨0,fun o ho=>by simp at ho⟩
   |cons x r ih=>
    obtain⟨N,hN⟩:=ih;refine⟨max N x.2.2.next,fun o ho=>?_⟩;rcases List.mem_cons.1 ho with rfl|ho
    ·exact Nat.le_max_right _ _
    ·exact kG (hN o ho) (Nat.le_max_left _ _)
  exact wpIn_mono ((wU (id:=id) hzp hC hl hN).2 μ a w rh (hf.fresh N) f) fun e a' w' ⟨o,ho,he,st⟩=>⟨o.1,o.2.1,o.2.2,ho,he,st⟩
 ·obtain⟨hd,hr⟩:=aA hr
  cases draw with
  |false=>
   simp only[cond_false]at hr;obtain⟨fr1,h1,hk,hle,hs⟩:=eF hzp hC hd ops.toList 0 fr h rfl hr;simp only[kE]at hk;subst hk;intro μ a w rh hf f;refine wpIn_region ?_;have:=hs μ a w rh (hf.fresh _) f none (fun e a' w'=>∃ex fr' h',(ex,fr',h')∈[((.normal:Ex),fr1,h1)]∧ExR ex e∧StepTo NG nt μ h w a fr' h' a' w') fun a' w' ⟨μ',st,f',d⟩=>⟨.normal,fr1,h1,List.mem_singleton.2 rfl,trivial,μ',st,f',by rw[d];exact Marks.refl _ _ _⟩;rw[Nat.sub_zero,←List.range_eq_range']at this;exact this
  |true=>
   simp only[cond_true]at hr;obtain⟨hdr,hr⟩:=aA hr;obtain⟨fr1,h1,hk,hle,hs⟩:=mB hzp hC hd hdr hr;simp only[kE]at hk;subst hk;intro μ a w rh hf f;refine wpIn_region_any hm ?_;exact hs μ a w rh (hf.fresh _) f none _ fun a' w' ⟨μ',st,f',d⟩=>⟨.normal,fr1,h1,List.mem_singleton.2 rfl,trivial,μ',st,f',by rw[d];exact Marks.refl _ _ _⟩
theorem StepTo.keep2 {μ:Mu}{h:H}{w:World}{a:Act}{fr':T Value}{h':H}{a':Act}{w':World}(s:StepTo NG nt μ h w a fr' h' a' w')(l:List Tmp):StepTo NG nt μ h w a (bQ fr' l) h' a' w':=by
 obtain⟨μ',st,f,m⟩:=s;exact⟨μ',st,f.keep,m⟩
theorem oM {f:T Value→H→KW→Prop}{b:Code}(hb:∀fr h K,f fr h K→wA P NG nt b fr h K):
 ∀(n:Nat) (fr:T Value) (h:H) (K:KW),aCg f n fr h K→∀(μ:Mu) (a:Act) (w:World),RH NG μ h w→SF μ h→FR nt μ fr a→
  Code.roundsIn (Fr none) 0 P b (fun e a' w'=>∃ex fr' h',K ex fr' h'∧ExR ex e∧StepTo NG nt μ h w a fr' h' a' w') n a w
 |0,_,_,_,h=>h.elim
 |n+1,fr,h,K,hr=>by
  intro μ a w rh hf f0;rw[roundsIn_succ];refine wpIn_mono (hb _ _ _ hr μ a w rh hf f0) fun e a1 w1 ⟨ex,fr1,h1,hk,he,μ1,st,f1,d1⟩=>?_
  cases e with
  |normal=>
   have:=he.nor;subst this;exact lJ (fun e a2 w2 ⟨ex,fr2,h2,hK,hex,hst⟩=>⟨ex,fr2,h2,hK,hex,hst.trans st d1⟩) n a1 w1 (oM hb n fr1 h1 K hk μ1 a1 w1 st.rh (hf.step st) f1)
  |_=>
   have hne:=he.not (by simp)
   cases ex with
   |normal=>exact absurd rfl hne
   |exit j=>exact⟨_,fr1,h1,hk,he,μ1,st,f1,d1⟩
   |ret=>exact⟨_,fr1,h1,hk,he,μ1,st,f1,d1⟩
theorem rM {f:Value→H→Option (Ex×T Value×H)}:∀{l:List (Value×H)} {ol:OL},mN f l=some ol→∀x∈ol,∃o∈l,f o.1 o.2=some x
 |[],ol,h,x,hx=>by simp only[mN,kE]at h;subst h;simp at hx
 |(v,h0)::r,ol,h,x,hx=>by
  simp only[mN]at h;split at h
  ·rename_i y l hy hl;simp only[kE]at h;subst h;rcases List.mem_cons.1 hx with rfl|hx
   ·exact⟨_,List.mem_cons_self,hy⟩
   ·obtain⟨o,ho,e⟩:=rM hl x hx;exact⟨o,List.mem_cons_of_mem _ ho,e⟩
  ·simp at h
theorem aEc (hzp:aK P=true)(hC:aM P NG C){ops:Array Oper}{draw:Bool}{fr:T Value}{h:H}{l:OL}(hr:gN P C NG nt ops draw fr h=some l):∀o∈l,o.1=.normal:=by
 unfold gN at hr;obtain⟨hc,hr2⟩:=aA hr;simp only[kO]at hc;split at hr2
 ·rename_i dst x ty pos after rest hops;split at hr2
  ·split at hr2
   ·intro o ho;obtain⟨y,_,hy⟩:=rM hr2 o ho;obtain⟨_,_,hk,_⟩:=eF hzp hC hc.1 rest 1 _ _ (by rw[hops];rfl) hy;simp only[kE]at hk;rw[←hk]
   ·simp at hr2
  ·simp at hr2
 ·simp at hr2
theorem wK (hzp:aK P=true)(hm:P.follows .mixedOrders=true)(hC:aM P NG C)(ok:RelOK P NG isR dom R){id:Nat}{ops:Array Oper}{draw:Bool}{fr:T Value}{h:H}{K:T Value→H→Prop}
 (hr:uG P C NG nt isR dom R ops draw fr h K):wA P NG nt (.region id ops draw) fr h (fun ex fr' h'=>ex=.normal∧K fr' h'):=by
 intro μ a w rh hf f;rcases hr with⟨l,hl,hK⟩|⟨rfl,hd,hr⟩|⟨rfl,hd,hdr,⟨q,hq⟩,hA⟩
 ·refine wpIn_mono (aBd hzp hm hC hl μ a w rh hf f) fun e a' w' ⟨ex,fr',h',hmem,he,st⟩=>?_;have hn:ex=.normal:=by
   have:∀o∈l,o.1=.normal:=by
    unfold aAt at hl;split at hl
    ·rename_i l0 h0;simp only[kE]at hl;subst hl;exact aEc hzp hC h0
    ·obtain⟨_,hl⟩:=aA hl
     cases draw with
     |false=>
      simp only[cond_false]at hl;obtain⟨_,_,hk,_⟩:=eF hzp hC (ops:=ops) ‹_› ops.toList 0 fr h rfl hl;simp only[kE]at hk;subst hk;intro o ho;rw[List.mem_singleton.1 ho]
     |true=>
      simp only[cond_true]at hl;obtain⟨hdr,hl⟩:=aA hl;obtain⟨_,_,hk,_⟩:=mB (nt:=nt) hzp hC ‹_› hdr hl;simp only[kE]at hk;subst hk;intro o ho;rw[List.mem_singleton.1 ho]
   exact this _ hmem
  exact⟨.normal,fr',h',⟨rfl,hK _ hmem⟩,hn▸he,st⟩
 ·refine wpIn_region ?_;have:=sQ hzp hC ok hd ops.toList 0 fr h K rfl hr μ a w rh hf f none (fun e a' w'=>∃ex fr' h',(ex=.normal∧K fr' h')∧ExR ex e∧StepTo NG nt μ h w a fr' h' a' w') fun a' w' fr' h' hK ⟨μ',st,f',d⟩=>⟨.normal,fr',h',⟨rfl,hK⟩,trivial,μ',st,f',by rw[d];exact Marks.refl _ _ _⟩;rw[Nat.sub_zero,←List.range_eq_range']at this;exact this
 ·refine wpIn_region_any hm ?_;exact wI hzp hC ok (uP hq) hd hdr hA rh hf f none _ fun a' w' fr' h' hK ⟨μ',st,f',d⟩=>⟨.normal,fr',h',⟨rfl,hK⟩,trivial,μ',st,f',by rw[d];exact Marks.refl _ _ _⟩
theorem wW (hzp:aK P=true)(hm:P.follows .mixedOrders=true)(hC:aM P NG C)(ok:RelOK P NG isR dom R){L:Nat}{RR:List Tmp}:
 ∀(c:Code) (out:List Tmp) (env:List (Nat×List Tmp)) (fr:T Value) (h:H) (K:KW),mM P C isR dom R L NG nt RR c out env fr h K→wA P NG nt c fr h K:=by
 intro c
 induction c with
 |skip=>intro out env fr h K hr μ a w rh _ f;exact wpIn_skip ⟨_,_,_,hr,trivial,μ,Step.refl rh,f.keep,Marks.refl _ _ _⟩
 |label l=>intro out env fr h K hr μ a w rh _ f;exact wpIn_label ⟨_,_,_,hr,trivial,μ,Step.refl rh,f.keep,Marks.refl _ _ _⟩
 |exit id=>intro out env fr h K hr μ a w rh _ f;exact wpIn_exit ⟨_,_,_,hr,rfl,μ,Step.refl rh,f.keep,Marks.refl _ _ _⟩
 |ret=>intro out env fr h K hr μ a w rh _ f;exact wpIn_ret ⟨_,_,_,hr,trivial,μ,Step.refl rh,f.keep,Marks.refl _ _ _⟩
 |region id ops draw=>
  intro out env fr h K hr μ a w rh hf f;exact wpIn_mono (wK hzp hm hC ok hr μ a w rh hf f) fun e a' w' ⟨ex,fr',h',⟨hn,hK⟩,he,st⟩=>⟨ex,bQ fr' out,h',hn▸hK,he,st.keep2 _⟩
 |seq x y ihx ihy=>
  intro out env fr h K hr μ a w rh hf f;refine wpIn_seq (wpIn_mono (ihx _ _ _ _ _ hr μ a w rh hf f) fun e a1 w1 ⟨ex,fr1,h1,hk,he,μ1,st,f1,d1⟩=>?_)
  cases e with
  |normal=>
   have:=he.nor;subst this;exact wpIn_mono (ihy _ _ _ _ _ hk μ1 a1 w1 st.rh (hf.step st) f1) fun e a2 w2 ⟨ex,fr2,h2,hK,hex,hst⟩=>⟨ex,fr2,h2,hK,hex,hst.trans st d1⟩
  |_=>
   have hne:=he.not (by simp)
   cases ex with
   |normal=>exact absurd rfl hne
   |exit j=>exact⟨_,fr1,h1,hk,he,μ1,st,f1,d1⟩
   |ret=>exact⟨_,fr1,h1,hk,he,μ1,st,f1,d1⟩
 |cond c x y ihx ihy=>
  intro out env fr h K hr μ a w rh hf f;obtain⟨t,hc,hr⟩:=hr
  cases t with
  |true=>exact wpIn_cond_true ((f.ev rh c _ hc).bool_inv) (ihx _ _ _ _ _ hr μ a w rh hf f)
  |false=>exact wpIn_cond_false ((f.ev rh c _ hc).bool_inv) (ihy _ _ _ _ _ hr μ a w rh hf f)
 |block id b ih=>
  intro out env fr h K hr μ a w rh hf f;refine wpIn_block (wpIn_mono (ih _ _ _ _ _ hr μ a w rh hf f) fun e a1 w1 ⟨ex,fr1,h1,hk,he,hst⟩=>?_)
  cases ex with
  |normal=>
   cases e with
   |normal=>exact⟨_,_,_,hk,trivial,hst⟩
   |_=>exact he.elim
  |ret=>
   cases e with
   |ret=>exact⟨_,_,_,hk,trivial,hst⟩
   |_=>exact he.elim
  |exit j=>
   cases e with
   |exit k=>
    simp only[ExR]at he;simp only[vX]at hk
    cases hj:Nat.beq j id with
    |true=>
     rw[hj]at hk;simp only[Exit.inBlock,←he,beq_iff.1 hj,if_true];exact⟨_,_,_,hk,trivial,hst⟩
    |false=>
     rw[hj]at hk;have hj:j≠id:=fun e=>by rw[beq_iff.2 e]at hj;simp at hj
     simp only[Exit.inBlock,←he,hj,if_false];exact⟨_,_,_,hk,rfl,hst⟩
   |_=>exact he.elim
 |loop b ih=>
  intro out env fr h K hr μ a w rh hf f;exact wpIn_loop_rounds L (oM (fun fr h K hh=>ih _ _ fr h K hh) L _ h K hr μ a w rh hf f.keep)
 |scope b ih=>
  intro out env fr h K hr μ a w rh hf f;refine qS (ih _ _ _ _ _ hr μ a w rh hf f) fun l a w hq=>?_;obtain⟨ex,_,_,_,he,_⟩:=hq;cases ex<;>exact he.elim
 |_=>intro out env fr h K hr;exact hr.elim
def dC (P:Program)(C:CF)(isR:FuncId→Bool)(dom:FuncId→List Value→H→Prop)(R:FuncId→List Value→H→Value→H→Prop)(L NG:Nat)(f:FuncId)(args:List Value)(h:H)(X:Value→H→Prop):Prop:=
 ∃fn c,P.funcs[f]?=some fn∧fn.body=some c∧args.length≤fn.ntmps∧
  mM P C isR dom R L NG fn.ntmps (eY fn) c (eY fn) [] (gO 0 args) h fun ex fr h'=>(ex=.normal∨ex=.ret)∧∃vs,aAs P fr h' fn.results.toList=some vs∧X (sM vs) h'
theorem jM (hzp:aK P=true)(hm:P.follows .mixedOrders=true)(hC:aM P NG C)(ok:RelOK P NG isR dom R){L:Nat}{f:FuncId}{args:List Value}{h:H}{X:Value→H→Prop}(hr:dC P C isR dom R L NG f args h X)
 {μ:Mu} {w:World} {cargs:List Value} (rh:RH NG μ h w) (hf:SF μ h) (hl:LR μ args cargs):Calls P f ⟨cargs⟩ w fun e w'=>∃v h',X v h'∧fX NG μ h w v h' e w':=by
 obtain⟨fn,c,hfn,hc,hlen,hr⟩:=hr;refine callsIn_Fr.1 (callsIn_of_wp_marks (F:=Fr none) (n:=0) hfn hc trivial ?_);have hcl:cargs.length=args.length:=hl.1.symm;have f0:FR fn.ntmps μ (gO 0 args) {tmps:=(⟨cargs⟩:Array Value)++Array.replicate (fn.ntmps-(⟨cargs⟩:Array Value).size) undef,defers:=[]}:=by
  refine⟨by simp;omega,fun(t:Nat) u hu=>?_⟩;obtain⟨_,h2⟩:=oB args 0 t u hu;simp only[Nat.sub_zero]at h2;have hlt:t<args.length:=(List.getElem?_eq_some_iff.1 h2).1;refine⟨kH hlt hlen,?_⟩;obtain⟨b,hb,hr'⟩:=hl.get h2;have hlt2:t<cargs.length:=by rw[hcl];exact hlt
  have:((⟨cargs⟩:Array Value)++Array.replicate (fn.ntmps-(⟨cargs⟩:Array Value).size) undef)[t]?=some b:=by
   rw[Array.getElem?_append_left (by simpa using hlt2)];simpa using hb
  simp only[pG,this,pC];exact hr'
 refine wpIn_mono (wW hzp hm hC ok c _ _ _ _ _ hr μ _ w rh hf f0) fun e a' w' ⟨ex,fr,h',⟨hnr,vs,hres,hX⟩,he,μ',st,f',ms,ed,nd,gd⟩=>?_;have fin:LeavesInM (Fr none) 0 P fn a'.tmps (fun e w'=>∃v h',X v h'∧fX NG μ h w v h' e w') a'.defers .returning w':=by
  have ed':a'.defers=ms.map (fun r=>(⟨.collected r,#[]⟩:Deferred)):=by rw[ed];simp
  rw[ed'];refine iC ms w' st nd gd fun w'' st''=>?_;obtain⟨cv,hrun,hvr⟩:=lK (w:=w'') st''.rh f' hres;exact⟨cv,hrun,_,h',hX,cv,μ',rfl,st'',hvr⟩
 rcases hnr with rfl|rfl
 ·cases e with
  |normal=>exact fin
  |_=>exact he.elim
 ·cases e with
  |ret=>exact fin
  |_=>exact he.elim
theorem RelOK.none:RelOK P NG (fun _=>false) (fun _ _ _=>False) (fun _ _ _ _ _=>False):=
 ⟨fun _ h=>by simp at h,fun _ _ _ h=>by simp at h,fun _ _ _ _ _ h=>by simp at h,fun _ _ _ h=>by simp at h⟩
theorem RelOK.add (ok:RelOK P NG isR dom R){g:FuncId}{dom1:List Value→H→Prop}{R1:List Value→H→Value→H→Prop}
 (body:g<Y0∧∃fn c,P.funcs[g]?=some fn∧fn.body=some c∧fn.name≠ "runtime.NumGoroutine")
 (call:∀args h,dom1 args h→∀(μ:Mu) (w:World) (cargs:List Value),RH NG μ h w→SF μ h→LR μ args cargs→Calls P g ⟨cargs⟩ w fun e w'=>∃v h',R1 args h v h'∧fX NG μ h w v h' e w')
 (mono:∀args h v h',R1 args h v h'→h.next≤h'.next) (tot:∀args h,dom1 args h→∃v h',R1 args h v h'):
 RelOK P NG (fun f=>bif Nat.beq f g then true else isR f) (fun f args h=>if f=g then dom1 args h else dom f args h) (fun f args h v h'=>if f=g then R1 args h v h' else R f args h v h'):=by
 have ne:∀{f},f≠g→(bif Nat.beq f g then true else isR f)=isR f:=fun{f} hne=>by
  rw[show Nat.beq f g=false by cases hb:Nat.beq f g with|false=>rfl|true=>exact absurd (beq_iff.1 hb) hne];rfl
 refine⟨fun f hf=>?_,fun f args h hf hd=>?_,fun f args h v h' hf hR=>?_,fun f args h hf hd=>?_⟩<;>by_cases e:f=g
 ·subst e;exact body
 ·rw[ne e]at hf;exact ok.body f hf
 ·subst e;simp only[if_true]at hd⊢;exact call args h hd
 ·rw[ne e]at hf;simp only[e,if_false]at hd⊢;exact ok.call f args h hf hd
 ·subst e;simp only[if_true]at hR;exact mono args h v h' hR
 ·rw[ne e]at hf;simp only[e,if_false]at hR;exact ok.mono f args h v h' hf hR
 ·subst e;simp only[if_true]at hd⊢;exact tot args h hd
 ·rw[ne e]at hf;simp only[e,if_false]at hd⊢;exact ok.tot f args h hf hd
end
end Go.AM

namespace Go.AM
open Go Go.RowKit
section
variable {P:Program}{NG:Nat}{μ μ':Mu}{h h':H}{w w':World}
theorem Step.pushB (r:RH NG μ h w)(hf:μ h.next=none)(hB:Below w.heap.size w w'){b:Blk}(ho':b.owned=true){l:Loc}(hl:w.heap.size≤l.blk)(hb:BR (μ.set h.next l) b l w'):
 Step NG μ h w (μ.set h.next l) (h.push b) w':=by
 have hold:∀k,k<w.heap.size→w'.heap[k]?=w.heap[k]?:=hB.block;exact{
 wf:=r.wf
 le:=Mu.le_set hf
 old:=fun j hj=>Mu.set_ne _ _ (by omega)
 out:=fun j hj=>Mu.set_ne _ _ (by simp at hj;omega)
 next:=by simp
 rh:={
  ng:=by have:=r.ng;simp;omega
  wf:=fun j c hj=>by
   rw[H.get_push]at hj;split at hj
   ·rename_i e;subst e;simp
   ·have:=r.wf _ _ hj;simp;omega
  br:=fun j c m hj hm=>by
   rw[H.get_push]at hj;split at hj
   ·rename_i e;subst e;simp at hj;subst hj;rw[Mu.set_same]at hm;simp at hm;subst hm;exact hb
   ·rename_i e;rw[Mu.set_ne _ _ e]at hm;exact((r.br j c m hj hm).congr (hold _ (r.bd _ _ hm))).mono (Mu.le_set hf)
  inj:=fun j c m j' c' m' hj hc hm hj' hm' hne=>by
   rw[H.get_push]at hj hj';split at hj
   ·rename_i e;subst e;rw[kA hne]at hj';rw[Mu.set_same]at hm;simp at hm;subst hm;rw[Mu.set_ne _ _ hne]at hm';have:=r.bd _ _ hm';omega
   ·rename_i e;rw[Mu.set_ne _ _ e]at hm;split at hj'
    ·rename_i e';subst e';rw[Mu.set_same]at hm';simp at hm';subst hm';have:=r.bd _ _ hm;omega
    ·rename_i e';rw[Mu.set_ne _ _ e']at hm';exact r.inj j c m j' c' m' hj hc hm hj' hm' hne
  bd:=fun j m hm=>by
   by_cases e:j=h.next
   ·subst e;rw[Mu.set_same]at hm;simp at hm;subst hm;exact hb.lt
   ·rw[Mu.set_ne _ _ e]at hm;have:=r.bd _ _ hm;have:=hB.size;omega
  gl:=fun g hgn=>by
   rw[Mu.set_ne _ _ (show g≠h.next by have:=r.ng;omega)];exact r.gl _ hgn}
 size:=hB.size
 os:=hB.os
 tape:=hB.tape
 output:=hB.output
 frame:=fun k hk _=>hold k hk
 src:=fun j c m hj hc hm=>by
  rw[H.get_push]at hj;split at hj
  ·rename_i e;subst e;rw[Mu.set_same]at hm;simp at hm;subst hm;exact .inl hl
  ·rename_i e;rw[Mu.set_ne _ _ e]at hm;exact .inr ⟨j,c,m,hj,hc,hm,rfl⟩
 unm:=fun j c hj hm=>by
  rw[H.get_push,kA (fun e=>by subst e;have:=r.wf _ _ hj;omega)];exact hj
 dead:=fun j hj hd=>by
  rw[H.get_push,kA (by omega)];exact hd
 ro:=fun j c hj hc=>by
  rw[H.get_push]at hj;split at hj
  ·simp only[kE]at hj;subst hj;rw[ho']at hc;simp at hc
  ·exact hj}
theorem aKn (r:RH NG μ h w)(hf:μ h.next=none)(hB:Below w.heap.size w w'){ty:TypeId}{size n:Nat}{cv:Value}{xs:List Value}(hrow:w'.ownsRow w.heap.size ty size cv n xs)(hn:n≠0)
 {cs:List Value} (hlen:cs.length=xs.length) (hp:∀(i:Nat) (a b:Value),cs[i]?=some a→xs[i]?=some b→VR μ a b∧cellish a=true):
 ∃μ',Step NG μ h w μ' (h.push (.cells cs (some size))) w'∧VR μ' (.slice (some ⟨h.next,0,none⟩) n (2*n)) cv:=by
 obtain⟨hx,⟨_,h0⟩|⟨g,cap,cur,rfl,hg,hgb,hcap,_,hsz,htake⟩⟩:=hrow
 ·exact absurd h0 hn
 ·refine⟨μ.set h.next ⟨g,0,size,cap*size⟩,Step.pushB r hf hB rfl hg ⟨cur,ty,(0,0),hgb,hsz,?_,fun i v hi=>?_,fun _ i _ hc=>by omega,fun es he=>by simpa using he⟩,?_⟩
  ·show 0+cs.length≤cap*size;rw[hlen,hx,Nat.zero_add];exact Nat.mul_le_mul_right _ hcap
  ·have hil:i<xs.length:=by rw[←hlen];exact(List.getElem?_eq_some_iff.1 hi).1
   obtain⟨c,hc⟩:∃c,xs[i]?=some c:=⟨_,kN hil⟩;obtain⟨hv,hce⟩:=hp i v c hi hc;refine⟨c,?_,hv.mono (Mu.le_set hf),hce⟩;have:(cur.toList.take (n*size))[i]?=some c:=by rw[htake];exact hc
   rw[pX]at this;split at this
   ·show cur[0+i]?=some c;rw[Nat.zero_add];simpa using this
   ·simp at this
  ·have:=VR.slice (μ:=μ.set h.next ⟨g,0,size,cap*size⟩) (off:=0) (len:=n) (c:=2*n) (c':=cap) (a':=⟨g,0,none⟩) (Mu.set_same μ h.next ⟨g,0,size,cap*size⟩) (by
    unfold dD;rw[kA (by omega)];exact⟨by omega,by simp⟩) (by omega) (fun _=>rfl)
   exact this
end
section
variable {P:Program}{NG nt:Nat}{C:CF}{isR:FuncId→Bool}{dom:FuncId→List Value→H→Prop}{R:FuncId→List Value→H→Value→H→Prop}
theorem tV {f:Value→H→Option (Ex×T Value×H)}{Q:Ex×T Value×H→Prop}:∀(l:List (Value×H)),(∀x∈l,∃o,f x.1 x.2=some o∧Q o)→∃ol,mN f l=some ol∧∀o∈ol,Q o
 |[],_=>⟨[],rfl,fun o ho=>by simp at ho⟩
 |x::r,hx=>by
  obtain⟨o,ho,hQ⟩:=hx x List.mem_cons_self;obtain⟨ol,hol,hr⟩:=tV r fun y hy=>hx y (List.mem_cons_of_mem _ hy);refine⟨o::ol,by simp only[mN,ho,hol],fun y hy=>?_⟩;rcases List.mem_cons.1 hy with rfl|hy
  ·exact hQ
  ·exact hr y hy
end
end Go.AM

namespace Go.AM
open Go Go.RowKit
def aU {β:Type}(rg:Array Oper→Bool→T Value→H→(T Value→H→Option β)→Option β)(L NG:Nat)(RR:List Tmp):Code→List Tmp→List (Nat×List Tmp)→T Value→H→(Ex→T Value→H→Option β)→Option β
  | .skip,out,_,fr,h,K=>K .normal (bQ fr out) h
  | .region _ ops draw,out,_,fr,h,K=>rg ops draw fr h fun fr h=>K .normal (bQ fr out) h
  | .seq a b,out,env,fr,h,K=>
    aU rg L NG RR a (live RR b out env) env fr h fun ex fr' h'=>xM ex (fun fr h=>aU rg L NG RR b out env fr h K) K fr' h'
  | .cond c a b,out,env,fr,h,K=>
    (aG NG fr h c).bind fun v=>aW v (aU rg L NG RR a out env fr h K) (aU rg L NG RR b out env fr h K)
  | .block id b,out,env,fr,h,K=>
    aU rg L NG RR b out ((id,out)::env) fr h fun ex fr' h'=>iE id ex K fr' h'
  | .loop b,_,env,fr,h,K=>fW (fun fr h K=>aU rg L NG RR b (live RR b [] env) env fr h K) L (bQ fr (live RR b [] env)) h K
  | .exit id,_,env,fr,h,K=>K (.exit id) (bQ fr (aCh id env)) h
  | .scope b,out,env,fr,h,K=>aU rg L NG RR b out env fr h K
  | .label _,out,_,fr,h,K=>K .normal (bQ fr out) h
  | .ret,_,_,fr,h,K=>K .ret (bQ fr RR) h
  |_,_,_,_,_,_=>none
section
variable {P:Program}{NG nt:Nat}{C:CF}{isR:FuncId→Bool}{dom:FuncId→List Value→H→Prop}{R:FuncId→List Value→H→Value→H→Prop}
open Classical in
noncomputable def rgW (P:Program)(C:CF)(NG nt:Nat)(isR:FuncId→Bool)(dom:FuncId→List Value→H→Prop)(R:FuncId→List Value→H→Value→H→Prop)(ops:Array Oper)(draw:Bool)(fr:T Value)(h:H)(K:T Value→H→Option Unit):Option Unit:=
  if uG P C NG nt isR dom R ops draw fr h (fun fr h=>K fr h=some ())then some ()else none
theorem rgW_iff {ops:Array Oper}{draw:Bool}{fr:T Value}{h:H}{K:T Value→H→Option Unit}:rgW P C NG nt isR dom R ops draw fr h K=some ()↔uG P C NG nt isR dom R ops draw fr h (fun fr h=>K fr h=some ()):=by
  unfold rgW;split
  ·rename_i hp;exact⟨fun _=>hp,fun _=>rfl⟩
  ·rename_i hp;exact⟨fun e=>by simp at e,fun e=>absurd e hp⟩
theorem mP {ops:Array Oper}{K K':T Value→H→Prop}(hK:∀fr h,K fr h→K' fr h):∀(l:List Oper) (fr:T Value) (h:H),aX P C NG isR dom R ops l fr h K→aX P C NG isR dom R ops l fr h K'
  |[],fr,h,hr=>hK fr h hr
  |o::rest,fr,h,hr=>by
    have ih:=mP (ops:=ops) hK rest;have run:∀fr:T Value,
        (match aZ isR o,o.op with
          |some true,.call ⟨.value (.func g),args,_⟩=>∃vs,cQ (aG NG fr h) args.toList=some vs∧dom g vs h∧∀v h',R g vs h v h'→aX P C NG isR dom R ops rest (bU fr o.dst (some v)) h' K
          |_,_=>∃rv h',aop P C (aG NG fr h) h o aQ=some (rv,h')∧aX P C NG isR dom R ops rest (bU fr o.dst rv) h' K)→
        (match aZ isR o,o.op with
          |some true,.call ⟨.value (.func g),args,_⟩=>∃vs,cQ (aG NG fr h) args.toList=some vs∧dom g vs h∧∀v h',R g vs h v h'→aX P C NG isR dom R ops rest (bU fr o.dst (some v)) h' K'
          |_,_=>∃rv h',aop P C (aG NG fr h) h o aQ=some (rv,h')∧aX P C NG isR dom R ops rest (bU fr o.dst rv) h' K'):=by
      intro fr hr;split at hr
      ·obtain⟨vs,h1,h2,h3⟩:=hr;exact⟨vs,h1,h2,fun v h' hR=>ih _ _ (h3 v h' hR)⟩
      ·obtain⟨rv,h',h1,h2⟩:=hr;exact⟨rv,h',h1,ih _ _ h2⟩
    simp only[aX]at hr⊢;split at hr
    ·exact run fr hr
    ·split at hr
     ·exact hr
     ·split at hr
      ·split at hr
       ·exact run _ hr
       ·exact ih _ _ hr
      ·exact ih _ _ hr
      ·exact hr
theorem aBe {ops:Array Oper}{draw:Bool}{fr:T Value}{h:H}{K K':T Value→H→Prop}(hK:∀fr h,K fr h→K' fr h)(hr:uG P C NG nt isR dom R ops draw fr h K):uG P C NG nt isR dom R ops draw fr h K':=by
  rcases hr with⟨l,hl,h1⟩|⟨e,hd,h1⟩|⟨e,hd,hdr,hq,hA⟩
  ·exact .inl ⟨l,hl,fun o ho=>hK _ _ (h1 o ho)⟩
  ·exact .inr (.inl ⟨e,hd,mP hK _ _ _ h1⟩)
  ·refine .inr (.inr ⟨e,hd,hdr,hq,fun φ hφ=>?_⟩);obtain⟨fr',h',h1,h2⟩:=hA φ hφ;exact⟨fr',h',h1,hK _ _ h2⟩
theorem aDi {f:T Value→H→(Ex→T Value→H→Option Unit)→Option Unit}{g:T Value→H→KW→Prop}(hf:∀fr h K K',(∀ex fr h,K ex fr h=some ()→K' ex fr h)→f fr h K=some ()→g fr h K'):
    ∀(n:Nat) (fr:T Value) (h:H) (K:Ex→T Value→H→Option Unit) (K':KW),(∀ex fr h,K ex fr h=some ()→K' ex fr h)→fW f n fr h K=some ()→aCg g n fr h K'
  |0,_,_,_,_,_,hr=>by simp[fW]at hr
  |n+1,fr,h,K,K',hK,hr=>hf fr h _ _ (fun ex fr' h' hk=>by
      cases ex with
      |normal=>exact aDi hf n fr' h' K K' hK hk
      |exit j=>exact hK _ _ _ hk
      |ret=>exact hK _ _ _ hk) hr
abbrev sL:T Value→H→Option (T Value×H):=fun fr h=>some (fr,h)
theorem vZ {β:Type}(ρ:Operand→Option Value)(h:H)(o:Oper)(K:Option Value→H→Option β)(K1:Option Value→H→Option (T Value×H))(k:T Value×H→Option β)(e:∀rv h,K rv h=(K1 rv h).bind k):
    aop P C ρ h o (bE P o K)=(aop P C ρ h o (bE P o K1)).bind k:=by
  rw[cH (K:=bE P o K),cH (K:=bE P o K1)]
  cases aop P C ρ h o aQ with
  |none=>rfl
  |some p=>
    simp only[pD,bE]
    cases iQ P o.type with
    |false=>exact e _ _
    |true=>
      simp only[cond_true]
      cases p.1 with
      |none=>exact e _ _
      |some v=>cases v with
        |bool b=>exact e _ _
        |_=>rfl
theorem dV {β:Type}{ops:Array Oper}{K:T Value→H→Option β}:∀(l:List Oper) (fr:T Value) (h:H),runOps P C NG ops l fr h K=(runOps P C NG ops l fr h sL).bind fun p=>K p.1 p.2
  |[],fr,h=>rfl
  |o::rest,fr,h=>by
    have ih:=fun fr h=>dV (ops:=ops) (K:=K) rest fr h;have run:∀fr:T Value,aop P C (aG NG fr h) h o (bE P o fun rv h'=>runOps P C NG ops rest (bU fr o.dst rv) h' K)=(aop P C (aG NG fr h) h o (bE P o fun rv h'=>runOps P C NG ops rest (bU fr o.dst rv) h' sL)).bind fun p=>K p.1 p.2:=
      fun fr=>vZ _ _ _ _ _ _ fun rv h=>ih _ _
    simp only[runOps];split
    ·exact run fr
    ·rename_i j want hg;split
     ·rfl
     ·split
      ·rename_i b _;cases b<;>cases want<;>first|exact run _|exact ih _ _
      ·exact ih _ _
      ·rfl
theorem jC {ops:Array Oper}{K:T Value→H→Option Unit}{l:List Oper}{fr:T Value}{h:H}(hr:runOps P C NG ops l fr h K=some ()):
    ∃fr' h',runOps P C NG ops l fr h sL=some (fr',h')∧K fr' h'=some ():=by
  rw[dV]at hr;obtain⟨⟨fr',h'⟩,h1,h2⟩:=bind_some hr;exact⟨fr',h',h1,h2⟩
theorem aKp {ops:Array Oper}{fr:T Value}{h:H}{K:T Value→H→Option Unit}(hd:dJ nt ops=true)(hf:gN P C NG nt ops false fr h=none)(hr:runOps P C NG ops ops.toList fr h K=some ()):rgW P C NG nt isR dom R ops false fr h K=some ():=by
  obtain⟨fr',h',h1,h2⟩:=jC hr;refine rgW_iff.2 (.inl ⟨[(.normal,fr',h')],?_,fun o ho=>by rw[List.mem_singleton.1 ho];exact h2⟩);unfold aAt;rw[hf];simp only[hd,cond_true,cond_false];rw[dV,h1];rfl
theorem jZ {β:Type}{ops:Array Oper}{bef:List Nat}{K:T Value→H→Option β}:∀(l:List Oper) (i:Nat) (fr:T Value) (h:H) (es:List (Nat×H)) (ls:List (Nat×Oper×T Value×Value)),
    runD P C NG ops bef i l fr h es ls K=(runD P C NG ops bef i l fr h es ls sL).bind fun p=>K p.1 p.2
  |[],i,fr,h,es,ls=>rfl
  |o::rest,i,fr,h,es,ls=>by
    have ih:=fun fr h es ls=>jZ (ops:=ops) (bef:=bef) (K:=K) rest (i+1) fr h es ls;have run:∀fr:T Value,
        (match bC P o with
          |some .effect=>aop P C (aG NG fr h) h o<|bE P o fun rv h'=>
              bif ls.all (fun(j,oj,frj,vj)=>Nat.testBit (bef.getD i 0) j||bJ P NG oj frj h' vj)then
                runD P C NG ops bef (i+1) rest (bU fr o.dst rv) h' ((i,h)::es) ls K else none
          |some .reads=>aop P C (aG NG fr h) h o<|bE P o fun rv h'=>
              (match rv with
               |some v=>bif es.all (fun(p,hp)=>Nat.testBit (bef.getD i 0) p||bJ P NG o fr hp v)then
                  runD P C NG ops bef (i+1) rest (bU fr o.dst rv) h' es ((i,o,fr,v)::ls) K else none
               |none=>none)
          |some _=>aop P C (aG NG fr h) h o<|bE P o fun rv h'=>runD P C NG ops bef (i+1) rest (bU fr o.dst rv) h' es ls K
          |none=>none)=
        (match bC P o with
          |some .effect=>aop P C (aG NG fr h) h o<|bE P o fun rv h'=>
              bif ls.all (fun(j,oj,frj,vj)=>Nat.testBit (bef.getD i 0) j||bJ P NG oj frj h' vj)then
                runD P C NG ops bef (i+1) rest (bU fr o.dst rv) h' ((i,h)::es) ls sL else none
          |some .reads=>aop P C (aG NG fr h) h o<|bE P o fun rv h'=>
              (match rv with
               |some v=>bif es.all (fun(p,hp)=>Nat.testBit (bef.getD i 0) p||bJ P NG o fr hp v)then
                  runD P C NG ops bef (i+1) rest (bU fr o.dst rv) h' es ((i,o,fr,v)::ls) sL else none
               |none=>none)
          |some _=>aop P C (aG NG fr h) h o<|bE P o fun rv h'=>runD P C NG ops bef (i+1) rest (bU fr o.dst rv) h' es ls sL
          |none=>none).bind fun p=>K p.1 p.2:=by
      intro fr;split
      ·refine vZ _ _ _ _ _ _ fun rv h'=>?_
       cases ls.all (fun(j,oj,frj,vj)=>Nat.testBit (bef.getD i 0) j||bJ P NG oj frj h' vj)with
       |true=>exact ih _ _ _ _
       |false=>rfl
      ·refine vZ _ _ _ _ _ _ fun rv h'=>?_
       cases rv with
       |none=>rfl
       |some v=>
         dsimp only
         cases es.all (fun(p,hp)=>Nat.testBit (bef.getD i 0) p||bJ P NG o fr hp v)with
         |true=>exact ih _ _ _ _
         |false=>rfl
      ·exact vZ _ _ _ _ _ _ fun rv h'=>ih _ _ _ _
      ·rfl
    simp only[runD];split
    ·exact run fr
    ·rename_i j want hg;split
     ·rfl
     ·split
      ·rename_i b _;cases b<;>cases want<;>first|exact run _|exact ih _ _ _ _
      ·exact ih _ _ _ _
      ·rfl
theorem tJ {ops:Array Oper}{bef:List Nat}{K:T Value→H→Option Unit}{l:List Oper}{i:Nat}{fr:T Value}{h:H}{es:List (Nat×H)}{ls:List (Nat×Oper×T Value×Value)}(hr:runD P C NG ops bef i l fr h es ls K=some ()):
    ∃fr' h',runD P C NG ops bef i l fr h es ls sL=some (fr',h')∧K fr' h'=some ():=by
  rw[jZ]at hr;obtain⟨⟨fr',h'⟩,h1,h2⟩:=bind_some hr;exact⟨fr',h',h1,h2⟩
theorem aGy {ops:Array Oper}{fr:T Value}{h:H}{K:T Value→H→Option Unit}(hd:dJ nt ops=true)(hdr:fQ P ops (before ops)=true)(hr:runD P C NG ops (before ops) 0 ops.toList fr h [] [] K=some ()):rgW P C NG nt isR dom R ops true fr h K=some ():=by
  obtain⟨fr',h',h1,h2⟩:=tJ hr;refine rgW_iff.2 (.inl ⟨[(.normal,fr',h')],?_,fun o ho=>by rw[List.mem_singleton.1 ho];exact h2⟩);have hf:gN P C NG nt ops true fr h=none:=by unfold gN;simp
  unfold aAt;rw[hf];simp only[hd,hdr,cond_true];rw[jZ,h1];rfl
theorem aKo {ops:Array Oper}{fr:T Value}{h:H}{K:T Value→H→Option Unit}(hd:dJ nt ops=true)(hdr:fQ P ops (before ops)=true){q:Nat}(hq:sU isR ops (before ops) q=true)
    (hr:∀φ,Val isR dom R φ→runD P (gY C isR φ) NG ops (before ops) 0 ops.toList fr h [] [] K=some ()):rgW P C NG nt isR dom R ops true fr h K=some ():=
  rgW_iff.2 (.inr (.inr ⟨rfl,hd,hdr,⟨q,hq⟩,fun φ hφ=>tJ (hr φ hφ)⟩))
open Classical in
noncomputable def okU (p:Prop):Option Unit:=if p then some ()else none
theorem okU_iff {p:Prop}:okU p=some ()↔p:=by
  unfold okU;split
  ·rename_i hp;exact⟨fun _=>hp,fun _=>rfl⟩
  ·rename_i hp;exact⟨fun e=>by simp at e,fun e=>absurd e hp⟩
def A.b (x:Value)(h:H):Option (List (Value×H)):=match A.a x h with
  |some l=>some l
  |none=>(A.yJ x h).map fun p=>[p]
noncomputable def aAz (o:Option (List (Value×H)))(f:Value→H→Option Unit):Option Unit:=okU (∃l,o=some l∧∀x∈l,f x.1 x.2=some ())
theorem aGx {ops:Array Oper}{dst:Option Tmp}{x:Operand}{ty:TypeId}{pos:String}{after:Array Edge}{rest:List Oper}(hops:ops.toList=⟨dst,.next x false,ty,pos,after,none⟩::rest)(hd:dJ nt ops=true)(hty:iQ P ty=false)
    {fr:T Value} {h:H} {K:T Value→H→Option Unit} {v:Value} (hx:aG NG fr h x=some v) (hr:aAz (A.b v h) (fun u h=>runOps P C NG ops rest (bU fr dst (some u)) h K)=some ()):rgW P C NG nt isR dom R ops false fr h K=some ():=by
  obtain⟨l,hl,hall⟩:=okU_iff.1 hr;refine rgW_iff.2 (.inl ?_);unfold A.b at hl
  cases hmm:A.a v h with
  |some l0=>
    rw[hmm]at hl;simp only[kE]at hl;subst hl;obtain⟨ol,hol,hQ⟩:=tV (f:=fun v h=>runOps P C NG ops rest (bU fr dst (some v)) h fun fr h=>some (Ex.normal,fr,h)) (Q:=fun o=>K o.2.1 o.2.2=some ()) l0 (fun y hy=>by
      obtain⟨fr',h',h1,h2⟩:=jC (hall y hy);exact⟨(.normal,fr',h'),by rw[dV,h1];rfl,h2⟩)
    refine⟨ol,?_,hQ⟩;have:gN P C NG nt ops false fr h=some ol:=by
      unfold gN;simp only[hd,sC,Bool.and_self,cond_true,hops,hx,hmm,hol]
    unfold aAt;rw[this]
  |none=>
    rw[hmm]at hl;obtain⟨p,hp,rfl⟩:=Option.map_eq_some_iff.1 hl;obtain⟨fr',h',h1,h2⟩:=jC (hall p (List.mem_singleton.2 rfl));refine⟨[(.normal,fr',h')],?_,fun o ho=>by rw[List.mem_singleton.1 ho];exact h2⟩;have hfk:gN P C NG nt ops false fr h=none:=by
      unfold gN;simp only[hd,sC,Bool.and_self,cond_true,hops,hx,hmm]
    obtain⟨u,h0⟩:=p;unfold aAt;rw[hfk];simp only[hd,cond_true,cond_false,hops,runOps,aop,hx,hp,bE,hty,pD];rw[dV,h1];rfl
def okR (isR:FuncId→Bool):Code→Bool
  | .region _ ops draw=>ops.toList.all (fun o=>(aZ isR o).isSome)&&(!draw||ops.toList.all (fun o=>match aZ isR o with|some false=>true|_=>false)||(List.range ops.size).any fun q=>sU isR ops (before ops) q)
  | .seq a b=>okR isR a&&okR isR b
  | .cond _ a b=>okR isR a&&okR isR b
  | .block _ b=>okR isR b
  | .loop b=>okR isR b
  | .scope b=>okR isR b
  | .rangeFunc .. =>false
  |_=>true
end
end Go.AM
