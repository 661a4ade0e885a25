import Derived.Test.YtpanfoafajepcaaGreatDoorGq
import Derived.Test.YtpanfoafajepcaaGreatDoorGu
import Derived.Test.YtpanfoafajepcaaGreatDoorGt
namespace Go.AM.Pk
open Go Go.AM
theorem ti {P:Program}{G L nt:Nat}{S:List Tmp}{fr:T Value}{h:H}{D:CF}{f:Nat}{c:Code}{fn:Func}{args:List Value}(hD:D f args h=none)(hf:P.funcs[f]?=some fn){v1 v2:Option (Value×H)}(e:execK P (aH P G D) L G nt S c S [] fr h (qC P fn fun v h=>some (v,h))=v1)
 (hb:(fn.body,fn.ntmps,eY fn,Nat.ble args.length nt,gO 0 args)=(some c,nt,S,true,fr)) (hw:v1=v2) {r:Value×H} (hr:v2=some r):aH P G D f args h=some r:=by
 obtain⟨hb,hS⟩:=Prod.mk.inj hb;obtain⟨hnt,hS⟩:=Prod.mk.inj hS;obtain⟨hrr,hS⟩:=Prod.mk.inj hS;obtain⟨hl,ha⟩:=Prod.mk.inj hS;exact aAo hD hf hb hnt hrr hl ha (e.trans (hw.trans hr))
end Go.AM.Pk

set_option linter.unusedVariables false
namespace Go.AM.Pw
open Go Go.AM Go.AM.Pk
abbrev Rg (β:Type):=Array Oper→Bool→T Value→H→(T Value→H→Option β)→Option β
variable {β:Type}{rg:Rg β}{L G:Nat}{S out l':List Tmp}{env:List (Nat×List Tmp)}{fr fr1:T Value}{h:H}{K:KK β}{c:Code}{m:Nat}{v1 v2:O β}{v:V}
abbrev Lw (rg:Rg β)(L G:Nat)(R:List Tmp)(c:Code)(S:List Tmp)(env:List (Nat×List Tmp))(n:Nat)(fr:T Value)(h:H)(K:KK β):O β:=fW (fun fr h K=>aU rg L G R c S env fr h K) n fr h K
def exS (rg:Rg β)(L G:Nat)(S out:List Tmp)(env:List (Nat×List Tmp))(K:KK β):Nat→Code→T Value→H→(T Value→H→O β)→O β
 |0,_,fr,h,k=>k fr h
 |j+1,c,fr,h,k=>aU rg L G S (cL c) (live S (cR c) out env) env fr h (S1 (fun fr h=>exS rg L G S out env K j (cR c) fr h k) K)
theorem pQ {d:Code}:∀(j:Nat) (c:Code) (fr:T Value) (h:H),isq j c=true→tlC j c=d→aU rg L G S c out env fr h K=exS rg L G S out env K j c fr h (fun fr h=>aU rg L G S d out env fr h K)
 |0,c,fr,h,_,e=>by cases e;rfl
 |j+1,.seq a b,fr,h,hj,e=>by
  show aU rg L G S a (live S b out env) env fr h (S1 (fun fr h=>aU rg L G S b out env fr h K) K)=aU rg L G S a (live S b out env) env fr h (S1 (fun fr h=>exS rg L G S out env K j b fr h _) K);rw[show(fun fr h=>aU rg L G S b out env fr h K)=fun fr h=>exS rg L G S out env K j b fr h (fun fr h=>aU rg L G S d out env fr h K)from funext fun fr=>funext fun h=>pQ j b fr h hj e]
theorem y (j:Nat)(l:List Nat){A:Kn β l.length→O β}{B:Kn β l.length}(e1:∀k,exS rg L G S out env K j (g c m) fr h k=A (M k l))(e2:M (fun fr h=>aU rg L G S (g c (tl j m)) out env fr h K) l=B)(hc:(isq j (g c m),tlC j (g c m))=(true,g c (tl j m))):aU rg L G S (g c m) out env fr h K=A B:=by
 obtain⟨hc,hl⟩:=Prod.mk.inj hc;exact((pQ j _ _ _ hc hl).trans (e1 _)).trans (congrArg A e2)
theorem Q (l' l:List Nat){A:Kn β l.length→O β}{B:Kn β l.length}(e1:∀k,aU rg L G S (g c (2*m)) l' env fr h (S1 k K)=A (M k l))(e2:M (fun fr h=>aU rg L G S (g c (2*m+1)) out env fr h K) l=B)(hl:(g c m,live S (g c (2*m+1)) out env)=(.seq (g c (2*m)) (g c (2*m+1)),l')):aU rg L G S (g c m) out env fr h K=A B:=by
 obtain⟨hc,hl⟩:=Prod.mk.inj hl;subst hl;rw[hc];exact(e1 _).trans (congrArg A e2)
theorem q (l:List Nat){A:Kn β l.length→O β}{B:Kn β l.length}(e1:∀k,aU rg L G S (g c (2*m)) l env fr h (S1 k K)=A (M k l))(e2:M (fun fr h=>aU rg L G S (g c (2*m+1)) out env fr h K) l=B)(hl:(g c m,live S (g c (2*m+1)) out env)=(.seq (g c (2*m)) (g c (2*m+1)),l)):aU rg L G S (g c m) out env fr h K=A B:=Q l l e1 e2 hl
theorem lw (l0 l:List Nat){W:Nat→Kn β l.length}{F:Kn β l.length→Kn β l.length}(h0:W 0=Zn l.length)(hs:∀n,W (n+1)=F (W n))(e:∀k,M (fun fr h=>aU rg L G S c l0 env fr h (S1 k K)) l=F (M k l)):∀n,M (fun fr h=>Lw rg L G S c l0 env n fr h K) l=W n:=by
 intro n;induction n with
 |zero=>rw[h0];exact aDa (f:=fun n fr h=>Lw rg L G S c l0 env n fr h K) fun _ _=>rfl
 |succ n ih=>rw[hs,←ih];exact e _
theorem s0 (l':List Tmp)(e:∀k,aU rg L G S (g c (2*m)) l' env fr h (S1 k K)=v2)(hl:(g c m,live S (g c (2*m+1)) out env)=(.seq (g c (2*m)) (g c (2*m+1)),l')):aU rg L G S (g c m) out env fr h K=v2:=by obtain⟨hc,hl⟩:=Prod.mk.inj hl;subst hl;rw[hc];exact e _
theorem bk (id:Nat)(e:aU rg L G S (g c (2*m)) out ((id,out)::env) fr h (fun ex fr' h'=>iE id ex K fr' h')=v1)(hc:g c m=.block id (g c (2*m))):aU rg L G S (g c m) out env fr h K=v1:=by rw[hc];exact e
theorem sc (e:aU rg L G S (g c (2*m)) out env fr h K=v1)(hc:g c m=.scope (g c (2*m))):aU rg L G S (g c m) out env fr h K=v1:=by rw[hc];exact e
theorem cd (e:aU rg L G S (g c (2*m)) out env fr h K=v1)(e2:aU rg L G S (g c (2*m+1)) out env fr h K=v2)(hc:(g c m,aG G fr h (cX (g c m)))=(.cond (cX (g c m)) (g c (2*m)) (g c (2*m+1)),some v)):aU rg L G S (g c m) out env fr h K=aW v v1 v2:=by
 obtain⟨hc,hv⟩:=Prod.mk.inj hc;rw[hc];show(aG G fr h (cX (g c m))).bind (fun v=>aW v (aU rg L G S (g c (2*m)) out env fr h K) (aU rg L G S (g c (2*m+1)) out env fr h K))=_;rw[hv,e,e2];rfl
theorem lp (e:Lw rg L G S (g c (2*m)) l' env L fr1 h K=v1)(hS:(g c m,live S (g c (2*m)) [] env,bQ fr l')=(.loop (g c (2*m)),l',fr1)):aU rg L G S (g c m) out env fr h K=v1:=by
 obtain⟨hc,hS⟩:=Prod.mk.inj hS;obtain⟨hS,hf⟩:=Prod.mk.inj hS;subst hS;subst hf;rw[hc];exact e
end Go.AM.Pw

namespace Go.AM.Pw
open Go Go.AM Go.AM.Pk
abbrev Dm:=FuncId→List Value→H→Prop
abbrev Rl:=FuncId→List Value→H→Value→H→Prop
theorem tw {P:Program}{C:CF}{isR:FuncId→Bool}{dm:Dm}{rl:Rl}{G L nt:Nat}{S:List Tmp}{fr:T Value}{h:H}{f:Nat}{c:Code}{fn:Func}{args:List Value}{X:V→H→Prop}(ok:RelOK P G isR dm rl)(hf:P.funcs[f]?=some fn){v1 v2:O Unit}
 (e:aU (rgP P C G nt isR dm rl) L G S c S [] fr h (qC P fn fun v h=>okU (X v h))=v1) (hb:(fn.body,fn.ntmps,eY fn,Nat.ble args.length nt,gO 0 args)=(some c,nt,S,true,fr)) (hw:v1=v2) (hr:v2=some ()):dC P C isR dm rl L G f args h X:=by
 have hnt:fn.ntmps=nt:=congrArg (fun x=>x.2.1) hb;subst hnt;exact aLi ok hf hb (e.trans (hw.trans hr))
end Go.AM.Pw
