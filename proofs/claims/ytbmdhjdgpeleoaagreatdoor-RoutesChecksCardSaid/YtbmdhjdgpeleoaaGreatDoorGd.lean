import Derived.Test.YtbmdhjdgpeleoaaGreatDoorGc
import Derived.KernelRfl
set_option linter.defProp false
namespace Go.AM
open Go
variable {h:H}{i n:Nat}{Y:Type}{gv v:kA}{l:kC (kA×H)}{g x:kK}
def fs:kC (Nat×kA)→T kA
 |[]=>.nil
 |(t,v)::r=>(fs r).set t (some v)
def bnd {X:Type}(o:kB Y)(f:Y→kB X):kB X:=
 match o with
 |some a=>f a
 |none=>none
def aD {X b:Type}(o:kB (Y×X))(f:Y→X→kB b):kB b:=
 match o with
 |some (a,c)=>f a c
 |none=>none
@[simp] theorem qZ {X:Type}(a:Y)(f:Y→kB X):bnd (some a) f=f a:=(rfl)
@[simp] theorem qX {X b:Type}(a:Y)(c:X)(f:Y→X→kB b):aD (some (a,c)) f=f a c:=(rfl)
def chk (o:kB kA)(v:kA):Bool:=
 match o with
 |some u=>same u v
 |none=>false
def aPx (o:kB kA)(r:kB (kC kA)):kB (kC kA):=
 match o with
 |some v=>(match r with|some s=>some (v::s)|none=>none)
 |none=>none
def cL:Code→Code
 | .seq a _=>a
 | .cond _ a _=>a
 | .block _ b=>b
 | .loop b=>b
 | .scope b=>b
 | .rangeFunc _ _ a _=>a
 |c=>c
def cR:Code→Code
 | .seq _ b=>b
 | .cond _ _ b=>b
 | .rangeFunc _ _ _ b=>b
 |c=>c
section
variable {β:Type}{P:kD}{C:CF}{L NG nt:Nat}{RR Z Y:kC Tmp}{env:kC (Nat×kC Tmp)}{fr:T kA}{K:Ex→T kA→H→kB β}
def aNh (n:T kA→H→kB β)(fr:T kA)(h:H):aHr .normal n K fr h=n fr h:=(rfl)
def bKu (n:T kA→H→kB β)(fr:T kA)(h:H):aHr .ret n K fr h=K .ret fr h:=(rfl)
def wW {c a b:Code}(g:c=.seq a b)(o:live RR b Z env=Y):
 execK P C L NG nt RR c Z env fr h K=execK P C L NG nt RR a Y env fr h fun e f d=>aHr e (fun fr h=>execK P C L NG nt RR b Z env fr h K) K f d:=by
 subst g;subst o;rfl
def aHc {c b:Code}{id:Nat}(d:c=.block id b):
 execK P C L NG nt RR c Z env fr h K=execK P C L NG nt RR b Z ((id,Z)::env) fr h fun e f a=>nX id e K f a:=by
 subst d;rfl
def aLk {c a b:Code}(d:c=.cond x a b)(e:aH NG fr h x=some v):
 execK P C L NG nt RR c Z env fr h K=aP v (execK P C L NG nt RR a Z env fr h K) (execK P C L NG nt RR b Z env fr h K):=by
 subst d;simp only[execK,e,pR]
def aHb {c assign body:Code}{ps:kC Tmp}(b:c=.rangeFunc g ⟨ps⟩ assign body)(d:aH NG fr h g=some gv):
 execK P C L NG nt RR c Z env fr h K=(bif aTj P gv then(callV C gv [.func (.yield h.next) #[] #[]] (h.push (.loop nt fr ps assign body .ready))).bind fun(_,a)=>
  oU h.next a (fun h=>K .normal (bY fr Z) h) (fun h=>K .ret (bY fr RR) h) (exL (env.map fun p=>(p.1,fun h=>K (.exit p.1) (bY fr p.2) h)))else none):=by
 subst b;show(aH NG fr h g).bind _=_;rw[d];rfl
end
abbrev Kv0 (β:Type):=H→kB β
abbrev Kv1 (β:Type):=kA→H→kB β
abbrev Kv2 (β:Type):=kA→kA→H→kB β
abbrev Kv3 (β:Type):=kA→kA→kA→H→kB β
abbrev Kv4 (β:Type):=kA→kA→kA→kA→H→kB β
abbrev Kv5 (β:Type):=kA→kA→kA→kA→kA→H→kB β
abbrev Kv6 (β:Type):=kA→kA→kA→kA→kA→kA→H→kB β
abbrev Kv7 (β:Type):=kA→kA→kA→kA→kA→kA→kA→H→kB β
abbrev Kv8 (β:Type):=kA→kA→kA→kA→kA→kA→kA→kA→H→kB β
abbrev Kv9 (β:Type):=kA→kA→kA→kA→kA→kA→kA→kA→kA→H→kB β
abbrev cNz (β:Type):=kA→kA→kA→kA→kA→kA→kA→kA→kA→kA→H→kB β
abbrev cNy (β:Type):=kA→kA→kA→kA→kA→kA→kA→kA→kA→kA→kA→H→kB β
open Go.RowKit
section
variable {P:kD}{NG nt:Nat}{w0:kE}
def tD {c:Code}{Q b:Exit→Act→kE→Prop}(q:∀e a w,Q e a w→b e a w):∀(m:Nat) (a:Act) (w:kE),Code.roundsIn (Fr none) 0 P c Q m a w→Code.roundsIn (Fr none) 0 P c b m a w
 |0,_,_,h=>h
 |m+1,a,w,h=>by
  rw[roundsIn_succ]at h⊢;refine wpIn_mono h fun e f w1 d=>?_
  cases e with
  |normal=>exact tD q m _ _ d
  |_=>exact q _ _ _ d
end
namespace F
noncomputable section
end
end F
abbrev OL:=kC (Ex×T kA×H)
def Step.drawn {n:Nat}{M:Mu}{h:H}{w:kE}(r:RH n M h w)(c:Nat):Step n M h w M h {w with drawn:=c} where
  wf:=r.wf
  le:=fun _ _ h=>h
  old:=fun _ _=>rfl
  out:=fun _ _=>rfl
  next:=kQ _
  rh:=⟨r.ng,r.wf,r.br,r.inj,r.bd,r.gl⟩
  size:=kQ _
  os:=rfl
  tape:=rfl
  output:=rfl
  frame:=fun _ _ _=>rfl
  src:=fun id k l a _ b=>.inr ⟨id,k,l,a,‹_›,b,rfl⟩
  unm:=fun _ _ h _=>h
  dead:=fun _ _ h=>h
  ro:=fun _ _ h _=>h
def A.a (x:kA)(h:H):kB (kC (kA×H)):=
  match x with
  | .pointer (some ⟨id,0,none⟩)=>match h.get id with
    |some (.miter (some m) since seen last)=>match h.get m with
      |some (.map es clock)=>
        bif !seen.isEmpty&&!es.isEmpty&&es.all (fun e=>Nat.ble last e.born)then none else
          (match es.filter fun e=>!A.zW seen e with
           |[]=>none
           |e::r=>bif (e::r).all (fun e=>Nat.blt e.born since)then some ((e::r).map fun e=>(.tuple ⟨[.bool true,e.key,e.val]⟩,h.put id (.miter (some m) since (seen++[e.born]) clock)))else none)
      |_=>none
    |_=>none
  |_=>none
section
variable {P:kD}{NG nt:Nat}{C:CF}{μ:Mu}{w:kE}
def aLp (b:0<n)(w:kE):∃k d,k<n∧(choose (.mapNext n)).run P w=.ok k {w with drawn:=d}:=by
  by_cases a:n≤1
  ·refine⟨0,w.drawn,b,?_⟩;simp[choose,Sem.run,Question.forced,a]
  ·refine⟨(Question.mapNext n).cut (w.tape w.drawn (.mapNext n)),w.drawn+1,Nat.mod_lt _ b,?_⟩;simp[choose,Sem.run,Question.forced,a]
def aLj {p:Y→Bool}{l:kC Y}(h:l.all p=true):l.filter p=l:=List.filter_eq_self.2 (mB.1 h)
def EsR.get {s:kC Ent}{b:kC kJ}(r:EsR μ s b){c:kJ}(d:b[i]?=some c):∃e,s[i]?=some e∧aJ e.key=true∧ER μ e c:=by
  have l:i<s.length:=by
    have:=(pX.1 d).1;have:=r.1;omega
  have f:=kZ l;obtain⟨p,j,a,g⟩:=r.2 i _ f;rw[d]at a;obtain rfl:=pB a;exact⟨_,f,p,g⟩
def aEv (r:RH NG μ h w){x:kA}(g:A.a v h=some l)(rx:VR μ v x)(ty:kF):
    ∃o∈l,∃cv w',(Instr.next x false ty).run P w=.ok cv w'∧Step NG μ h w μ o.2 w'∧VR μ o.1 cv:=by
  unfold A.a at g;split at g
  ·rename_i id;obtain⟨l0,hl,_⟩:=rx.ptr_inv;split at g
   ·rename_i m f s t hg;obtain⟨h0,m',hm,j⟩:=r.br _ _ _ hg hl;obtain⟨bm,rfl⟩:∃bm,m'=some bm:=by cases m' with
      |none=>exact hm.elim
      |some b=>exact⟨b,rfl⟩
    obtain⟨lm,Z,rfl⟩:=hm;rw[rx.iter_inv hl h0];have l3:l0.blk<w.heap.size:=(sT.1 j).1;have k3:(getObj l0.blk).run P w=.ok (.mapIter (some lm.blk) f ⟨s⟩ t) w:=by simp only[getObj,Sem.run,j]
    split at g
    ·rename_i S z j3;obtain⟨⟨y⟩,g3,D⟩:=r.map j3 Z;have D:EsR μ S y:=D;have Y:(getObj lm.blk).run P w=.ok (.map ⟨y⟩ z) w:=by simp only[getObj,Sem.run,g3]
     have V:((⟨y⟩:kH kJ).all fun e=>decide (e.born≥t))=S.all fun e=>Nat.ble t e.born:=by
       rw[show(⟨y⟩:kH kJ)=y.toArray from rfl,List.all_toArray];exact D.all fun e c j=>by rw[j,mR,pW,ble_iff]
     have W:(⟨y⟩:kH kJ).isEmpty=S.isEmpty:=by rw[←D.isEmpty];cases y<;>rfl
     have N:(⟨s⟩:kH Nat).isEmpty=s.isEmpty:=by cases s<;>rfl
     have E:(⟨y⟩:kH kJ).filter (fun e=>!(⟨s⟩:kH Nat).contains e.born)=⟨y.filter fun e=>!(⟨s⟩:kH Nat).contains e.born⟩:=by
       rw[show(⟨y⟩:kH kJ)=y.toArray from rfl,List.filter_toArray]
     have u:=D.filter (q:=fun c=>!(⟨s⟩:kH Nat).contains c.born) (p:=fun e=>!A.zW s e) fun e c j=>aDz s e c j
     cases B:(!s.isEmpty&&!S.isEmpty&&S.all fun e=>Nat.ble t e.born)with
     |true=>rw[B]at g;simp at g
     |false=>
       rw[B]at g;simp only[sW]at g;split at g
       ·simp at g
       ·rename_i e0 f3 e3;obtain⟨G,g⟩:=aB g;rw[e3]at u;obtain⟨L,hL⟩:=eX (y.filter fun e=>!(⟨s⟩:kH Nat).contains e.born);rw[←hL]at u E;obtain⟨ES,U⟩:=eX (e0::f3);rw[←U]at u G g;have J:0<L.length:=by
          have:=u.1;rw[this,U];simp
        have I:L.all (fun c=>decide (c.born<f))=true:=by
          rw[u.all (p:=fun e=>Nat.blt e.born f) fun e c j=>by rw[j,mR,pW,blt_iff]];exact G
        have Q:L.filter (fun c=>decide (c.born≥f))=[]:=by
          rw[List.filter_eq_nil_iff];intro c hc;have:=mB.1 I c hc;simp only[pW]at this;simp only[pW];omega
        have d3:(⟨L⟩:kH kJ).filter (fun e=>decide (e.born<f))=⟨L⟩:=by
          rw[show(⟨L⟩:kH kJ)=L.toArray from rfl,List.filter_toArray,aLj I]
        have b3:(⟨L⟩:kH kJ).filter (fun e=>decide (e.born≥f))=#[]:=by
          rw[show(⟨L⟩:kH kJ)=L.toArray from rfl,List.filter_toArray,Q]
        have m3:(⟨L⟩:kH kJ).isEmpty=false:=by
          cases L with
          |nil=>simp at J
          |cons c L=>rfl
        obtain⟨k,d,hk,i3⟩:=aLp (P:=P) J w;have O:L[k]?=some L[k]:=kZ hk;obtain⟨e,he,hp,hr⟩:=u.get O;obtain⟨c,hc⟩:=eX (L[k]);rw[←hc]at O hr;simp only[kP]at g;subst g;have a3:e∈ES:=sY he;refine⟨_,mW.2 ⟨e,a3,rfl⟩,.tuple #[.bool true,c.key,c.val],setObj {w with drawn:=d} l0.blk (.mapIter (some lm.blk) f ⟨s++[e.born]⟩ z),?_,?_,?_⟩
        ·have R:(⟨s⟩:kH Nat).push c.born=⟨s++[e.born]⟩:=by rw[hr.2.1];apply Array.ext';simp
         have n3:∀o,(Go.setObj l0.blk o).run P {w with drawn:=d}=.ok () (setObj {w with drawn:=d} l0.blk o):=fun o=>by simp[Go.setObj,Sem.run,j,setObj]
         have M:((if(⟨L⟩:kH kJ).isEmpty then #[none]else #[])++((⟨L⟩:kH kJ)++#[]).map some:kH (kB kJ))=(⟨L⟩:kH kJ).map some:=by
           rw[m3];simp
         have o3:((⟨L⟩:kH kJ).map some).size=L.length:=by simp
         have X:((⟨L⟩:kH kJ).map some)[k]?=some (some c):=by
           rw[Array.getElem?_map];show((⟨L⟩:kH kJ)[k]?).map some=_;have:(⟨L⟩:kH kJ)[k]?=L[k]?:=by simp
           rw[this,O];rfl
         simp only[Instr.next,pD,k3,pC,Y,W,N,V,B,E,d3,b3,pP,mD];rw[M,o3,i3];simp only[pC,X,pD,R,n3,pG]
        ·exact(Step.drawn r d).trans (Step.write (Step.drawn r d).rh hg rfl rfl hl ⟨h0,some lm.blk,⟨lm,Z,rfl⟩,bJ l3⟩)
        ·refine .tuple [.bool true,e.key,e.val] [.bool true,c.key,c.val] rfl fun i a b K j=>?_
         match i with
         |0=>simp at K j;subst K;subst j;exact .bool true
         |1=>simp at K j;subst K;subst j;rw[hr.1];exact VR.of_plain _ _ hp
         |2=>simp at K j;subst K;subst j;exact hr.2.2
         |n+3=>simp at K
    ·simp at g
   ·simp at g
  ·simp at g
end
def bNp (P:kD)(NG nt:Nat)(c:Code)(f:T kA)(h:H)(N:Nat)(l:OL):Prop:=
  (∀o∈l,o.2.2.next≤N)∧∀(μ:Mu) (a:Act) (w:kE),RH NG μ h w→Fresh μ h.next N→FR nt μ f a→
    c.wpIn (Fr none) 0 P (fun e b d=>∃o∈l,ExR o.1 e∧StepTo NG nt μ h w a o.2.1 o.2.2 b d) a w
def vB (f:kA→H→kB (Ex×T kA×H)):kC (kA×H)→kB OL
  |[]=>some []
  |(v,h)::r=>match f v h,vB f r with|some o,some l=>some (o::l)|_,_=>none
def nE (P:kD)(C:CF)(NG nt:Nat)(ops:kH Oper)(d:Bool)(f:T kA)(h:H):kB OL:=
  bif gC nt ops&&!d then
  (match ops.toList with
   |⟨dst,.next x false,ty,pos,after,none⟩::rest=>(match aH NG f h x with
     |some v=>(match A.a v h with
       |some l=>vB (fun v h=>runOps P C NG ops rest (cS f dst (some v)) h fun f h=>some (.normal,f,h)) l
       |none=>none)
     |none=>none)
   |_=>none)
  else none
section
variable {P:kD}{NG nt N:Nat}{C:CF}
def ExR.nor {e:Ex}(h:ExR e .normal):e=.normal:=by cases e<;>first|rfl|exact h.elim
def ExR.not {x:Ex}{e:Exit}(h:ExR x e)(n:e≠.normal):x≠.normal:=fun a=>by subst a;cases e<;>first|exact n rfl|exact h.elim
def aDr {f:kA→H→kB (Ex×T kA×H)}:∀{l:kC (kA×H)} {ol:OL},vB f l=some ol→∀o∈l,∃x∈ol,f o.1 o.2=some x
  |[],ol,h,o,a=>by simp at a
  |(v,h0)::r,ol,h,o,a=>by
    simp only[vB]at h;split at h
    ·rename_i x l c b;simp only[kP]at h;subst h;rcases sI.1 a with rfl|a
     ·exact⟨x,mO,c⟩
     ·obtain⟨y,d,e⟩:=aDr b o a;exact⟨y,mL _ d,e⟩
    ·simp at h
def aGt (b:A.a v h=some l):(∀o∈l,o.2.next=h.next):=by
  unfold A.a at b;split at b
  ·split at b
   ·rename_i m i s d _;split at b
    ·rename_i g f _
     cases c:(!s.isEmpty&&!g.isEmpty&&g.all fun e=>Nat.ble d e.born)with
     |true=>rw[c]at b;simp at b
     |false=>
       rw[c]at b;simp only[sW]at b;split at b
       ·simp at b
       ·obtain⟨_,b⟩:=aB b;simp only[kP]at b;subst b;intro o j;obtain⟨e,_,rfl⟩:=mW.1 j;rfl
    ·simp at b
   ·simp at b
  ·simp at b
def aGy (L:aL P=true)(hC:aO P NG C){id:Nat}{O:kH Oper}{J:Bool}{f:T kA}{l:OL}(r:nE P C NG nt O J f h=some l)(R:∀o∈l,o.2.2.next≤N):bNp P NG nt (.region id O J) f h N l:=by
  unfold nE at r;obtain⟨S,k⟩:=aB r;replace r:=k;clear k;simp only[pA,Bool.not_eq_true']at S;obtain⟨U,rfl⟩:=S;split at r
  ·rename_i s x y p b i e;split at r
   ·rename_i v hv;split at r
    ·rename_i nl n;have m:=aDr r;have V:O[0]?=some ⟨s,.next x false,y,p,b,none⟩:=by
       have:O.toList[0]?=some ⟨s,.next x false,y,p,b,none⟩:=by rw[e];rfl
       simpa using this
     have G:O.size=(O.size-1)+1:=by
       have:0<O.toList.length:=by rw[e];simp
       simp at this;omega
     have j:O.toList.drop 1=i:=by rw[e];rfl
     have z:=aFv U V;refine⟨R,fun μ a w W hf e3=>wpIn_region ?_⟩;have g:List.range O.size=0::List.range' 1 (O.size-1):=by
       rw[List.range_eq_range',G,List.range'_succ];simp
     rw[g,wpOpsIn_cons];unfold wpOpIn;have hw:Region.wanted ⟨s,.next x false,y,p,b,none⟩ (yielded O a.tmps)=true:=by simp[Region.wanted]
     simp only[V,hw,mE];obtain⟨o,c,Q,X,q,t,I⟩:=aEv (P:=P) W n ((e3.ev W) x v hv) y;obtain⟨Y,u,E⟩:=m o c;have B:(execOp a.eval ⟨s,.next x false,y,p,b,none⟩).run P w=.ok (.value Q) X:=by simp only[execOp,pD,q,pC,pG]
     refine⟨fun _ _=>trivial,?_⟩;show Oper.uponIn (Fr none) 0 P _ a _ _ ((Oper.semAt none a.eval _).run P w);rw[cV P B (fun d=>by simp) none];obtain⟨a3,h1,D,hle,hs⟩:=gU L hC U i 1 _ _ j E;simp only[kP]at D;have b3:o.2.next=h.next:=aGt n o c;have K:h1.next≤N:=by
       have:=R Y u;rw[←D]at this;exact this
     refine hs μ (a.put s Q) X t.rh (fun id e1 Z=>hf id (by omega) (kT Z K)) (e3.put z (rv:=some o.1) I) none _ fun a' d3 ⟨M,st,f',d⟩=>?_;refine⟨Y,u,?_⟩;rw[←D];exact⟨trivial,M,t.trans st,f',by rw[d,gE];exact Marks.refl _ _ _⟩
    ·simp at r
   ·simp at r
  ·simp at r
end
end Go.AM
