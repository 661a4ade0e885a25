import Derived.Test.YtpanfoafajepcaaGreatDoorGd
import Derived.Test.YtpanfoafajepcaaGreatDoorGe
namespace Go.AM.F
open Go Go.AM
noncomputable section
@[reducible] def ob {α β:Type}(o:Option α)(f:α→Option β):Option β:=Option.rec none f o
@[reducible] def ob2 {α γ β:Type}(o:Option (α×γ))(f:α→γ→Option β):Option β:=Option.rec none (fun p=>Prod.rec f p) o
@[reducible] def bOn {α:Type}(b:Bool)(x y:α):α:=Bool.rec y x b
def bKr {α:Type}(t:T α):Nat→Option α:=
 T.rec (motive:=fun _=>Nat→Option α) (fun _=>none)
  (fun _ v _ gl gr k=>Nat.rec v (fun p _=>Bool.rec (gl (Nat.div p 2)) (gr (Nat.div (Nat.sub p 1) 2)) (Nat.beq (Nat.mod p 2) 1)) k) t
def aXp {α:Type}(x:Option α)(_:Nat)(ih:T α→Nat→T α)(t:T α)(k:Nat):T α:=
 T.rec (motive:=fun _=>T α)
  (Nat.rec (.node .nil x .nil) (fun p _=>Bool.rec (.node (ih .nil (Nat.div p 2)) none .nil) (.node .nil none (ih .nil (Nat.div (Nat.sub p 1) 2))) (Nat.beq (Nat.mod p 2) 1)) k)
  (fun l v r _ _=>Nat.rec (.node l x r) (fun p _=>Bool.rec (.node (ih l (Nat.div p 2)) v r) (.node l v (ih r (Nat.div (Nat.sub p 1) 2))) (Nat.beq (Nat.mod p 2) 1)) k) t
def aXq {α:Type}(x:Option α)(f:Nat):T α→Nat→T α:=Nat.rec (motive:=fun _=>T α→Nat→T α) (fun t _=>t) (aXp x) f
def aOp {α:Type}(t:T α)(k:Nat)(x:Option α):T α:=aXq x (Nat.succ k) t k
def gX (h:H)(id:Nat):Option Blk:=bKr h.m id
def aJl (h:H)(id:Nat)(b:Blk):H:=H.rec (fun m n=>⟨aOp m id (some b),n⟩) h
def aJz (h:H)(b:Blk):H:=H.rec (fun m n=>⟨aOp m n (some b),Nat.succ n⟩) h
section
variable {α β:Type}
end
section
variable {γ:Type}
def vE (fb:Bool→γ)(fi:IntKind→Int→γ)(fs:ByteArray→γ)(fp:Option Addr→γ)(fl:Option Addr→Nat→Nat→γ)(fa:Array Value→γ)(ft:Array Value→γ)(d:Value→γ)(v:Value):γ:=
 Value.rec (motive_1:=fun _=>γ) (motive_2:=fun _=>PUnit) (motive_3:=fun _=>PUnit) fb fi (fun k b=>d (.float k b)) (fun k a b=>d (.complex k a b)) fs fp fl (fun r=>d (.map r)) (fun r=>d (.chan r))
  (fun f a b _ _=>d (.func f a b)) (d .nilFunc) (fun t v _=>d (.iface t v)) (d .nilIface) (fun a _=>fa a) (fun a _=>ft a) (fun _ _=>⟨⟩) ⟨⟩ (fun _ _ _ _=>⟨⟩) v
end
def ptr {β:Type}(v:Value)(K:Nat→Nat→Option β):Option β:=
 vE (fun _=>none) (fun _ _=>none) (fun _=>none) (fun a=>Option.rec (motive:=fun _=>Option β) none (fun a=>Addr.rec (motive:=fun _=>Option β) (fun id off s=>Option.rec (motive:=fun _=>Option β) (K id off) (fun _=>none) s) a) a)
  (fun _ _ _=>none) (fun _=>none) (fun _=>none) (fun _=>none) v
end
end Go.AM.F

namespace Go.AM.F
open Go Go.AM
noncomputable section
section
variable {β:Type}
def gd (ops:Array Oper)(j:Nat):Option Tmp:=(ops[j]?).bind (·.dst)
end
end
end Go.AM.F

namespace Go.AM
open Go Go.RowKit
structure Inv0 (NG:Nat)(w0:World)(μ:Mu)(h:H)(w:World):Prop where
 rh:RH NG μ h w
 fresh:∀id,h.next≤id→μ id=none
 own:∀id k l,h.get id=some k→k.owned=true→μ id=some l→w0.heap.size≤l.blk
 below:Below w0.heap.size w0 w
section
variable {P:Program}{NG nt:Nat}{w0:World}
theorem Inv0.step {μ μ':Mu}{h h':H}{w w':World}(i:Inv0 NG w0 μ h w)(s:Step NG μ h w μ' h' w'):Inv0 NG w0 μ' h' w' where
 rh:=s.rh
 fresh:=fun id hid=>by rw[s.out id hid];exact i.fresh id (kG s.next hid)
 own:=fun id k l hk ho hl=>by
  rcases s.src id k l hk ho hl with h1|⟨id0,k0,l0,e1,e2,e3,e4⟩
  ·exact kG i.below.size h1
  ·rw[←e4];exact i.own id0 k0 l0 e1 e2 e3
 below:=i.below.trans ⟨s.os,s.tape,s.output,s.size,fun k hk=>s.frame k (kH hk i.below.size) fun id c l hc ho hl e=>by
  have:=i.own id c l hc ho hl;omega⟩
structure bOi (h' h:H):Prop where
 get:∀id b,h'.get id=some b→h.get id=some b
 next:h.next≤h'.next
theorem Inv0.sub {μ:Mu}{h h':H}{w:World}(i:Inv0 NG w0 μ h w)(s:bOi h' h):Inv0 NG w0 μ h' w where
 rh:=⟨kG i.rh.ng s.next,fun id b hb=>kH (i.rh.wf id b (s.get id b hb)) s.next,fun id b l hb hl=>i.rh.br id b l (s.get id b hb) hl,
  fun id b l id' b' l' hb ho hl hb' hl' hne=>i.rh.inj id b l id' b' l' (s.get id b hb) ho hl (s.get id' b' hb') hl' hne,i.rh.bd,i.rh.gl⟩
 fresh:=fun id hid=>i.fresh id (kG s.next hid)
 own:=fun id k l hk ho hl=>i.own id k l (s.get id k hk) ho hl
 below:=i.below
def ClP (NG nt:Nat)(w0:World)(ex:Ex)(fr':T Value)(h':H)(a:Act)(w:World)(e:Exit)(a':Act)(w':World):Prop:=
 ExR ex e∧∃μ',Inv0 NG w0 μ' h' w'∧FR nt μ' fr' a'∧w.heap.size≤w'.heap.size∧(∀(b:Nat) (d:Option (List Deferred)),w.heap[b]?=some (.deferred d)→w'.heap[b]?=some (.deferred d))∧Marks a.defers a'.defers w.heap.size w'
theorem ClP.trans {ex ex2:Ex}{fr1 fr2:T Value}{h1 h2:H}{a a1 a2:Act}{w w1 w2:World}{e e2:Exit}(x:ClP NG nt w0 ex fr1 h1 a w e a1 w1)(y:ClP NG nt w0 ex2 fr2 h2 a1 w1 e2 a2 w2):ClP NG nt w0 ex2 fr2 h2 a w e2 a2 w2:=by
 obtain⟨_,μ1,i1,f1,s1,d1,ms1,m1,n1,g1⟩:=x;obtain⟨he,μ2,i2,f2,s2,d2,ms2,m2,n2,g2⟩:=y;refine⟨he,μ2,i2,f2,kG s1 s2,fun b d hb=>d2 b d (d1 b d hb),ms2++ms1,by rw[m2,m1];simp,?_,fun r hr=>?_⟩
 ·rw[List.nodup_append];refine⟨n2,n1,fun x hx y hy hxy=>?_⟩;subst hxy;have h1:=(g2 x hx).1;have h2:=(Array.getElem?_eq_some_iff.1 (g1 x hy).2).1;omega
 ·rcases List.mem_append.1 hr with hr|hr
  ·exact⟨kG s1 (g2 r hr).1,(g2 r hr).2⟩
  ·exact⟨(g1 r hr).1,d2 _ _ (g1 r hr).2⟩
theorem lJ {c:Code}{Q Q':Exit→Act→World→Prop}(hq:∀e a w,Q e a w→Q' e a w):∀(m:Nat) (a:Act) (w:World),Code.roundsIn (Fr none) 0 P c Q m a w→Code.roundsIn (Fr none) 0 P c Q' m a w
 |0,_,_,h=>h
 |m+1,a,w,h=>by
  rw[roundsIn_succ]at h⊢;refine wpIn_mono h fun e a1 w1 h1=>?_
  cases e with
  |normal=>exact lJ hq m _ _ h1
  |_=>exact hq _ _ _ h1
end
namespace F
noncomputable section
def bJr:List Ent→List Ent→Bool
 |[],[]=>true
 |a::r,b::s=>same a.key b.key&&same a.val b.val&&Nat.beq a.born b.born&&bJr r s
 |_,_=>false
def bLi:Option Nat→Option Nat→Bool
 |none,none=>true
 |some a,some b=>Nat.beq a b
 |_,_=>false
def bNs:Blk→Blk→Bool
 | .cells a o,.cells b p=>sameL a b&&bLi o p
 | .map a c,.map b d=>bJr a b&&Nat.beq c d
 |_,_=>false
def bB (b:Blk)(o:Option Blk):Bool:=Option.rec (motive:=fun _=>Bool) false (fun c=>bNs b c) o
def frL (l:List (Nat×Value)):T Value:=List.rec (motive:=fun _=>T Value) .nil (fun x _ ih=>Prod.rec (motive:=fun _=>T Value) (fun t v=>aOp ih t (some v)) x) l
def hL (l:List (Nat×Blk))(n:Nat):H:=⟨List.rec (motive:=fun _=>T Blk) .nil (fun x _ ih=>Prod.rec (motive:=fun _=>T Blk) (fun t v=>aOp ih t (some v)) x) l,n⟩
end
end F
end Go.AM

namespace Go.AM
open Go Go.RowKit
abbrev OL:=List (Ex×T Value×H)
theorem Step.drawn {NG:Nat}{μ:Mu}{h:H}{w:World}(r:RH NG μ h w)(n:Nat):Step NG μ h w μ h {w with drawn:=n} where
  wf:=r.wf
  le:=fun _ _ h=>h
  old:=fun _ _=>rfl
  out:=fun _ _=>rfl
  next:=kF _
  rh:=⟨r.ng,r.wf,r.br,r.inj,r.bd,r.gl⟩
  size:=kF _
  os:=rfl
  tape:=rfl
  output:=rfl
  frame:=fun _ _ _=>rfl
  src:=fun id k l hk _ hl=>.inr ⟨id,k,l,hk,‹_›,hl,rfl⟩
  unm:=fun _ _ h _=>h
  dead:=fun _ _ h=>h
  ro:=fun _ _ h _=>h
def A.a (x:Value)(h:H):Option (List (Value×H)):=
  match x with
  | .pointer (some ⟨id,0,none⟩)=>match h.get id with
    |some (.miter (some m) since seen last)=>match h.get m with
      |some (.map es clock)=>
        bif !seen.isEmpty&&!es.isEmpty&&es.all (fun e=>Nat.ble last e.born)then none else
          (match es.filter fun e=>!A.zW seen e with
           |[]=>none
           |e::r=>bif (e::r).all (fun e=>Nat.blt e.born since)then some ((e::r).map fun e=>(.tuple ⟨[.bool true,e.key,e.val]⟩,h.put id (.miter (some m) since (seen++[e.born]) clock)))else none)
      |_=>none
    |_=>none
  |_=>none
section
variable {P:Program}{NG nt:Nat}{C:CF}{μ:Mu}{h:H}{w:World}
theorem aBv {n:Nat}(hn:0<n)(w:World):∃k d,k<n∧(choose (.mapNext n)).run P w=.ok k {w with drawn:=d}:=by
  by_cases h1:n≤1
  ·refine⟨0,w.drawn,hn,?_⟩;simp[choose,Sem.run,Question.forced,h1]
  ·refine⟨(Question.mapNext n).cut (w.tape w.drawn (.mapNext n)),w.drawn+1,Nat.mod_lt _ hn,?_⟩;simp[choose,Sem.run,Question.forced,h1]
theorem aBq {α:Type}{p:α→Bool}{l:List α}(h:l.all p=true):l.filter p=l:=List.filter_eq_self.2 (List.all_eq_true.1 h)
theorem EsR.get {es:List Ent}{cl:List MapEntry}(r:EsR μ es cl){i:Nat}{c:MapEntry}(hc:cl[i]?=some c):∃e,es[i]?=some e∧aJ e.key=true∧ER μ e c:=by
  have hlt:i<es.length:=by
    have:=(List.getElem?_eq_some_iff.1 hc).1;have:=r.1;omega
  have he:=kN hlt;obtain⟨hp,c',hc',hr⟩:=r.2 i _ he;rw[hc]at hc';obtain rfl:=kP hc';exact⟨_,he,hp,hr⟩
theorem uS (r:RH NG μ h w){x cx:Value}{l:List (Value×H)}(hv:A.a x h=some l)(rx:VR μ x cx)(ty:TypeId):
    ∃o∈l,∃cv w',(Instr.next cx false ty).run P w=.ok cv w'∧Step NG μ h w μ o.2 w'∧VR μ o.1 cv:=by
  unfold A.a at hv;split at hv
  ·rename_i id;obtain⟨l0,hl,_⟩:=rx.ptr_inv;split at hv
   ·rename_i m since seen last hg;obtain⟨h0,m',hm,hb⟩:=r.br _ _ _ hg hl;obtain⟨bm,rfl⟩:∃bm,m'=some bm:=by cases m' with
      |none=>exact hm.elim
      |some b=>exact⟨b,rfl⟩
    obtain⟨lm,hlm,rfl⟩:=hm;rw[rx.iter_inv hl h0];have hlt:l0.blk<w.heap.size:=(Array.getElem?_eq_some_iff.1 hb).1;have hgo:(getObj l0.blk).run P w=.ok (.mapIter (some lm.blk) since ⟨seen⟩ last) w:=by simp only[getObj,Sem.run,hb]
    split at hv
    ·rename_i es clock hgm;obtain⟨⟨cl⟩,hbm,hes⟩:=r.map hgm hlm;have hes:EsR μ es cl:=hes;have hgm':(getObj lm.blk).run P w=.ok (.map ⟨cl⟩ clock) w:=by simp only[getObj,Sem.run,hbm]
     have hall:((⟨cl⟩:Array MapEntry).all fun e=>decide (e.born≥last))=es.all fun e=>Nat.ble last e.born:=by
       rw[show(⟨cl⟩:Array MapEntry)=cl.toArray from rfl,List.all_toArray];exact hes.all fun e c hb=>by rw[hb,Bool.eq_iff_iff,pJ,ble_iff]
     have hemp:(⟨cl⟩:Array MapEntry).isEmpty=es.isEmpty:=by rw[←hes.isEmpty];cases cl<;>rfl
     have hemp2:(⟨seen⟩:Array Nat).isEmpty=seen.isEmpty:=by cases seen<;>rfl
     have hleft:(⟨cl⟩:Array MapEntry).filter (fun e=>!(⟨seen⟩:Array Nat).contains e.born)=⟨cl.filter fun e=>!(⟨seen⟩:Array Nat).contains e.born⟩:=by
       rw[show(⟨cl⟩:Array MapEntry)=cl.toArray from rfl,List.filter_toArray]
     have hfl:=hes.filter (q:=fun c=>!(⟨seen⟩:Array Nat).contains c.born) (p:=fun e=>!A.zW seen e) fun e c hb=>uA seen e c hb
     cases hcnd:(!seen.isEmpty&&!es.isEmpty&&es.all fun e=>Nat.ble last e.born)with
     |true=>rw[hcnd]at hv;simp at hv
     |false=>
       rw[hcnd]at hv;simp only[cond_false]at hv;split at hv
       ·simp at hv
       ·rename_i e0 es1 hone;obtain⟨hold1,hv⟩:=aA hv;rw[hone]at hfl;obtain⟨L,hL⟩:∃L,L=cl.filter fun e=>!(⟨seen⟩:Array Nat).contains e.born:=⟨_,rfl⟩;rw[←hL]at hfl hleft;obtain⟨ES,hES⟩:∃ES,ES=e0::es1:=⟨_,rfl⟩;rw[←hES]at hfl hold1 hv;have hlen:0<L.length:=by
          have:=hfl.1;rw[this,hES];simp
        have hold2:L.all (fun c=>decide (c.born<since))=true:=by
          rw[hfl.all (p:=fun e=>Nat.blt e.born since) fun e c hb=>by rw[hb,Bool.eq_iff_iff,pJ,blt_iff]];exact hold1
        have hnew0:L.filter (fun c=>decide (c.born≥since))=[]:=by
          rw[List.filter_eq_nil_iff];intro c hc;have:=List.all_eq_true.1 hold2 c hc;simp only[pJ]at this;simp only[pJ];omega
        have hold:(⟨L⟩:Array MapEntry).filter (fun e=>decide (e.born<since))=⟨L⟩:=by
          rw[show(⟨L⟩:Array MapEntry)=L.toArray from rfl,List.filter_toArray,aBq hold2]
        have hnew:(⟨L⟩:Array MapEntry).filter (fun e=>decide (e.born≥since))=#[]:=by
          rw[show(⟨L⟩:Array MapEntry)=L.toArray from rfl,List.filter_toArray,hnew0]
        have hne:(⟨L⟩:Array MapEntry).isEmpty=false:=by
          cases L with
          |nil=>simp at hlen
          |cons c L=>rfl
        obtain⟨k,d,hk,hch⟩:=aBv (P:=P) hlen w;have hkL:L[k]?=some L[k]:=kN hk;obtain⟨e,he,hp,hr⟩:=hfl.get hkL;obtain⟨c,hc⟩:∃c,c=L[k]:=⟨_,rfl⟩;rw[←hc]at hkL hr;simp only[kE]at hv;subst hv;have hmem:e∈ES:=List.mem_of_getElem? he;refine⟨_,List.mem_map.2 ⟨e,hmem,rfl⟩,.tuple #[.bool true,c.key,c.val],setObj {w with drawn:=d} l0.blk (.mapIter (some lm.blk) since ⟨seen++[e.born]⟩ clock),?_,?_,?_⟩
        ·have aJz:(⟨seen⟩:Array Nat).push c.born=⟨seen++[e.born]⟩:=by rw[hr.2.1];apply Array.ext';simp
         have hso:∀o,(Go.setObj l0.blk o).run P {w with drawn:=d}=.ok () (setObj {w with drawn:=d} l0.blk o):=fun o=>by simp[Go.setObj,Sem.run,hb,setObj]
         have hcand:((if(⟨L⟩:Array MapEntry).isEmpty then #[none]else #[])++((⟨L⟩:Array MapEntry)++#[]).map some:Array (Option MapEntry))=(⟨L⟩:Array MapEntry).map some:=by
           rw[hne];simp
         have hsz:((⟨L⟩:Array MapEntry).map some).size=L.length:=by simp
         have gX:((⟨L⟩:Array MapEntry).map some)[k]?=some (some c):=by
           rw[Array.getElem?_map];show((⟨L⟩:Array MapEntry)[k]?).map some=_;have:(⟨L⟩:Array MapEntry)[k]?=L[k]?:=by simp
           rw[this,hkL];rfl
         simp only[Instr.next,kR,hgo,kQ,hgm',hemp,hemp2,hall,hcnd,hleft,hold,hnew,pB,if_false,kS];rw[hcand,hsz,hch];simp only[kQ,gX,kR,aJz,hso,kS]
        ·exact(Step.drawn r d).trans (Step.write (Step.drawn r d).rh hg rfl rfl hl ⟨h0,some lm.blk,⟨lm,hlm,rfl⟩,bA hlt⟩)
        ·refine .tuple [.bool true,e.key,e.val] [.bool true,c.key,c.val] rfl fun i a b ha hb=>?_
         match i with
         |0=>simp at ha hb;subst ha;subst hb;exact .bool true
         |1=>simp at ha hb;subst ha;subst hb;rw[hr.1];exact VR.of_plain _ _ hp
         |2=>simp at ha hb;subst ha;subst hb;exact hr.2.2
         |n+3=>simp at ha
    ·simp at hv
   ·simp at hv
  ·simp at hv
end
def CodesN (P:Program)(NG nt:Nat)(c:Code)(fr:T Value)(h:H)(N:Nat)(l:OL):Prop:=
  (∀o∈l,o.2.2.next≤N)∧∀(μ:Mu) (a:Act) (w:World),RH NG μ h w→Fresh μ h.next N→FR nt μ fr a→
    c.wpIn (Fr none) 0 P (fun e a' w'=>∃o∈l,ExR o.1 e∧StepTo NG nt μ h w a o.2.1 o.2.2 a' w') a w
def mN (f:Value→H→Option (Ex×T Value×H)):List (Value×H)→Option OL
  |[]=>some []
  |(v,h)::r=>match f v h,mN f r with|some o,some l=>some (o::l)|_,_=>none
def gN (P:Program)(C:CF)(NG nt:Nat)(ops:Array Oper)(draw:Bool)(fr:T Value)(h:H):Option OL:=
  bif dJ nt ops&&!draw then
  (match ops.toList with
   |⟨dst,.next x false,ty,pos,after,none⟩::rest=>(match aG NG fr h x with
     |some v=>(match A.a v h with
       |some l=>mN (fun v h=>runOps P C NG ops rest (bU fr dst (some v)) h fun fr h=>some (.normal,fr,h)) l
       |none=>none)
     |none=>none)
   |_=>none)
  else none
section
variable {P:Program}{NG nt N:Nat}{C:CF}
theorem CodesN.one {c:Code}{fr:T Value}{h:H}{ex:Ex}{fr':T Value}{h':H}(x:wE P NG nt c fr h ex fr' h')(hN:h'.next≤N):CodesN P NG nt c fr h N [(ex,fr',h')]:=
  ⟨fun o ho=>by simp only[List.mem_singleton]at ho;subst ho;exact hN,fun μ a w rh hf f=>wpIn_mono (x.2 μ a w rh (fun id e1 e2=>hf id e1 (kH e2 hN)) f none (.inl rfl)) fun _ _ _ r=>⟨_,List.mem_singleton.2 rfl,r⟩⟩
theorem ExR.nor {ex:Ex}(h:ExR ex .normal):ex=.normal:=by cases ex<;>first|rfl|exact h.elim
theorem ExR.not {ex:Ex}{e:Exit}(h:ExR ex e)(hn:e≠.normal):ex≠.normal:=fun he=>by subst he;cases e<;>first|exact hn rfl|exact h.elim
theorem tU {f:Value→H→Option (Ex×T Value×H)}:∀{l:List (Value×H)} {ol:OL},mN f l=some ol→∀o∈l,∃x∈ol,f o.1 o.2=some x
  |[],ol,h,o,ho=>by simp at ho
  |(v,h0)::r,ol,h,o,ho=>by
    simp only[mN]at h;split at h
    ·rename_i x l hx hl;simp only[kE]at h;subst h;rcases List.mem_cons.1 ho with rfl|ho
     ·exact⟨x,List.mem_cons_self,hx⟩
     ·obtain⟨y,hy,e⟩:=tU hl o ho;exact⟨y,List.mem_cons_of_mem _ hy,e⟩
    ·simp at h
theorem wP {v:Value}{h:H}{l:List (Value×H)}(hl:A.a v h=some l):(∀o∈l,o.2.next=h.next):=by
  unfold A.a at hl;split at hl
  ·split at hl
   ·rename_i m since seen last _;split at hl
    ·rename_i es clock _
     cases hcnd:(!seen.isEmpty&&!es.isEmpty&&es.all fun e=>Nat.ble last e.born)with
     |true=>rw[hcnd]at hl;simp at hl
     |false=>
       rw[hcnd]at hl;simp only[cond_false]at hl;split at hl
       ·simp at hl
       ·obtain⟨_,hl⟩:=aA hl;simp only[kE]at hl;subst hl;intro o ho;obtain⟨e,_,rfl⟩:=List.mem_map.1 ho;rfl
    ·simp at hl
   ·simp at hl
  ·simp at hl
theorem wU (hzp:aK P=true)(hC:aM P NG C){id:Nat}{ops:Array Oper}{draw:Bool}{fr:T Value}{h:H}{l:OL}(hr:gN P C NG nt ops draw fr h=some l)(hN:∀o∈l,o.2.2.next≤N):CodesN P NG nt (.region id ops draw) fr h N l:=by
  unfold gN at hr;obtain⟨hc,hr2⟩:=aA hr;replace hr:=hr2;clear hr2;simp only[kO,Bool.not_eq_true']at hc;obtain⟨hd,rfl⟩:=hc;split at hr
  ·rename_i dst x ty pos after rest hops;split at hr
   ·rename_i v hv;split at hr
    ·rename_i nl hnl;have hmem:=tU hr;have ho:ops[0]?=some ⟨dst,.next x false,ty,pos,after,none⟩:=by
       have:ops.toList[0]?=some ⟨dst,.next x false,ty,pos,after,none⟩:=by rw[hops];rfl
       simpa using this
     have hsz:ops.size=(ops.size-1)+1:=by
       have:0<ops.toList.length:=by rw[hops];simp
       simp at this;omega
     have hdrop:ops.toList.drop 1=rest:=by rw[hops];rfl
     have hdo:=vT hd ho;refine⟨hN,fun μ a w rh hf f=>wpIn_region ?_⟩;have hrange:List.range ops.size=0::List.range' 1 (ops.size-1):=by
       rw[List.range_eq_range',hsz,List.range'_succ];simp
     rw[hrange,wpOpsIn_cons];unfold wpOpIn;have hw:Region.wanted ⟨dst,.next x false,ty,pos,after,none⟩ (yielded ops a.tmps)=true:=by simp[Region.wanted]
     simp only[ho,hw,if_true];obtain⟨o,homem,cv,w',hrun,hst,hvr⟩:=uS (P:=P) rh hnl ((f.ev rh) x v hv) ty;obtain⟨xo,hxo,hrx⟩:=hmem o homem;have hex:(execOp a.eval ⟨dst,.next x false,ty,pos,after,none⟩).run P w=.ok (.value cv) w':=by simp only[execOp,kR,hrun,kQ,kS]
     refine⟨fun _ _=>trivial,?_⟩;show Oper.uponIn (Fr none) 0 P _ a _ _ ((Oper.semAt none a.eval _).run P w);rw[bV P hex (fun d=>by simp) none];obtain⟨fr1,h1,hk,hle,hs⟩:=eF hzp hC hd rest 1 _ _ hdrop hrx;simp only[kE]at hk;have hon:o.2.next=h.next:=wP hnl o homem;have hx1:h1.next≤N:=by
       have:=hN xo hxo;rw[←hk]at this;exact this
     refine hs μ (a.put dst cv) w' hst.rh (fun id e1 e2=>hf id (by omega) (kH e2 hx1)) (f.put hdo (rv:=some o.1) hvr) none _ fun a' w'' ⟨μ',st,f',d⟩=>?_;refine⟨xo,hxo,?_⟩;rw[←hk];exact⟨trivial,μ',hst.trans st,f',by rw[d,dS];exact Marks.refl _ _ _⟩
    ·simp at hr
   ·simp at hr
  ·simp at hr
end
end Go.AM
