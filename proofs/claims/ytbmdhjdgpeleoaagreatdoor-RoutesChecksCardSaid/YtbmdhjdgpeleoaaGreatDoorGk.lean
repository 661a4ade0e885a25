import Derived.Test.YtbmdhjdgpeleoaaGreatDoorGc
import Derived.ChangeArms
set_option linter.defProp false
namespace Go.AM
open Go Go.RowKit
variable {i n:Nat}{a:kC kA}
section
def aLu (P:kD):Nat→kC Field→kB Nat
 |off,[]=>some off
 |off,f::r=>if f.offset=off then aLu P (off+P.cellsOf f.type) r else none
def okT (P:kD):Nat→kF→Bool
 |0,_=>false
 |n+1,t=>
  match P.underlying t with
  |some .bool|some (.int _)|some .string=>true
  |some (.slice e)=>Nat.blt 0 (P.cellsOf e)&&okT P n e
  |some (.struct fs)=>(fs.toList.all fun f=>okT P n f.type)&&decide (aLu P 0 fs.toList=some (P.cellsOf t))
  |_=>false
inductive Ty (P:kD) (h:H):kF→kC kA→Prop
 |bool {t:kF} (b:Bool) (hu:P.underlying t=some .bool):Ty P h t [.bool b]
 |int {t:kF} (k:IntKind) (n:Int) (hu:P.underlying t=some (.int k)) (hw:(Lit.int k n).wf=true):Ty P h t [.int k n]
 |str {t:kF} (s:ByteArray) (hu:P.underlying t=some .string) (hs:s.size≤maxLen):Ty P h t [.string s]
 |sliceNil {t e:kF} (hu:P.underlying t=some (.slice e)):Ty P h t [.slice none 0 0]
 |slice {t e:kF} (id len:Nat) (els:kC (kC kA)) (hu:P.underlying t=some (.slice e)) (hl:len≤els.length) (hm:els.length≤maxLen) (hi:id<h.next)
  (hb:els≠[]→h.get id=some (.cells els.flatten none)) (hs:∀x∈els,x.length=P.cellsOf e) (he:∀x∈els,Ty P h e x):
  Ty P h t [.slice (some ⟨id,0,none⟩) len (2*els.length+1)]
 |struct {t:kF} {fs:kH Field} (parts:kC (kC kA)) (hu:P.underlying t=some (.struct fs)) (hp:parts.length=fs.size)
  (hs:∀(i:Nat) (f:Field) (p:kC kA),fs[i]?=some f→parts[i]?=some p→p.length=P.cellsOf f.type)
  (hf:∀(i:Nat) (f:Field) (p:kC kA),fs[i]?=some f→parts[i]?=some p→Ty P h f.type p):Ty P h t parts.flatten
def Exh (d:Mu)(h:H)(a:Mu)(c:H):Prop:=d.le a∧(∀id b,h.get id=some b→c.get id=some b)∧h.next≤c.next
def Exh.refl (a:Mu)(h:H):Exh a h a h:=⟨fun _ _ h=>h,fun _ _ h=>h,kQ _⟩
def Exh.trans {M U c:Mu}{h j g:H}(a:Exh M h U j)(b:Exh U j c g):Exh M h c g:=
 ⟨fun _ _ h=>b.1 _ _ (a.1 _ _ h),fun _ _ h=>b.2.1 _ _ (a.2.1 _ _ h),kR a.2.2 b.2.2⟩
variable {P:kD}{NG:Nat}{w:kE}
def Ty.mono {h j:H}(x:∀id b,h.get id=some b→j.get id=some b)(q:h.next≤j.next){t:kF}(y:Ty P h t a):Ty P j t a:=by
 induction y with
 |bool b u=>exact .bool b u
 |int k n u v=>exact .int k n u v
 |str s u c=>exact .str s u c
 |sliceNil u=>exact .sliceNil u
 |slice id l e u m o g f c z i=>exact .slice id l e u m o (kT g q) (fun d=>x _ _ (f d)) c i
 |struct p u r c B i=>exact .struct p u r c i
def Ty.cellish {h:H}{t:kF}{a:kC kA}(ty:Ty P h t a):∀o∈a,AM.cellish o=true:=by
 induction ty with
 |bool b u=>simp[AM.cellish]
 |int k n u E=>simp[AM.cellish]
 |str s u j=>simp[AM.cellish]
 |sliceNil u=>simp[AM.cellish]
 |slice id x q u C D e y j z m=>simp[AM.cellish]
 |struct c u v j B m=>
  rename_i t fs;intro o r;obtain⟨p,g,d⟩:=List.mem_flatten.1 r;obtain⟨i,e⟩:=mM.1 g;have f:i<c.length:=(pX.1 e).1;have l:i<fs.size:=by rw[←v];exact f
  exact m i fs[i] p (pV l) e o d
structure RO (NG:Nat)(μ:Mu)(h:H)(w:kE):Prop where
 rh:RH NG μ h w
 ro:∀id b,h.get id=some b→b.owned=false
 fr:∀id,h.next≤id→μ id=none
def bUa (P:kD)(NG:Nat)(w:kE)(t:kF)(d:kC kA):Prop:=
 ∀c h,RO NG c h w→∃a b s,RO NG a b w∧Exh c h a b∧LR a s d∧Ty P b t s
def bTx:∀(l:kC (kF×kC kA)),(∀p∈l,bUa P NG w p.1 p.2)→∀c h,RO NG c h w→
 ∃(μ':Mu) (h':H) (a:kC (kC kA)),RO NG μ' h' w∧Exh c h μ' h'∧a.length=l.length∧
  ∀(i:Nat) (p:kF×kC kA) (s:kC kA),l[i]?=some p→a[i]?=some s→LR μ' s p.2∧Ty P h' p.1 s
 |[],_,c,h,r=>⟨c,h,[],r,Exh.refl _ _,rfl,fun i p s b=>by simp at b⟩
 |q::l,hg,c,h,r=>by
  obtain⟨k,o,j,r1,n,u,v⟩:=hg q (by simp) c h r;obtain⟨m,t,a,r2,f,e,d⟩:=bTx l (fun p b=>hg p (by simp[b])) k o r1;refine⟨m,t,j::a,r2,n.trans f,by simp[e],fun i p s b g=>?_⟩
  cases i with
  |zero=>
   simp only[pM,kP]at b g;subst b;subst g;exact⟨u.mono f.1,v.mono f.2.1 f.2.2⟩
  |succ i=>
   simp only[pN]at b g;exact d i p s b g
def aJa {Y X:Type}{f:Y→kB X}:∀{l:kC Y} {r:kC X},l.mapM f=some r→r.length=l.length∧∀(i:Nat) (a:Y),l[i]?=some a→∃b,f a=some b∧r[i]?=some b
 |[],r,h=>by simp at h;subst h;simp
 |a::l,r,h=>by
  simp only[List.mapM_cons,Option.bind_eq_bind,Option.bind_eq_some_iff,Option.pure_def,kP]at h;obtain⟨b,j,s,d,rfl⟩:=h;obtain⟨e,g⟩:=aJa d;refine⟨by simp[e],fun i x c=>?_⟩
  cases i with
  |zero=>simp at c;subst c;exact⟨b,j,rfl⟩
  |succ i=>simp at c⊢;exact g i x c
def LR.flatten {M:Mu}:∀{ass css:kC (kC kA)},ass.length=css.length→(∀(i:Nat) (a c:kC kA),ass[i]?=some a→css[i]?=some c→LR M a c)→LR M ass.flatten css.flatten
 |[],[],_,_=>.nil
 |a::ass,c::css,hl,h=>by
  simp only[List.flatten_cons];exact(h 0 a c rfl rfl).append (LR.flatten (by simpa using hl) fun i b d e f=>h (i+1) b d (by simpa using e) (by simpa using f))
 |[],_::_,hl,_=>by simp at hl
 |_::_,[],hl,_=>by simp at hl
def aAk:∀(fs:kC Field) (o n:Nat) (c:kC kA),aLu P o fs=some n→c.length=n→
 (fs.map fun f=>(c.drop f.offset).take (P.cellsOf f.type)).flatten=c.drop o∧o≤n∧∀f∈fs,f.offset+P.cellsOf f.type≤n
 |[],o,n,c,h,hl=>by
  simp only[aLu,kP]at h;subst h;refine⟨?_,kQ _,by simp⟩;simp[hl]
 |f::fs,o,n,c,h,hl=>by
  simp only[aLu]at h;split at h
  ·rename_i e;obtain⟨b,d,h3⟩:=aAk fs _ n c h hl;refine⟨?_,by omega,fun g a=>?_⟩
   ·simp only[mH,List.flatten_cons,b,e];rw[←sG,sM]
   ·rcases sI.1 a with rfl|a
    ·omega
    ·exact h3 g a
  ·simp at h
def aDw {f:Addr}(h:w.cells? i f n=some a):a.length=n∧∀j,j<n→∃c,w.cell? (f.add j)=some c∧a[j]?=some c:=by
 unfold World.cells? at h;split at h
 ·obtain⟨b,d⟩:=aJa h;refine⟨by simpa using b,fun j e=>?_⟩;exact d j j (by simp[e])
 ·simp at h
def qH {n:Nat}:∀{els:kC (kC kA)},(∀x∈els,x.length=n)→∀(q r:Nat),r<n→els.flatten[q*n+r]?=(els[q]?).bind (·[r]?)
 |[],_,q,r,_=>by simp
 |e::els,h,q,r,hr=>by
  have a:e.length=n:=h e (by simp)
  cases q with
  |zero=>simp[pJ,a,hr]
  |succ q=>
   simp only[List.flatten_cons,pN];rw[pK (by rw[a,Nat.succ_mul];omega),a,show(q+1)*n+r-n=q*n+r by rw[Nat.succ_mul];omega];exact qH (fun x b=>h x (by simp[b])) q r hr
def cF {n:Nat}:∀{els:kC (kC kA)},(∀x∈els,x.length=n)→els.flatten.length=els.length*n
 |[],_=>by simp
 |e::els,h=>by
  have i:=cF (n:=n) (els:=els) (fun x b=>h x (mL _ b));have a:=h e (mO ..);simp only[List.flatten_cons,kX,kY,Nat.succ_mul,i,a];omega
def RO.name {M:Mu}{h:H}(r:RO NG M h w)(l:Loc)(j:l.blk<w.heap.size):RO NG (M.set h.next l) ⟨h.m,h.next+1⟩ w∧Exh M h (M.set h.next l) ⟨h.m,h.next+1⟩:=by
 have f:M h.next=none:=r.fr _ (kQ _);have n:∀id b,h.get id=some b→id≠h.next:=fun id b a e=>by have:=r.rh.wf id b a;omega
 refine⟨⟨?_,r.ro,fun id i=>?_⟩,Mu.le_set f,fun _ _ h=>h,sF _⟩
 ·exact{
   ng:=Nat.le_succ_of_le r.rh.ng
   wf:=fun id b a=>Nat.lt_succ_of_lt (r.rh.wf id b a)
   br:=fun id b m a c=>by
    rw[Mu.set_ne _ _ (n id b a)]at c;exact(r.rh.br id b m a c).mono (Mu.le_set f)
   inj:=fun id b m k p q a o=>by rw[r.ro id b a]at o;simp at o
   bd:=fun id m c=>by
    by_cases e:id=h.next
    ·subst e;rw[Mu.set_same]at c;simp at c;subst c;exact j
    ·rw[Mu.set_ne _ _ e]at c;exact r.rh.bd _ _ c
   gl:=fun g d=>by rw[Mu.set_ne _ _ (by have:=r.rh.ng;omega)];exact r.rh.gl g d}
 ·have i:h.next+1≤id:=i;rw[Mu.set_ne _ _ (by omega)];exact r.fr id (by omega)
def RO.push {μ:Mu}{h:H}(r:RO NG μ h w)(l:Loc)(cs:kC kA)(c:BR (μ.set h.next l) (.cells cs none) l w):
 RO NG (μ.set h.next l) (h.push (.cells cs none)) w∧Exh μ h (μ.set h.next l) (h.push (.cells cs none)):=by
 have f:μ h.next=none:=r.fr _ (kQ _);have n:∀id b,h.get id=some b→id≠h.next:=fun id b c e=>by have:=r.rh.wf id b c;omega
 refine⟨⟨?_,fun id b c=>?_,fun id i=>?_⟩,Mu.le_set f,fun id b c=>?_,by simp⟩
 ·exact{
   ng:=by have:=r.rh.ng;simp;omega
   wf:=fun id b c=>by
    rw[H.get_push]at c;split at c
    ·rename_i e;subst e;simp
    ·have:=r.rh.wf id b c;simp;omega
   br:=fun id b m a d=>by
    rw[H.get_push]at a;split at a
    ·rename_i e;subst e;rw[Mu.set_same]at d;simp at d a;subst d;subst a;exact c
    ·rename_i e;rw[Mu.set_ne _ _ e]at d;exact(r.rh.br id b m a d).mono (Mu.le_set f)
   inj:=fun id b m k p q a o=>by
    rw[H.get_push]at a;split at a
    ·simp at a;subst a;simp[Blk.owned]at o
    ·rw[r.ro id b a]at o;simp at o
   bd:=fun id m d=>by
    by_cases e:id=h.next
    ·subst e;rw[Mu.set_same]at d;simp at d;subst d;exact c.lt
    ·rw[Mu.set_ne _ _ e]at d;exact r.rh.bd _ _ d
   gl:=fun g j=>by rw[Mu.set_ne _ _ (by have:=r.rh.ng;omega)];exact r.rh.gl g j}
 ·rw[H.get_push]at c;split at c
  ·simp at c;subst c;rfl
  ·exact r.ro id b c
 ·simp at i;rw[Mu.set_ne _ _ (by omega)];exact r.fr id (by omega)
 ·rw[H.get_push,kL (n id b c)];exact c
variable {Z:Type}{enc:kF×kA→Z}{base:Nat}
def aOp (j3:0<w.heap.size):∀(z n:Nat) (t:kF) (cs:kC kA) (x:DataW Z×kC MemPlace),okT P n t=true→
 DataW.trod enc P w base (fun _=>true) true z t cs=some x→bUa P NG w t cs:=by
 intro z
 induction z with
 |zero=>intro n t cs x _ h;simp[DataW.trod]at h
 |succ z ih=>
  intro n t cs x u h
  cases n with
  |zero=>simp[okT]at u
  |succ n=>
  simp only[okT]at u;split at u
  ·rename_i G;obtain⟨b,rfl,_⟩:=DataW.trod_bool G h;exact fun R h r=>⟨R,h,_,r,Exh.refl _ _,.cons (.bool _) .nil,.bool _ G⟩
  ·rename_i k G;obtain⟨b,rfl,_,hw⟩:=DataW.trod_int G h;exact fun R h r=>⟨R,h,_,r,Exh.refl _ _,.cons (.int _ _) .nil,.int _ _ G hw⟩
  ·rename_i G;obtain⟨b,rfl,_,hs⟩:=DataW.trod_string G h;exact fun R h r=>⟨R,h,_,r,Exh.refl _ _,.cons (.string _) .nil,.str _ G hs⟩
  ·rename_i e G;simp only[pA]at u;have k3:0<P.cellsOf e:=blt_iff.1 u.1;rcases DataW.trod_slice G h with⟨rfl,_⟩|⟨a,len,cap,elems,rest,m,hm,rfl,_,_,hlc,hcm,hel,helems,J,_⟩
   ·exact fun R h r=>⟨R,h,_,r,Exh.refl _ _,.cons .sliceNil .nil,.sliceNil G⟩
   ·have hm:m=z:=by omega
    subst hm;obtain⟨v3,J⟩:=J rfl;have Y:∀i,i<cap→∃d,w.cells? base (a.add (i*P.cellsOf e)) (P.cellsOf e)=some d∧bUa P NG w e d:=by
     intro i B;have:∃y,(w.cells? base (a.add (i*P.cellsOf e)) (P.cellsOf e)).bind (DataW.trod enc P w base (fun _=>true) true m e)=some y:=by
      by_cases p3:i<len
      ·exact⟨elems[i],by rw[helems i p3];exact kZ (by omega)⟩
      ·refine⟨rest[i-len],?_⟩;have:=J (i-len) (by omega);rw[show len+(i-len)=i by omega]at this;rw[this];exact kZ (by omega)
     obtain⟨y,hy⟩:=this;obtain⟨d,q,hy⟩:=Option.bind_eq_some_iff.1 hy;exact⟨d,q,ih n e d y u.2 hy⟩
    intro R h r;let S:Nat→kC kA:=fun i=>(w.cells? base (a.add (i*P.cellsOf e)) (P.cellsOf e)).getD [];have f3:∀i,i<cap→w.cells? base (a.add (i*P.cellsOf e)) (P.cellsOf e)=some (S i):=by
     intro i B;obtain⟨d,q,_⟩:=Y i B;simp only[S,q,pQ]
    obtain⟨X,U,o,r1,e1,N,E⟩:=bTx (P:=P) (NG:=NG) (w:=w) ((List.range cap).map fun i=>(e,S i)) (fun p W=>by
     simp only[mW,rO]at W;obtain⟨i,B,rfl⟩:=W;obtain⟨d,q,hg⟩:=Y i B;have:S i=d:=by simp only[S,q,pQ]
     simp only[this];exact hg) R h r
    have g:o.length=cap:=by simpa using N
    have I:∀i as,o[i]?=some as→i<cap∧LR X as (S i)∧Ty P U e as:=by
     intro i as ha;have B:i<cap:=by rw[←g];exact(pX.1 ha).1
     exact⟨B,E i (e,S i) as (by simp[B]) ha⟩
    have b3:∀x∈o,x.length=P.cellsOf e:=by
     intro x hx;obtain⟨i,B⟩:=mM.1 hx;obtain⟨o3,hl,_⟩:=I i x B;rw[hl.1,(aDw (f3 i o3)).1]
    have q3:∀x∈o,Ty P U e x:=by
     intro x hx;obtain⟨i,B⟩:=mM.1 hx;exact(I i x B).2.2
    by_cases e3:cap=0
    ·subst e3;have u3:o=[]:=pY.1 g;obtain⟨r2,e2⟩:=r1.name ⟨0,0,0,0⟩ j3;refine⟨_,_,[.slice (some ⟨U.next,0,none⟩) len (2*([]:kC (kC kA)).length+1)],r2,e1.trans e2,?_,?_⟩
     ·refine .cons (.slice (l:=⟨0,0,0,0⟩) (Mu.set_same _ _ _) (by simp[fL]) (by simp;omega) (fun q=>dC rfl q)) .nil
     ·exact .slice U.next len [] G (by simp;omega) (by simp) (by simp) (by simp) (by simp) (by simp)
    ·-- there is a first cell
     have K:∀i j,i<cap→j<P.cellsOf e→∃c,w.cell? ((a.add (i*P.cellsOf e)).add j)=some c∧(S i)[j]?=some c:=fun i j B hj=>(aDw (f3 i B)).2 j hj;obtain⟨c0,C,_⟩:=K 0 0 (by omega) k3;simp only[Nat.zero_mul,Addr.add,mE]at C;have Q:a.spot=none:=by
      unfold World.cell? at C;split at C
      ·cases hs:a.spot with
       |none=>rfl
       |some s=>rw[hs]at C;simp at C
      ·simp at C
     obtain⟨ab,ao,as⟩:=a;simp only at Q;subst Q;have d3:∃d ty fz,w.heap[ab]?=some (.cells d ty fz):=by
      unfold World.cell? at C;split at C
      ·rename_i c _ _ q;exact⟨c,_,_,q⟩
      ·simp at C
     obtain⟨d,ty,fz,M⟩:=d3;have D:∀i j,i<cap→j<P.cellsOf e→∃c,d[ao+(i*P.cellsOf e+j)]?=some c∧(S i)[j]?=some c:=by
      intro i j B hj;obtain⟨c,q,a3⟩:=K i j B hj;rw[eK,eK]at q;simp only[World.cell?,M,dX,pP,mD]at q;exact⟨c,by rw[←Nat.add_assoc];exact q,a3⟩
     have m3:BR (X.set U.next ⟨ab,ao,0,d.size⟩) (.cells o.flatten none) ⟨ab,ao,0,d.size⟩ w:=by
      have L:=cF b3;refine⟨d,ty,fz,M,rfl,?_,fun i v hv=>?_,by simp,by simp⟩
      ·rw[L,g];obtain⟨c,q,_⟩:=D (cap-1) (P.cellsOf e-1) (by omega) (by omega);have O:=(sT.1 q).1;have:cap*P.cellsOf e=(cap-1)*P.cellsOf e+P.cellsOf e:=by
        conv=>lhs;rw[show cap=(cap-1)+1 by omega]
        rw[Nat.succ_mul]
       show ao+cap*P.cellsOf e≤d.size;omega
      ·have O:i<o.flatten.length:=(pX.1 hv).1;rw[L,g]at O;have hq:i / P.cellsOf e<cap:=Nat.div_lt_of_lt_mul (by rw[Nat.mul_comm];exact O);have hr:i%P.cellsOf e<P.cellsOf e:=Nat.mod_lt _ k3;have B:i=i / P.cellsOf e*P.cellsOf e+i%P.cellsOf e:=by rw[Nat.mul_comm];exact(Nat.div_add_mod _ _).symm
       obtain⟨c,q,a3⟩:=D _ _ hq hr;rw[←B]at q;refine⟨c,q,?_⟩;rw[B,qH b3 _ _ hr]at hv;obtain⟨x,hx,hv⟩:=Option.bind_eq_some_iff.1 hv;obtain⟨_,hl,l3⟩:=I _ _ hx;exact⟨(hl.2 _ _ _ hv a3).mono (Mu.le_set (r1.fr _ (kQ _))),l3.cellish v (sY hv)⟩
     obtain⟨r2,e2⟩:=r1.push ⟨ab,ao,0,d.size⟩ o.flatten m3;refine⟨_,_,[.slice (some ⟨U.next,0,none⟩) len (2*o.length+1)],r2,e1.trans e2,?_,?_⟩
     ·refine .cons (.slice (l:=⟨ab,ao,0,d.size⟩) (Mu.set_same _ _ _) ?_ ?_ (fun _=>rfl)) .nil
      ·simp only[fL];rw[kM (by omega)];omega
      ·omega
     ·exact .slice U.next len o G (by omega) (by omega) (by simp) (fun _=>by rw[H.get_push,kM rfl]) b3 (fun x hx=>(q3 x hx).mono e2.2.1 e2.2.2)
  ·rename_i fs G;simp only[pA,mB,pW]at u;obtain⟨xs,m,hm,_,n3,s3,t3⟩:=DataW.trod_struct G h;have hm:m=z:=by omega
   subst hm
   ·obtain⟨L,_,g3⟩:=aAk fs.toList 0 _ cs u.2 n3;rw[mI]at L;intro R h r;obtain⟨X,U,o,r1,e1,N,E⟩:=bTx (P:=P) (NG:=NG) (w:=w) (fs.toList.map fun f=>(f.type,(cs.drop f.offset).take (P.cellsOf f.type))) (fun p W=>by
     simp only[mW]at W;obtain⟨f,hf,rfl⟩:=W;obtain⟨i,B⟩:=mM.1 hf;have i3:fs[i]?=some f:=by simpa using B
     have O:i<xs.length:=by rw[s3];exact(sT.1 i3).1
     exact ih n f.type _ xs[i] (u.1 f hf) ((t3 i f i3).trans (kZ O))) R h r
    have g:o.length=fs.size:=by simpa using N
    refine⟨X,U,o.flatten,r1,e1,?_,?_⟩
    ·rw[←L];refine LR.flatten (by simp[g]) fun i a c ha q=>?_;simp only[pL,sZ]at q;obtain⟨f,hf,rfl⟩:=q;exact(E i (f.type,_) a (by rw[pL,hf];rfl) ha).1
    ·refine .struct o G g (fun i f p hf W=>?_) fun i f p hf W=>?_
     ·have V:fs.toList[i]?=some f:=by simpa using hf
      have:=(E i (f.type,_) p (by rw[pL,V];rfl) W).1;rw[this.1];have hb:=g3 f (sY V);simp only[pH,pI];omega
     ·have V:fs.toList[i]?=some f:=by simpa using hf
      exact(E i (f.type,_) p (by rw[pL,V];rfl) W).2
  ·simp at u
end
end Go.AM
