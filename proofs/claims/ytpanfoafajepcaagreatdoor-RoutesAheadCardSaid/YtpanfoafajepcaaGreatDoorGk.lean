import Derived.Test.YtpanfoafajepcaaGreatDoorGd
import Derived.ChangeArms
namespace Go.AM
open Go Go.RowKit
def aCa (P:Program):Nat→List Field→Option Nat
 |off,[]=>some off
 |off,f::r=>if f.offset=off then aCa P (off+P.cellsOf f.type) r else none
def okT (P:Program):Nat→TypeId→Bool
 |0,_=>false
 |n+1,t=>
  match P.underlying t with
  |some .bool|some (.int _)|some .string=>true
  |some (.slice e)=>Nat.blt 0 (P.cellsOf e)&&okT P n e
  |some (.struct fs)=>(fs.toList.all fun f=>okT P n f.type)&&decide (aCa P 0 fs.toList=some (P.cellsOf t))
  |_=>false
inductive Ty (P:Program) (h:H):TypeId→List Value→Prop
 |bool {t:TypeId} (b:Bool) (hu:P.underlying t=some .bool):Ty P h t [.bool b]
 |int {t:TypeId} (k:IntKind) (n:Int) (hu:P.underlying t=some (.int k)) (hw:(Lit.int k n).wf=true):Ty P h t [.int k n]
 |str {t:TypeId} (s:ByteArray) (hu:P.underlying t=some .string) (hs:s.size≤maxLen):Ty P h t [.string s]
 |sliceNil {t e:TypeId} (hu:P.underlying t=some (.slice e)):Ty P h t [.slice none 0 0]
 |slice {t e:TypeId} (id len:Nat) (els:List (List Value)) (hu:P.underlying t=some (.slice e)) (hl:len≤els.length) (hm:els.length≤maxLen) (hi:id<h.next)
  (hb:els≠[]→h.get id=some (.cells els.flatten none)) (hs:∀x∈els,x.length=P.cellsOf e) (he:∀x∈els,Ty P h e x):
  Ty P h t [.slice (some ⟨id,0,none⟩) len (2*els.length+1)]
 |struct {t:TypeId} {fs:Array Field} (parts:List (List Value)) (hu:P.underlying t=some (.struct fs)) (hp:parts.length=fs.size)
  (hs:∀(i:Nat) (f:Field) (p:List Value),fs[i]?=some f→parts[i]?=some p→p.length=P.cellsOf f.type)
  (hf:∀(i:Nat) (f:Field) (p:List Value),fs[i]?=some f→parts[i]?=some p→Ty P h f.type p):Ty P h t parts.flatten
def Exh (μ:Mu)(h:H)(μ':Mu)(h':H):Prop:=μ.le μ'∧(∀id b,h.get id=some b→h'.get id=some b)∧h.next≤h'.next
theorem Exh.refl (μ:Mu)(h:H):Exh μ h μ h:=⟨fun _ _ h=>h,fun _ _ h=>h,kF _⟩
theorem Exh.trans {μ μ1 μ2:Mu}{h h1 h2:H}(a:Exh μ h μ1 h1)(b:Exh μ1 h1 μ2 h2):Exh μ h μ2 h2:=
 ⟨fun _ _ h=>b.1 _ _ (a.1 _ _ h),fun _ _ h=>b.2.1 _ _ (a.2.1 _ _ h),kG a.2.2 b.2.2⟩
variable {P:Program}{NG:Nat}{w:World}
theorem Ty.mono {h h':H}(hx:∀id b,h.get id=some b→h'.get id=some b)(hn:h.next≤h'.next){t:TypeId}{as:List Value}(ty:Ty P h t as):Ty P h' t as:=by
 induction ty with
 |bool b hu=>exact .bool b hu
 |int k n hu hw=>exact .int k n hu hw
 |str s hu hs=>exact .str s hu hs
 |sliceNil hu=>exact .sliceNil hu
 |slice id len els hu hl hm hi hb hs he ih=>exact .slice id len els hu hl hm (kH hi hn) (fun hne=>hx _ _ (hb hne)) hs ih
 |struct parts hu hp hs hf ih=>exact .struct parts hu hp hs ih
theorem Ty.cellish {h:H}{t:TypeId}{as:List Value}(ty:Ty P h t as):∀a∈as,AM.cellish a=true:=by
 induction ty with
 |bool b hu=>simp[AM.cellish]
 |int k n hu hw=>simp[AM.cellish]
 |str s hu hs=>simp[AM.cellish]
 |sliceNil hu=>simp[AM.cellish]
 |slice id len els hu hl hm hi hb hs he ih=>simp[AM.cellish]
 |struct parts hu hp hs hf ih=>
  rename_i t fs;intro a ha;obtain⟨p,hp',hap⟩:=List.mem_flatten.1 ha;obtain⟨i,hi⟩:=List.mem_iff_getElem?.1 hp';have hlt:i<parts.length:=(List.getElem?_eq_some_iff.1 hi).1;have hlt2:i<fs.size:=by rw[←hp];exact hlt
  exact ih i fs[i] p (pI hlt2) hi a hap
structure RO (NG:Nat)(μ:Mu)(h:H)(w:World):Prop where
 rh:RH NG μ h w
 ro:∀id b,h.get id=some b→b.owned=false
 fr:∀id,h.next≤id→μ id=none
def aXg (P:Program)(NG:Nat)(w:World)(t:TypeId)(cs:List Value):Prop:=
 ∀μ h,RO NG μ h w→∃μ' h' as,RO NG μ' h' w∧Exh μ h μ' h'∧LR μ' as cs∧Ty P h' t as
theorem aWv:∀(l:List (TypeId×List Value)),(∀p∈l,aXg P NG w p.1 p.2)→∀μ h,RO NG μ h w→
 ∃(μ':Mu) (h':H) (ass:List (List Value)),RO NG μ' h' w∧Exh μ h μ' h'∧ass.length=l.length∧
  ∀(i:Nat) (p:TypeId×List Value) (as:List Value),l[i]?=some p→ass[i]?=some as→LR μ' as p.2∧Ty P h' p.1 as
 |[],_,μ,h,r=>⟨μ,h,[],r,Exh.refl _ _,rfl,fun i p as hp=>by simp at hp⟩
 |q::l,hg,μ,h,r=>by
  obtain⟨μ1,h1,as1,r1,e1,l1,t1⟩:=hg q (by simp) μ h r;obtain⟨μ2,h2,ass,r2,e2,hlen,hall⟩:=aWv l (fun p hp=>hg p (by simp[hp])) μ1 h1 r1;refine⟨μ2,h2,as1::ass,r2,e1.trans e2,by simp[hlen],fun i p as hp ha=>?_⟩
  cases i with
  |zero=>
   simp only[kY,kE]at hp ha;subst hp;subst ha;exact⟨l1.mono e2.1,t1.mono e2.2.1 e2.2.2⟩
  |succ i=>
   simp only[kZ]at hp ha;exact hall i p as hp ha
theorem aAc {α β:Type}{f:α→Option β}:∀{l:List α} {r:List β},l.mapM f=some r→r.length=l.length∧∀(i:Nat) (a:α),l[i]?=some a→∃b,f a=some b∧r[i]?=some b
 |[],r,h=>by simp at h;subst h;simp
 |a::l,r,h=>by
  simp only[List.mapM_cons,Option.bind_eq_bind,Option.bind_eq_some_iff,Option.pure_def,kE]at h;obtain⟨b,hb,bs,hbs,rfl⟩:=h;obtain⟨h1,h2⟩:=aAc hbs;refine⟨by simp[h1],fun i x hx=>?_⟩
  cases i with
  |zero=>simp at hx;subst hx;exact⟨b,hb,rfl⟩
  |succ i=>simp at hx⊢;exact h2 i x hx
theorem LR.flatten {μ:Mu}:∀{ass css:List (List Value)},ass.length=css.length→(∀(i:Nat) (a c:List Value),ass[i]?=some a→css[i]?=some c→LR μ a c)→LR μ ass.flatten css.flatten
 |[],[],_,_=>.nil
 |a::ass,c::css,hl,h=>by
  simp only[List.flatten_cons];exact(h 0 a c rfl rfl).append (LR.flatten (by simpa using hl) fun i a' c' ha hc=>h (i+1) a' c' (by simpa using ha) (by simpa using hc))
 |[],_::_,hl,_=>by simp at hl
 |_::_,[],hl,_=>by simp at hl
theorem rA:∀(fs:List Field) (off n:Nat) (cs:List Value),aCa P off fs=some n→cs.length=n→
 (fs.map fun f=>(cs.drop f.offset).take (P.cellsOf f.type)).flatten=cs.drop off∧off≤n∧∀f∈fs,f.offset+P.cellsOf f.type≤n
 |[],off,n,cs,h,hl=>by
  simp only[aCa,kE]at h;subst h;refine⟨?_,kF _,by simp⟩;simp[hl]
 |f::fs,off,n,cs,h,hl=>by
  simp only[aCa]at h;split at h
  ·rename_i he;obtain⟨h1,h2,h3⟩:=rA fs _ n cs h hl;refine⟨?_,by omega,fun g hg=>?_⟩
   ·simp only[List.map_cons,List.flatten_cons,h1,he];rw[←pT,pZ]
   ·rcases List.mem_cons.1 hg with rfl|hg
    ·omega
    ·exact h3 g hg
  ·simp at h
theorem tX {w:World}{base:Nat}{a:Addr}{n:Nat}{cs:List Value}(h:w.cells? base a n=some cs):cs.length=n∧∀j,j<n→∃c,w.cell? (a.add j)=some c∧cs[j]?=some c:=by
 unfold World.cells? at h;split at h
 ·obtain⟨h1,h2⟩:=aAc h;refine⟨by simpa using h1,fun j hj=>?_⟩;exact h2 j j (by simp[hj])
 ·simp at h
theorem jF {n:Nat}:∀{els:List (List Value)},(∀x∈els,x.length=n)→∀(q r:Nat),r<n→els.flatten[q*n+r]?=(els[q]?).bind (·[r]?)
 |[],_,q,r,_=>by simp
 |e::els,h,q,r,hr=>by
  have he:e.length=n:=h e (by simp)
  cases q with
  |zero=>simp[kV,he,hr]
  |succ q=>
   simp only[List.flatten_cons,kZ];rw[kW (by rw[he,Nat.succ_mul];omega),he,show(q+1)*n+r-n=q*n+r by rw[Nat.succ_mul];omega];exact jF (fun x hx=>h x (by simp[hx])) q r hr
theorem bW {n:Nat}:∀{els:List (List Value)},(∀x∈els,x.length=n)→els.flatten.length=els.length*n
 |[],_=>by simp
 |e::els,h=>by
  have ih:=bW (n:=n) (els:=els) (fun x hx=>h x (List.mem_cons_of_mem _ hx));have he:=h e (List.mem_cons_self ..);simp only[List.flatten_cons,kL,kM,Nat.succ_mul,ih,he];omega
theorem RO.name {μ:Mu}{h:H}(r:RO NG μ h w)(l:Loc)(hl:l.blk<w.heap.size):RO NG (μ.set h.next l) ⟨h.m,h.next+1⟩ w∧Exh μ h (μ.set h.next l) ⟨h.m,h.next+1⟩:=by
 have hf:μ h.next=none:=r.fr _ (kF _);have hne:∀id b,h.get id=some b→id≠h.next:=fun id b hb e=>by have:=r.rh.wf id b hb;omega
 refine⟨⟨?_,r.ro,fun id hid=>?_⟩,Mu.le_set hf,fun _ _ h=>h,pS _⟩
 ·exact{
   ng:=Nat.le_succ_of_le r.rh.ng
   wf:=fun id b hb=>Nat.lt_succ_of_lt (r.rh.wf id b hb)
   br:=fun id b m hb hm=>by
    rw[Mu.set_ne _ _ (hne id b hb)]at hm;exact(r.rh.br id b m hb hm).mono (Mu.le_set hf)
   inj:=fun id b m id' b' m' hb ho=>by rw[r.ro id b hb]at ho;simp at ho
   bd:=fun id m hm=>by
    by_cases e:id=h.next
    ·subst e;rw[Mu.set_same]at hm;simp at hm;subst hm;exact hl
    ·rw[Mu.set_ne _ _ e]at hm;exact r.rh.bd _ _ hm
   gl:=fun g hg=>by rw[Mu.set_ne _ _ (by have:=r.rh.ng;omega)];exact r.rh.gl g hg}
 ·have hid:h.next+1≤id:=hid;rw[Mu.set_ne _ _ (by omega)];exact r.fr id (by omega)
theorem RO.push {μ:Mu}{h:H}(r:RO NG μ h w)(l:Loc)(cs:List Value)(hb:BR (μ.set h.next l) (.cells cs none) l w):
 RO NG (μ.set h.next l) (h.push (.cells cs none)) w∧Exh μ h (μ.set h.next l) (h.push (.cells cs none)):=by
 have hf:μ h.next=none:=r.fr _ (kF _);have hne:∀id b,h.get id=some b→id≠h.next:=fun id b hb e=>by have:=r.rh.wf id b hb;omega
 refine⟨⟨?_,fun id b hb=>?_,fun id hid=>?_⟩,Mu.le_set hf,fun id b hb=>?_,by simp⟩
 ·exact{
   ng:=by have:=r.rh.ng;simp;omega
   wf:=fun id b hb=>by
    rw[H.get_push]at hb;split at hb
    ·rename_i e;subst e;simp
    ·have:=r.rh.wf id b hb;simp;omega
   br:=fun id b m hb' hm=>by
    rw[H.get_push]at hb';split at hb'
    ·rename_i e;subst e;rw[Mu.set_same]at hm;simp at hm hb';subst hm;subst hb';exact hb
    ·rename_i e;rw[Mu.set_ne _ _ e]at hm;exact(r.rh.br id b m hb' hm).mono (Mu.le_set hf)
   inj:=fun id b m id' b' m' hb' ho=>by
    rw[H.get_push]at hb';split at hb'
    ·simp at hb';subst hb';simp[Blk.owned]at ho
    ·rw[r.ro id b hb']at ho;simp at ho
   bd:=fun id m hm=>by
    by_cases e:id=h.next
    ·subst e;rw[Mu.set_same]at hm;simp at hm;subst hm;exact hb.lt
    ·rw[Mu.set_ne _ _ e]at hm;exact r.rh.bd _ _ hm
   gl:=fun g hg=>by rw[Mu.set_ne _ _ (by have:=r.rh.ng;omega)];exact r.rh.gl g hg}
 ·rw[H.get_push]at hb;split at hb
  ·simp at hb;subst hb;rfl
  ·exact r.ro id b hb
 ·simp at hid;rw[Mu.set_ne _ _ (by omega)];exact r.fr id (by omega)
 ·rw[H.get_push,kA (hne id b hb)];exact hb
variable {Hn:Type}{enc:TypeId×Value→Hn}{base:Nat}
theorem aDp (hpos:0<w.heap.size):∀(fuel n:Nat) (t:TypeId) (cs:List Value) (x:DataW Hn×List MemPlace),okT P n t=true→
 DataW.trod enc P w base (fun _=>true) true fuel t cs=some x→aXg P NG w t cs:=by
 intro fuel
 induction fuel with
 |zero=>intro n t cs x _ h;simp[DataW.trod]at h
 |succ fuel ih=>
  intro n t cs x hok h
  cases n with
  |zero=>simp[okT]at hok
  |succ n=>
  simp only[okT]at hok;split at hok
  ·rename_i hu;obtain⟨b,rfl,_⟩:=DataW.trod_bool hu h;exact fun μ h r=>⟨μ,h,_,r,Exh.refl _ _,.cons (.bool _) .nil,.bool _ hu⟩
  ·rename_i k hu;obtain⟨b,rfl,_,hw⟩:=DataW.trod_int hu h;exact fun μ h r=>⟨μ,h,_,r,Exh.refl _ _,.cons (.int _ _) .nil,.int _ _ hu hw⟩
  ·rename_i hu;obtain⟨b,rfl,_,hs⟩:=DataW.trod_string hu h;exact fun μ h r=>⟨μ,h,_,r,Exh.refl _ _,.cons (.string _) .nil,.str _ hu hs⟩
  ·rename_i e hu;simp only[kO]at hok;have hsz:0<P.cellsOf e:=blt_iff.1 hok.1;rcases DataW.trod_slice hu h with⟨rfl,_⟩|⟨a,len,cap,elems,rest,m,hm,rfl,_,_,hlc,hcm,hel,helems,hrest,_⟩
   ·exact fun μ h r=>⟨μ,h,_,r,Exh.refl _ _,.cons .sliceNil .nil,.sliceNil hu⟩
   ·have hm:m=fuel:=by omega
    subst hm;obtain⟨hrl,hrest⟩:=hrest rfl;have each:∀i,i<cap→∃ccs,w.cells? base (a.add (i*P.cellsOf e)) (P.cellsOf e)=some ccs∧aXg P NG w e ccs:=by
     intro i hi;have:∃y,(w.cells? base (a.add (i*P.cellsOf e)) (P.cellsOf e)).bind (DataW.trod enc P w base (fun _=>true) true m e)=some y:=by
      by_cases hil:i<len
      ·exact⟨elems[i],by rw[helems i hil];exact kN (by omega)⟩
      ·refine⟨rest[i-len],?_⟩;have:=hrest (i-len) (by omega);rw[show len+(i-len)=i by omega]at this;rw[this];exact kN (by omega)
     obtain⟨y,hy⟩:=this;obtain⟨ccs,hc,hy⟩:=Option.bind_eq_some_iff.1 hy;exact⟨ccs,hc,ih n e ccs y hok.2 hy⟩
    intro μ h r;let cc:Nat→List Value:=fun i=>(w.cells? base (a.add (i*P.cellsOf e)) (P.cellsOf e)).getD [];have hcc:∀i,i<cap→w.cells? base (a.add (i*P.cellsOf e)) (P.cellsOf e)=some (cc i):=by
     intro i hi;obtain⟨ccs,hc,_⟩:=each i hi;simp only[cc,hc,pC]
    obtain⟨μ1,h1,ass,r1,e1,hlen,hall⟩:=aWv (P:=P) (NG:=NG) (w:=w) ((List.range cap).map fun i=>(e,cc i)) (fun p hp=>by
     simp only[List.mem_map,List.mem_range]at hp;obtain⟨i,hi,rfl⟩:=hp;obtain⟨ccs,hc,hg⟩:=each i hi;have:cc i=ccs:=by simp only[cc,hc,pC]
     simp only[this];exact hg) μ h r
    have hlen':ass.length=cap:=by simpa using hlen
    have hall':∀i as,ass[i]?=some as→i<cap∧LR μ1 as (cc i)∧Ty P h1 e as:=by
     intro i as ha;have hi:i<cap:=by rw[←hlen'];exact(List.getElem?_eq_some_iff.1 ha).1
     exact⟨hi,hall i (e,cc i) as (by simp[hi]) ha⟩
    have hes:∀x∈ass,x.length=P.cellsOf e:=by
     intro x hx;obtain⟨i,hi⟩:=List.mem_iff_getElem?.1 hx;obtain⟨hic,hl,_⟩:=hall' i x hi;rw[hl.1,(tX (hcc i hic)).1]
    have hty:∀x∈ass,Ty P h1 e x:=by
     intro x hx;obtain⟨i,hi⟩:=List.mem_iff_getElem?.1 hx;exact(hall' i x hi).2.2
    by_cases hcap:cap=0
    ·subst hcap;have hnil:ass=[]:=List.length_eq_zero_iff.1 hlen';obtain⟨r2,e2⟩:=r1.name ⟨0,0,0,0⟩ hpos;refine⟨_,_,[.slice (some ⟨h1.next,0,none⟩) len (2*([]:List (List Value)).length+1)],r2,e1.trans e2,?_,?_⟩
     ·refine .cons (.slice (l:=⟨0,0,0,0⟩) (Mu.set_same _ _ _) (by simp[dD]) (by simp;omega) (fun hc=>absurd rfl hc)) .nil
     ·exact .slice h1.next len [] hu (by simp;omega) (by simp) (by simp) (by simp) (by simp) (by simp)
    ·-- aJp is a first cell
     have cellAt:∀i j,i<cap→j<P.cellsOf e→∃c,w.cell? ((a.add (i*P.cellsOf e)).add j)=some c∧(cc i)[j]?=some c:=fun i j hi hj=>(tX (hcc i hi)).2 j hj;obtain⟨c0,hc0,_⟩:=cellAt 0 0 (by omega) hsz;simp only[Nat.zero_mul,Addr.add,if_true]at hc0;have hspot:a.spot=none:=by
      unfold World.cell? at hc0;split at hc0
      ·cases hs:a.spot with
       |none=>rfl
       |some s=>rw[hs]at hc0;simp at hc0
      ·simp at hc0
     obtain⟨ab,ao,as⟩:=a;simp only at hspot;subst hspot;have hblk:∃ccs ty fz,w.heap[ab]?=some (.cells ccs ty fz):=by
      unfold World.cell? at hc0;split at hc0
      ·rename_i c _ _ hc;exact⟨c,_,_,hc⟩
      ·simp at hc0
     obtain⟨ccs,ty,fz,hheap⟩:=hblk;have cellAt':∀i j,i<cap→j<P.cellsOf e→∃c,ccs[ao+(i*P.cellsOf e+j)]?=some c∧(cc i)[j]?=some c:=by
      intro i j hi hj;obtain⟨c,hc,hc2⟩:=cellAt i j hi hj;rw[cI,cI]at hc;simp only[World.cell?,hheap,Option.isSome_none,pB,if_false]at hc;exact⟨c,by rw[←Nat.add_assoc];exact hc,hc2⟩
     have hbr:BR (μ1.set h1.next ⟨ab,ao,0,ccs.size⟩) (.cells ass.flatten none) ⟨ab,ao,0,ccs.size⟩ w:=by
      have hfl:=bW hes;refine⟨ccs,ty,fz,hheap,rfl,?_,fun i v hv=>?_,by simp,by simp⟩
      ·rw[hfl,hlen'];obtain⟨c,hc,_⟩:=cellAt' (cap-1) (P.cellsOf e-1) (by omega) (by omega);have hlt:=(Array.getElem?_eq_some_iff.1 hc).1;have:cap*P.cellsOf e=(cap-1)*P.cellsOf e+P.cellsOf e:=by
        conv=>lhs;rw[show cap=(cap-1)+1 by omega]
        rw[Nat.succ_mul]
       show ao+cap*P.cellsOf e≤ccs.size;omega
      ·have hlt:i<ass.flatten.length:=(List.getElem?_eq_some_iff.1 hv).1;rw[hfl,hlen']at hlt;have hq:i / P.cellsOf e<cap:=Nat.div_lt_of_lt_mul (by rw[Nat.mul_comm];exact hlt);have hr:i%P.cellsOf e<P.cellsOf e:=Nat.mod_lt _ hsz;have hi:i=i / P.cellsOf e*P.cellsOf e+i%P.cellsOf e:=by rw[Nat.mul_comm];exact(Nat.div_add_mod _ _).symm
       obtain⟨c,hc,hc2⟩:=cellAt' _ _ hq hr;rw[←hi]at hc;refine⟨c,hc,?_⟩;rw[hi,jF hes _ _ hr]at hv;obtain⟨x,hx,hv⟩:=Option.bind_eq_some_iff.1 hv;obtain⟨_,hl,hty1⟩:=hall' _ _ hx;exact⟨(hl.2 _ _ _ hv hc2).mono (Mu.le_set (r1.fr _ (kF _))),hty1.cellish v (List.mem_of_getElem? hv)⟩
     obtain⟨r2,e2⟩:=r1.push ⟨ab,ao,0,ccs.size⟩ ass.flatten hbr;refine⟨_,_,[.slice (some ⟨h1.next,0,none⟩) len (2*ass.length+1)],r2,e1.trans e2,?_,?_⟩
     ·refine .cons (.slice (l:=⟨ab,ao,0,ccs.size⟩) (Mu.set_same _ _ _) ?_ ?_ (fun _=>rfl)) .nil
      ·simp only[dD];rw[kB (by omega)];omega
      ·omega
     ·exact .slice h1.next len ass hu (by omega) (by omega) (by simp) (fun _=>by rw[H.get_push,kB rfl]) hes (fun x hx=>(hty x hx).mono e2.2.1 e2.2.2)
  ·rename_i fs hu;simp only[kO,List.all_eq_true,pJ]at hok;obtain⟨xs,m,hm,_,hcl,hxl,hxs⟩:=DataW.trod_struct hu h;have hm:m=fuel:=by omega
   subst hm
   ·obtain⟨hfl,_,hfit⟩:=rA fs.toList 0 _ cs hok.2 hcl;rw[List.drop_zero]at hfl;intro μ h r;obtain⟨μ1,h1,ass,r1,e1,hlen,hall⟩:=aWv (P:=P) (NG:=NG) (w:=w) (fs.toList.map fun f=>(f.type,(cs.drop f.offset).take (P.cellsOf f.type))) (fun p hp=>by
     simp only[List.mem_map]at hp;obtain⟨f,hf,rfl⟩:=hp;obtain⟨i,hi⟩:=List.mem_iff_getElem?.1 hf;have hi':fs[i]?=some f:=by simpa using hi
     have hlt:i<xs.length:=by rw[hxl];exact(Array.getElem?_eq_some_iff.1 hi').1
     exact ih n f.type _ xs[i] (hok.1 f hf) ((hxs i f hi').trans (kN hlt))) μ h r
    have hlen':ass.length=fs.size:=by simpa using hlen
    refine⟨μ1,h1,ass.flatten,r1,e1,?_,?_⟩
    ·rw[←hfl];refine LR.flatten (by simp[hlen']) fun i a c ha hc=>?_;simp only[kX,Option.map_eq_some_iff]at hc;obtain⟨f,hf,rfl⟩:=hc;exact(hall i (f.type,_) a (by rw[kX,hf];rfl) ha).1
    ·refine .struct ass hu hlen' (fun i f p hf hp=>?_) fun i f p hf hp=>?_
     ·have hf':fs.toList[i]?=some f:=by simpa using hf
      have:=(hall i (f.type,_) p (by rw[kX,hf'];rfl) hp).1;rw[this.1];have hb:=hfit f (List.mem_of_getElem? hf');simp only[kT,kU];omega
     ·have hf':fs.toList[i]?=some f:=by simpa using hf
      exact(hall i (f.type,_) p (by rw[kX,hf'];rfl) hp).2
  ·simp at hok
end Go.AM
