import Derived.Orders
import Derived.LoopN
import Derived.Below
import Derived.Laws.CopyRow
import Derived.Laws.Entries
import Derived.Laws.Append
import Derived.Laws.PanicsMore
set_option linter.defProp false
namespace Go.AM
open Go
abbrev kA:=@Value
abbrev kB:=@Option
abbrev kC:=@List
abbrev kD:=@Program
abbrev kE:=@World
abbrev kF:=@TypeId
abbrev kG:=@UInt8
abbrev kH:=@Array
abbrev kI:=@FuncId
abbrev kJ:=@MapEntry
abbrev kK:=@Operand
abbrev kL:=@if_neg
abbrev kM:=@if_pos
abbrev kN:=@decide_eq_true
abbrev kO:=@decide_eq_false
abbrev kP:=@Option.some.injEq
abbrev kQ:=@Nat.le_refl
abbrev kR:=@Nat.le_trans
abbrev kT:=@Nat.lt_of_lt_of_le
abbrev kU:=@decide_eq_false_iff_not
abbrev kV:=@decide_eq_true_iff
abbrev kW:=@Prod.mk.injEq
abbrev kX:=@List.length_append
abbrev kY:=@List.length_cons
abbrev kZ:=@List.getElem?_eq_getElem
abbrev pA:=@Bool.and_eq_true
abbrev pB:=@Option.some.inj
abbrev pC:=@Result.andThen_ok
abbrev pD:=@Sem.run_bind
abbrev pG:=@Sem.run_pure
abbrev pH:=@List.length_take
abbrev pI:=@List.length_drop
abbrev pJ:=@List.getElem?_append_left
abbrev pK:=@List.getElem?_append_right
abbrev pL:=@List.getElem?_map
abbrev pM:=@List.getElem?_cons_zero
abbrev pN:=@List.getElem?_cons_succ
abbrev pO:=@List.length_map
abbrev pP:=@Bool.false_eq_true
abbrev pQ:=@Option.getD_some
abbrev pR:=@Option.bind_some
abbrev pT:=@Array.getD_eq_getD_getElem?
abbrev pU:=@List.getElem?_toArray
abbrev pV:=@Array.getElem?_eq_getElem
abbrev pW:=@decide_eq_true_eq
abbrev pX:=@List.getElem?_eq_some_iff
abbrev pY:=@List.length_eq_zero_iff
abbrev pZ:=@List.drop_eq_nil_of_le
abbrev sA:=@List.take_of_length_le
abbrev sC:=@Nat.le_of_lt
abbrev sE:=@Nat.zero_le
abbrev sF:=@Nat.le_succ
abbrev sG:=@List.drop_drop
abbrev sH:=@List.append_assoc
abbrev sI:=@List.mem_cons
abbrev sK:=@List.getElem?_take
abbrev sL:=@List.getElem?_drop
abbrev sM:=@List.take_append_drop
abbrev sN:=@List.length_nil
abbrev sO:=@Bool.not_true
abbrev sQ:=@Bool.not_false
abbrev sR:=@Nat.zero_add
abbrev sS:=@Nat.add_zero
abbrev sT:=@Array.getElem?_eq_some_iff
abbrev sU:=@run_underlying
abbrev sV:=@cond_true
abbrev sW:=@cond_false
abbrev sX:=@congrArg
abbrev sY:=@List.mem_of_getElem?
abbrev sZ:=@Option.map_eq_some_iff
abbrev mA:=@Option.map_some
abbrev mB:=@List.all_eq_true
abbrev mC:=@List.mem_singleton
abbrev mD:=@if_false
abbrev mE:=@if_true
abbrev mF:=@Bool.true_and
abbrev mG:=@Bool.false_and
abbrev mH:=@List.map_cons
abbrev mI:=@List.drop_zero
abbrev mJ:=@Nat.lt_or_ge
abbrev mK:=@decide_eq_decide
abbrev mL:=@List.mem_cons_of_mem
abbrev mM:=@List.mem_iff_getElem?
abbrev mN:=@List.mem_map_of_mem
abbrev mO:=@List.mem_cons_self
abbrev mP:=@List.mem_append
abbrev mQ:=@Nat.lt_succ_self
abbrev mR:=@Bool.eq_iff_iff
abbrev mS:=@List.getElem?_eq_none_iff
abbrev mT:=@List.ext_getElem?
abbrev mU:=@List.mem_of_mem_take
abbrev mV:=@Ne.symm
abbrev mW:=@List.mem_map
abbrev mX:=@List.mem_of_mem_drop
abbrev mY:=@beq_eq_false_iff_ne
abbrev mZ:=@Bool.false_or
abbrev dA:=@Bool.or_true
abbrev dB:=@Bool.and_true
abbrev dC:=@absurd
abbrev dD:=@List.append_nil
abbrev dF:=@List.nil_append
abbrev dG:=@List.cons_append
abbrev dH:=@List.set_append_right
abbrev dI:=@Nat.sub_self
abbrev dJ:=@Nat.sub_zero
abbrev dL:=@Nat.lt_of_le_of_lt
abbrev dN:=@List.foldl_cons
abbrev dO:=@List.filter_cons
abbrev dP:=@List.any_cons
abbrev dQ:=@List.all_cons
abbrev dR:=@List.find?_cons
abbrev dS:=@List.mem_filter
abbrev dU:=@Nat.min_eq_left
abbrev dV:=@Option.map_none
abbrev dW:=@Option.isSome_some
abbrev dX:=@Option.isSome_none
abbrev dY:=@Bool.not_eq_true
abbrev tA:=@Nat.mul_one
abbrev tE:=@of_decide_eq_true
abbrev tH:=@Option.getD_none
abbrev tI:=@Bool.or_eq_true
abbrev tJ:=@Bool.and_false
abbrev tL:=@Bool.true_or
abbrev tM:=@List.cons.injEq
abbrev tN:=@Array.toList_map
abbrev tW:=@List.nodup_cons
abbrev rB:=@List.length_set
abbrev rE:=@List.getElem?_set
abbrev rG:=@List.take_zero
abbrev rJ:=@List.map_append
abbrev rO:=@List.mem_range
abbrev rP:=@List.any_eq_true
abbrev iN:Int→kA:=.int .i64
abbrev iU:Int→kA:=.int .u8
def pS (m:Nat)(h:0<m):∃r,m=r+1:=⟨m-1,by omega⟩
def eX {c:Sort _}(a:c):∃b,b=a:=⟨a,rfl⟩
inductive T (α:Type) where
 |nil
 |node (l:T α) (v:kB α) (r:T α)
namespace T
variable {α:Type}
def get:T α→Nat→kB α
 | .nil,_=>none
 | .node l v r,k=>bif Nat.beq k 0 then v else bif Nat.beq (Nat.mod k 2) 1 then l.get (Nat.div (Nat.sub k 1) 2)else r.get (Nat.div (Nat.sub k 2) 2)
def aPw:Nat→T α→Nat→kB α→T α
 |0,t,_,_=>t
 |f+1,.nil,k,x=>bif Nat.beq k 0 then .node .nil x .nil
  else bif Nat.beq (Nat.mod k 2) 1 then .node (aPw f .nil (Nat.div (Nat.sub k 1) 2) x) none .nil
  else .node .nil none (aPw f .nil (Nat.div (Nat.sub k 2) 2) x)
 |f+1,.node l v r,k,x=>bif Nat.beq k 0 then .node l x r
  else bif Nat.beq (Nat.mod k 2) 1 then .node (aPw f l (Nat.div (Nat.sub k 1) 2) x) v r
  else .node l v (aPw f r (Nat.div (Nat.sub k 2) 2) x)
def set (t:T α)(k:Nat)(x:kB α):T α:=aPw (k+1) t k x
def beq_dec (a b:Nat):Nat.beq a b=decide (a=b):=by rw[mR];simp
@[simp] theorem aFo (k:Nat):(T.nil:T α).get k=none:=rfl
theorem nO (l:T α)(v:kB α)(r:T α)(k:Nat):
 (T.node l v r).get k=if k=0 then v else if k%2=1 then l.get ((k-1) / 2)else r.get ((k-2) / 2):=by
 rw[get];have e:Nat.beq k 0=decide (k=0):=beq_dec _ _;have b:Nat.beq (Nat.mod k 2) 1=decide (k%2=1):=beq_dec _ _;rw[e,b];by_cases h:k=0
 ·simp[h]
 ·by_cases a:k%2=1
  ·simp[h,a];rfl
  ·simp[h,a];rfl
def cMt:∀(f:Nat) (t:T α) (k:Nat) (x:kB α) (j:Nat),k<f→(aPw f t k x).get j=if j=k then x else t.get j:=by
 intro f
 induction f with
 |zero=>intro t k x j h;omega
 |succ f i=>
  intro t k x j m;have e:Nat.beq k 0=decide (k=0):=beq_dec _ _;have g:Nat.beq (Nat.mod k 2) 1=decide (k%2=1):=beq_dec _ _;have d:Nat.div (Nat.sub k 1) 2=(k-1) / 2:=rfl;have c:Nat.div (Nat.sub k 2) 2=(k-2) / 2:=rfl
  cases t with
  |nil=>
   rw[aPw,e,g,d,c];by_cases h:k=0
   ·subst h;simp only[decide_true,sV,nO,aFo];split<;>simp_all
   ·by_cases b:k%2=1
    ·simp only[h,decide_false,sW,b,decide_true,sV,nO,aFo];rw[i _ _ _ _ (by omega)];by_cases a:j=k
     ·subst a;simp[h,b]
     ·simp only[a,mD];split
      ·rfl
      ·split
       ·rw[kL (by omega)];rfl
       ·rfl
    ·simp only[h,decide_false,sW,b,nO,aFo];rw[i _ _ _ _ (by omega)];by_cases a:j=k
     ·subst a;simp[h,b]
     ·simp only[a,mD];split
      ·rfl
      ·split
       ·rfl
       ·rw[kL (by omega)];rfl
  |node l v r=>
   rw[aPw,e,g,d,c];by_cases h:k=0
   ·subst h;simp only[decide_true,sV,nO];split<;>simp_all
   ·by_cases b:k%2=1
    ·simp only[h,decide_false,sW,b,decide_true,sV,nO];rw[i _ _ _ _ (by omega)];by_cases a:j=k
     ·subst a;simp[h,b]
     ·simp only[a,mD];split
      ·rfl
      ·split
       ·rw[kL (by omega)]
       ·rfl
    ·simp only[h,decide_false,sW,b,nO];rw[i _ _ _ _ (by omega)];by_cases a:j=k
     ·subst a;simp[h,b]
     ·simp only[a,mD];split
      ·rfl
      ·split
       ·rfl
       ·rw[kL (by omega)]
def get_set (t:T α)(k:Nat)(x:kB α)(j:Nat):(t.set k x).get j=if j=k then x else t.get j:=
 cMt (k+1) t k x j (mQ k)
@[simp] theorem aYy (t:T α)(k:Nat)(x:kB α):(t.set k x).get k=x:=by rw[get_set,kM rfl]
theorem bEl (t:T α){k j:Nat}(x:kB α)(h:j≠k):(t.set k x).get j=t.get j:=by rw[get_set,kL h]
end T
structure Loc where
 blk:Nat
 off:Nat
 es:Nat
 size:Nat
abbrev Mu:=Nat→kB Loc
def cellish:kA→Bool
 | .agg _| .tuple _=>false
 |_=>true
def fL (l:Loc)(o c a:Nat):Prop:=
 if c%2=1 then a=c / 2 else c / 2≤a∧l.off+o+a*l.es≤l.size
inductive VR (μ:Mu):kA→kA→Prop
 |bool (b:Bool):VR μ (.bool b) (.bool b)
 |int (k:IntKind) (n:Int):VR μ (.int k n) (.int k n)
 |float (k:FloatKind) (b:Nat):VR μ (.float k b) (.float k b)
 |string (s:ByteArray):VR μ (.string s) (.string s)
 |ptrNil:VR μ (.pointer none) (.pointer none)
 |ptr {id off:Nat} {l:Loc} (h:μ id=some l):VR μ (.pointer (some ⟨id,off,none⟩)) (.pointer (some ⟨l.blk,l.off+off,none⟩))
 |sliceNil:VR μ (.slice none 0 0) (.slice none 0 0)
 |slice {id off len c c':Nat} {l:Loc} {a':Addr} (h:μ id=some l) (hc:fL l off c c') (hl:len≤c / 2)
  (ha:c'≠0→a'=⟨l.blk,l.off+off,none⟩):VR μ (.slice (some ⟨id,off,none⟩) len c) (.slice (some a') len c')
 |mapNil:VR μ (.map none) (.map none)
 |map {id:Nat} {l:Loc} (h:μ id=some l):VR μ (.map (some id)) (.map (some l.blk))
 |nilFunc:VR μ .nilFunc .nilFunc
 |func (f:kI) (cs ds:kC kA) (cs' ds':kC kA) (h1:cs.length=cs'.length) (h2:ds.length=ds'.length)
  (g1:∀(i:Nat) (a b:kA),cs[i]?=some a→cs'[i]?=some b→VR μ a b)
  (g2:∀(i:Nat) (a b:kA),ds[i]?=some a→ds'[i]?=some b→VR μ a b):
  VR μ (.func (.func f) ⟨cs⟩ ⟨ds⟩) (.func (.func f) ⟨cs'⟩ ⟨ds'⟩)
 |yield {id:Nat} {l:Loc} (h:μ id=some l):VR μ (.func (.yield id) #[] #[]) (.func (.yield l.blk) #[] #[])
 |methOf (t:kF) (m:String):VR μ (.func (.methodOf t m) #[] #[]) (.func (.methodOf t m) #[] #[])
 |nilIface:VR μ .nilIface .nilIface
 |iface (t:kF) {v v':kA} (h:VR μ v v'):VR μ (.iface t v) (.iface t v')
 |agg (cs ds:kC kA) (h:cs.length=ds.length) (g:∀(i:Nat) (a b:kA),cs[i]?=some a→ds[i]?=some b→VR μ a b)
  (hc:∀a∈cs,cellish a=true):VR μ (.agg ⟨cs⟩) (.agg ⟨ds⟩)
 |tuple (cs ds:kC kA) (h:cs.length=ds.length) (g:∀(i:Nat) (a b:kA),cs[i]?=some a→ds[i]?=some b→VR μ a b):
  VR μ (.tuple ⟨cs⟩) (.tuple ⟨ds⟩)
def LR (μ:Mu)(cs ds:kC kA):Prop:=
 cs.length=ds.length∧∀(i:Nat) (a b:kA),cs[i]?=some a→ds[i]?=some b→VR μ a b
def Mu.le (b a:Mu):Prop:=∀id l,b id=some l→a id=some l
def VR.mono {μ M:Mu}(h:μ.le M){v w:kA}(r:VR μ v w):VR M v w:=by
 induction r with
 |bool b=>exact .bool b
 |int k n=>exact .int k n
 |float k b=>exact .float k b
 |string s=>exact .string s
 |ptrNil=>exact .ptrNil
 |ptr l=>exact .ptr (h _ _ l)
 |sliceNil=>exact .sliceNil
 |slice l o x u=>exact .slice (h _ _ l) o x u
 |mapNil=>exact .mapNil
 |map l=>exact .map (h _ _ l)
 |nilFunc=>exact .nilFunc
 |func f a d e j p q B C y z=>exact .func f a d e j p q y z
 |yield l=>exact .yield (h _ _ l)
 |methOf t m=>exact .methOf t m
 |nilIface=>exact .nilIface
 |iface t _ i=>exact .iface t i
 |agg a d l g o i=>exact .agg a d l i o
 |tuple a d l g i=>exact .tuple a d l i
def LR.mono {μ M:Mu}(h:μ.le M){a w:kC kA}(r:LR μ a w):LR M a w:=
 ⟨r.1,fun i e b c d=>(r.2 i e b c d).mono h⟩
def VR.cell_eq {M:Mu}{v x:kA}(h:VR M v x):AM.cellish v=AM.cellish x:=by
 cases h<;>rfl
mutual
def aJ:kA→Bool
 | .bool _| .int _ _| .float _ _| .string _| .nilFunc| .nilIface=>true
 | .complex _ _ _=>false
 | .pointer a=>a.isNone
 | .slice a l c=>a.isNone&&Nat.beq l 0&&Nat.beq c 0
 | .map r=>r.isNone
 | .chan _=>false
 | .func (.func _) f c=>vJ f&&vJ c
 | .func _ _ _=>false
 | .iface _ v=>aJ v
 | .agg cs=>uE cs
 | .tuple vs=>vJ vs
def vJ:kH kA→Bool
 |⟨l⟩=>eU l
def eU:kC kA→Bool
 |[]=>true
 |v::r=>aJ v&&eU r
def uE:kH kA→Bool
 |⟨l⟩=>cQ l
def cQ:kC kA→Bool
 |[]=>true
 |v::r=>aJ v&&cellish v&&cQ r
end
def fD:∀(l:kC kA),eU l=true→∀(i:Nat) (a:kA),l[i]?=some a→aJ a=true
 |[],_,i,a,h=>by simp at h
 |v::r,hp,i,a,h=>by
  simp only[eU,pA]at hp
  cases i with
  |zero=>simp at h;exact h▸hp.1
  |succ i=>exact fD r hp.2 i a (by simpa using h)
def eD:∀(l:kC kA),cQ l=true→∀(i:Nat) (a:kA),l[i]?=some a→aJ a=true∧cellish a=true
 |[],_,i,a,h=>by simp at h
 |v::r,hp,i,a,h=>by
  simp only[cQ,pA]at hp
  cases i with
  |zero=>simp at h;exact h▸hp.1
  |succ i=>exact eD r hp.2 i a (by simpa using h)
def VR.eq_of_plain {M:Mu}{v x:kA}(r:VR M v x)(p:aJ v=true):x=v:=by
 induction r with
 |bool b=>rfl
 |int k n=>rfl
 |float k b=>rfl
 |string s=>rfl
 |ptrNil=>rfl
 |ptr l=>simp[aJ]at p
 |sliceNil=>rfl
 |slice l C J h=>simp[aJ]at p
 |mapNil=>rfl
 |map l=>simp[aJ]at p
 |nilFunc=>rfl
 |func f e j o q z B G I D E=>
  simp only[aJ,vJ,pA]at p;have u:o=e:=mT fun i=>by
   cases h:e[i]? with
   |none=>rw[mS]at h⊢;omega
   |some a=>
    have d:i<o.length:=by rw[←z];exact(pX.1 h).1
    rw[kZ d];rw[D i a _ h (kZ d) (fD _ p.1 i a h)]
  have y:q=j:=mT fun i=>by
   cases h:j[i]? with
   |none=>rw[mS]at h⊢;omega
   |some a=>
    have d:i<q.length:=by rw[←B];exact(pX.1 h).1
    rw[kZ d];rw[E i a _ h (kZ d) (fD _ p.2 i a h)]
  rw[u,y]
 |yield l=>simp[aJ]at p
 |methOf t m=>rfl
 |nilIface=>rfl
 |iface t _ w=>simp only[aJ]at p;rw[w p]
 |agg e j l g C w=>
  simp only[aJ,uE]at p;have u:j=e:=mT fun i=>by
   cases h:e[i]? with
   |none=>rw[mS]at h⊢;omega
   |some a=>
    have d:i<j.length:=by rw[←l];exact(pX.1 h).1
    rw[kZ d];rw[w i a _ h (kZ d) (eD _ p i a h).1]
  rw[u]
 |tuple e j l g w=>
  simp only[aJ,vJ]at p;have u:j=e:=mT fun i=>by
   cases h:e[i]? with
   |none=>rw[mS]at h⊢;omega
   |some a=>
    have d:i<j.length:=by rw[←l];exact(pX.1 h).1
    rw[kZ d];rw[w i a _ h (kZ d) (fD _ p i a h)]
  rw[u]
mutual
def VR.of_plain (μ:Mu):∀(v:kA),aJ v=true→VR μ v v
 | .bool b,_=>.bool b
 | .int k n,_=>.int k n
 | .float k b,_=>.float k b
 | .string s,_=>.string s
 | .nilFunc,_=>.nilFunc
 | .nilIface,_=>.nilIface
 | .complex _ _ _,h=>by simp[aJ]at h
 | .pointer none,_=>.ptrNil
 | .pointer (some a),h=>by simp[aJ]at h
 | .slice (some a) l c,h=>by simp[aJ]at h
 | .slice none l c,h=>by
  simp[aJ]at h;obtain⟨rfl,rfl⟩:=h;exact .sliceNil
 | .map none,_=>.mapNil
 | .map (some r),h=>by simp[aJ]at h
 | .chan _,h=>by simp[aJ]at h
 | .func (.func f) ⟨d⟩ ⟨e⟩,h=>by
  simp only[aJ,vJ,pA]at h;exact .func f d e d e rfl rfl (rW μ d h.1) (rW μ e h.2)
 | .func (.method _) _ _,h=>by simp[aJ]at h
 | .func (.methodOf _ _) _ _,h=>by simp[aJ]at h
 | .func (.via _ _ _ _) _ _,h=>by simp[aJ]at h
 | .func (.yield _) _ _,h=>by simp[aJ]at h
 | .iface t v,h=>.iface t (VR.of_plain μ v (by simpa[aJ]using h))
 | .agg ⟨d⟩,h=>by
  simp only[aJ,uE]at h;exact .agg d d rfl (oE μ d h) (fun a g=>by
   obtain⟨i,j⟩:=mM.1 g;exact(eD d h i a j).2)
 | .tuple ⟨d⟩,h=>by
  simp only[aJ,vJ]at h;exact .tuple d d rfl (rW μ d h)
def rW (c:Mu):∀(l:kC kA),eU l=true→∀(i:Nat) (a b:kA),l[i]?=some a→l[i]?=some b→VR c a b
 |[],_,i,a,b,h,_=>by simp at h
 |v::r,hp,i,a,b,ha,hb=>by
  simp only[eU,pA]at hp
  cases i with
  |zero=>simp at ha hb;subst ha;subst hb;exact VR.of_plain c v hp.1
  |succ i=>exact rW c r hp.2 i a b (by simpa using ha) (by simpa using hb)
def oE (μ:Mu):∀(l:kC kA),cQ l=true→∀(i:Nat) (a b:kA),l[i]?=some a→l[i]?=some b→VR μ a b
 |[],_,i,a,b,h,_=>by simp at h
 |v::r,hp,i,a,b,ha,hb=>by
  simp only[cQ,pA]at hp
  cases i with
  |zero=>simp at ha hb;subst ha;subst hb;exact VR.of_plain μ v hp.1.1
  |succ i=>exact oE μ r hp.2 i a b (by simpa using ha) (by simpa using hb)
end
structure Ent where
 key:kA
 val:kA
 born:Nat
inductive LSt where
 |ready|busy|done (j:kB Nat)|exhausted
inductive Blk where
 |cells (cs:kC kA) (own:kB Nat)
 |map (es:kC Ent) (clock:Nat)
 |siter (s:ByteArray) (pos:Nat)
 |miter (m:kB Nat) (since:Nat) (seen:kC Nat) (last:Nat)
  |loop (nt:Nat) (fr:T kA) (ps:kC Tmp) (assign body:Code) (st:LSt)
def Blk.owned:Blk→Bool
 | .cells _ own=>own.isSome
 |_=>true
structure H where
 m:T Blk
 next:Nat
namespace H
def get (h:H)(id:Nat):kB Blk:=h.m.get id
def push (h:H)(b:Blk):H:=⟨h.m.set h.next (some b),h.next+1⟩
def put (h:H)(id:Nat)(b:Blk):H:=⟨h.m.set id (some b),h.next⟩
def kill (h:H)(id:Nat):H:=⟨h.m.set id none,h.next⟩
def get_push (h:H)(b:Blk)(j:Nat):(h.push b).get j=if j=h.next then some b else h.get j:=T.get_set _ _ _ _
def get_put (h:H)(id:Nat)(b:Blk)(j:Nat):(h.put id b).get j=if j=id then some b else h.get j:=T.get_set _ _ _ _
def get_kill (h:H)(id:Nat)(j:Nat):(h.kill id).get j=if j=id then none else h.get j:=T.get_set _ _ _ _
@[simp] theorem next_push (h:H)(b:Blk):(h.push b).next=h.next+1:=rfl
@[simp] theorem next_put (h:H)(id:Nat)(b:Blk):(h.put id b).next=h.next:=rfl
@[simp] theorem bNr (h:H)(id:Nat):(h.kill id).next=h.next:=rfl
end H
def ER (a:Mu)(e:Ent)(c:kJ):Prop:=c.key=e.key∧c.born=e.born∧VR a e.val c.val
def MR (c:Mu):kB Nat→kB Nat→Prop
 |none,none=>True
 |some a,some b=>∃l,c a=some l∧l.blk=b
 |_,_=>False
def bLk:kB Nat→Code
 |none=>.ret
 |some id=>.exit id
def cKb (s:LSt)(r:Loop):Prop:=
 match s with
 | .ready=>r.state=.ready∧r.pending=none
 | .busy=>r.state=.busy
 | .done j=>r.state=.done∧r.pending=some (bLk j)
 | .exhausted=>r.state=.exhausted
def BR (g:Mu)(b:Blk)(l:Loc)(w:kE):Prop:=
 match b with
 | .cells cs own=>∃a y z,w.heap[l.blk]?=some (.cells a y z)∧a.size=l.size∧l.off+cs.length≤l.size∧
  (∀(i:Nat) (v:kA),cs[i]?=some v→∃c,a[l.off+i]?=some c∧VR g v c∧cellish v=true)∧
  (own.isSome=true→∀(i:Nat),i<l.size→¬(z.1≤i∧i<z.2))∧(∀f,own=some f→l.es=f)
 | .map f clock=>∃d,w.heap[l.blk]?=some (.map d clock)∧d.size=f.length∧(∀(i:Nat) (e:Ent),f[i]?=some e→aJ e.key=true∧∃c,d[i]?=some c∧ER g e c)
 | .siter s pos=>l.off=0∧w.heap[l.blk]?=some (.stringIter s pos)
 | .miter m since seen last=>l.off=0∧∃h,MR g m h∧w.heap[l.blk]?=some (.mapIter h since ⟨seen⟩ last)
 | .loop nt fr ps assign body st=>l.off=0∧∃r:Loop,w.heap[l.blk]?=some (.loop r)∧cKb st r∧r.params=⟨ps⟩∧r.assign=assign∧r.body=body∧nt≤r.tmps.size∧
  ∀(t:Tmp) (v:kA),fr.get t=some v→t<nt∧VR g v (r.tmps.getD t undef)
structure RH (NG:Nat)(μ:Mu)(h:H)(w:kE):Prop where
 ng:NG≤h.next
 wf:∀id b,h.get id=some b→id<h.next
 br:∀id b l,h.get id=some b→μ id=some l→BR μ b l w
 inj:∀id b l id' b' l',h.get id=some b→b.owned=true→μ id=some l→h.get id'=some b'→μ id'=some l'→id'≠id→l'.blk≠l.blk
 bd:∀id l,μ id=some l→l.blk<w.heap.size
 gl:∀g,g<NG→∃l,μ g=some l∧l.blk=g∧l.off=0
structure Step (NG:Nat)(μ:Mu)(h:H)(w:kE)(μ':Mu)(h':H)(w':kE):Prop where
 wf:∀id b,h.get id=some b→id<h.next
 le:μ.le μ'
 old:∀id,id<h.next→μ' id=μ id
 out:∀id,h'.next≤id→μ' id=μ id
 next:h.next≤h'.next
 rh:RH NG μ' h' w'
 size:w.heap.size≤w'.heap.size
 os:w'.os=w.os
 tape:w'.tape=w.tape
 output:w'.output=w.output
 frame:∀b,b<w.heap.size→(∀id k l,h.get id=some k→k.owned=true→μ id=some l→l.blk≠b)→w'.heap[b]?=w.heap[b]?
 src:∀id k l,h'.get id=some k→k.owned=true→μ' id=some l→w.heap.size≤l.blk∨∃id0 k0 l0,h.get id0=some k0∧k0.owned=true∧μ id0=some l0∧l0.blk=l.blk
 unm:∀id k,h.get id=some k→μ id=none→h'.get id=some k
 dead:∀id,id<h.next→h.get id=none→h'.get id=none
 ro:∀id k,h'.get id=some k→k.owned=false→h.get id=some k
def Fresh (a:Mu)(l h:Nat):Prop:=∀id,l≤id→id<h→a id=none
variable {NG:Nat}
def Step.refl {M:Mu}{h:H}{w:kE}(r:RH NG M h w):Step NG M h w M h w:=
 ⟨r.wf,fun _ _ h=>h,fun _ _=>rfl,fun _ _=>rfl,kQ _,r,kQ _,rfl,rfl,rfl,fun _ _ _=>rfl,
  fun id k l a o b=>.inr ⟨id,k,l,a,o,b,rfl⟩,fun _ _ h _=>h,fun _ _ h=>h,fun _ _ h _=>h⟩
def Step.trans {M U m:Mu}{h j g:H}{w w1 w2:kE}(a:Step NG M h w U j w1)(b:Step NG U j w1 m g w2):
 Step NG M h w m g w2 where
 wf:=a.wf
 le:=fun id l f=>b.le _ _ (a.le _ _ f)
 old:=fun id i=>(b.old id (kT i a.next)).trans (a.old id i)
 out:=fun id i=>(b.out id i).trans (a.out id (kR b.next i))
 next:=kR a.next b.next
 rh:=b.rh
 size:=kR a.size b.size
 os:=b.os.trans a.os
 tape:=b.tape.trans a.tape
 output:=b.output.trans a.output
 frame:=fun k d x=>by
  rw[b.frame k (kT d a.size) ?_,a.frame k d x];intro id c l B o f D;rcases a.src id c l B o f with s|⟨e,r,t,p,v,u,n⟩
  ·omega
  ·exact x e r t p v u (n.trans D)
 src:=fun id k l d o f=>by
  rcases b.src id k l d o f with s|⟨e,r,t,p,v,u,n⟩
  ·exact .inl (kR a.size s)
  ·rcases a.src e r t p v u with s|⟨q,E,G,j,J,I,z⟩
   ·exact .inl (n▸s)
   ·exact .inr ⟨q,E,G,j,J,I,z.trans n⟩
 unm:=fun id k d y=>b.unm id k (a.unm id k d y) (by
  rw[a.old id (a.wf id k d)];exact y)
 dead:=fun id i C=>b.dead id (kT i a.next) (a.dead id i C)
 ro:=fun id k d o=>a.ro id k (b.ro id k d o) o
section
variable {NG:Nat}
def BR.congr {μ:Mu}{b:Blk}{l:Loc}{w W:kE}(h:W.heap[l.blk]?=w.heap[l.blk]?)(r:BR μ b l w):BR μ b l W:=by
 cases b<;>simp only[BR]at r⊢<;>rw[h]<;>exact r
def BR.mono {μ M:Mu}(hle:μ.le M){b:Blk}{l:Loc}{w:kE}(r:BR μ b l w):BR M b l w:=by
 cases b with
 |cells N own=>
  obtain⟨k,L,I,h,d,h3,x,y,z⟩:=r;exact⟨k,L,I,h,d,h3,fun i v j=>let⟨c,hc,hr,hx⟩:=x i v j;⟨c,hc,hr.mono hle,hx⟩,y,z⟩
 |map O o=>
  obtain⟨n,h,d,h3⟩:=r;exact⟨n,h,d,fun i e J=>let⟨p,c,hc,g,h8,h9⟩:=h3 i e J;⟨p,c,hc,g,h8,h9.mono hle⟩⟩
 |siter s K=>exact r
 |miter m C G E=>
  obtain⟨u,B,h,d⟩:=r;refine⟨u,B,?_,d⟩
  cases m with
  |none=>cases B with
   |none=>exact trivial
   |some b=>exact h.elim
  |some a=>cases B with
   |none=>exact h.elim
   |some b=>exact let⟨l',e1,e2⟩:=h;⟨l',hle _ _ e1,e2⟩
 |loop nt P Q f D R=>
  obtain⟨u,q,h,d,h3,x,y,z,g⟩:=r;exact⟨u,q,h,d,h3,x,y,z,fun t v j=>⟨(g t v j).1,(g t v j).2.mono hle⟩⟩
def BR.lt {M:Mu}{b:Blk}{l:Loc}{w:kE}(r:BR M b l w):l.blk<w.heap.size:=by
 have k:∀o,w.heap[l.blk]?=some o→l.blk<w.heap.size:=fun o h=>(sT.1 h).1
 cases b with
 |cells j own=>obtain⟨_,_,_,a,_⟩:=r;exact k _ a
 |map n d=>obtain⟨_,a,_⟩:=r;exact k _ a
 |siter s p=>exact k _ r.2
 |miter m i g f=>obtain⟨_,_,_,a⟩:=r;exact k _ a
 |loop nt q t c e u=>obtain⟨_,_,a,_⟩:=r;exact k _ a
def setObj (w:kE)(b:Nat)(o:Obj):kE:={w with heap:=w.heap.setIfInBounds b o}
def bJ {w:kE}{n:Nat}{o:Obj}(h:n<w.heap.size):(setObj w n o).heap[n]?=some o:=by simp[setObj,h]
def iJ {w:kE}{n i:Nat}{o:Obj}(h:i≠n):(setObj w n o).heap[i]?=w.heap[i]?:=by
 simp only[setObj];rw[Array.getElem?_setIfInBounds_ne (mV h)]
@[simp] theorem qA {w:kE}{n:Nat}{o:Obj}:(setObj w n o).heap.size=w.heap.size:=by simp[setObj]
theorem Step.write {μ:Mu}{h:H}{w:kE}(r:RH NG μ h w){id:Nat}{n b':Blk}{l:Loc}(hg:h.get id=some n)(ho:n.owned=true)
 (ho':b'.owned=true) (hl:μ id=some l) {o:Obj} (hb:BR μ b' l (setObj w l.blk o)):Step NG μ h w μ (h.put id b') (setObj w l.blk o) where
 wf:=r.wf
 le:=fun _ _ h=>h
 old:=fun _ _=>rfl
 out:=fun _ _=>rfl
 next:=kQ _
 rh:={
  ng:=r.ng
  wf:=fun j c a=>by
   rw[H.get_put]at a;split at a
   ·rename_i e;subst e;exact r.wf _ _ hg
   ·exact r.wf _ _ a
  br:=fun j c m a b=>by
   rw[H.get_put]at a;split at a
   ·rename_i e;subst e;simp at a;subst a;rw[hl]at b;simp at b;subst b;exact hb
   ·rename_i e;exact(r.br j c m a b).congr (iJ (r.inj id n l j c m hg ho hl a b e))
  inj:=fun j c m p s q a g b d i f=>by
   rw[H.get_put]at a d;split at a
   ·rename_i e;subst e;rw[kL f]at d;rw[hl]at b;simp at b;subst b;exact r.inj j n l p s q hg ho hl d i f
   ·rename_i e;split at d
    ·rename_i t;subst t;exact r.inj j c m p n q a g b hg i f
    ·exact r.inj j c m p s q a g b d i f
  bd:=fun j m b=>by simpa using r.bd j m b
  gl:=r.gl}
 size:=by simp
 os:=rfl
 tape:=rfl
 output:=rfl
 frame:=fun k v u=>iJ (mV (u id n l hg ho hl))
 src:=fun j c m a g b=>by
  rw[H.get_put]at a;split at a
  ·rename_i e;subst e;rw[hl]at b;simp at b;subst b;exact .inr ⟨_,n,l,hg,ho,hl,rfl⟩
  ·exact .inr ⟨j,c,m,a,g,b,rfl⟩
 unm:=fun j c a b=>by
  rw[H.get_put,kL (fun e=>by subst e;rw[hl]at b;simp at b)];exact a
 dead:=fun j _ a=>by
  rw[H.get_put,kL (fun e=>by subst e;rw[hg]at a;simp at a)];exact a
 ro:=fun j c a g=>by
  rw[H.get_put]at a;split at a
  ·simp only[kP]at a;subst a;rw[ho']at g;simp at g
  ·exact a
def Mu.set (μ:Mu)(id:Nat)(l:Loc):Mu:=fun j=>if j=id then some l else μ j
def Mu.set_same (a:Mu)(id:Nat)(l:Loc):a.set id l id=some l:=by simp[Mu.set]
def Mu.set_ne (a:Mu){id n:Nat}(l:Loc)(h:n≠id):a.set id l n=a n:=by simp[Mu.set,h]
def Mu.le_set {μ:Mu}{id:Nat}{l:Loc}(h:μ id=none):μ.le (μ.set id l):=fun j m a=>by
 rw[Mu.set_ne _ _ (fun e=>by subst e;rw[h]at a;simp at a)];exact a
def Step.push {μ:Mu}{h:H}{w W:kE}(r:RH NG μ h w)(z:μ h.next=none){b:Blk}(v:b.owned=true){l:Loc}{o:Obj}
 (y:W.heap=w.heap.push o) (x:W.os=w.os) (G:W.tape=w.tape) (s:W.output=w.output)
 (K:l.blk=w.heap.size) (D:BR (μ.set h.next l) b l W):Step NG μ h w (μ.set h.next l) (h.push b) W:=by
 have n:∀k,k<w.heap.size→W.heap[k]?=w.heap[k]?:=fun k B=>by
  rw[y,Array.getElem?_push,kL (by omega)]
 exact{
 wf:=r.wf
 le:=Mu.le_set z
 old:=fun j a=>Mu.set_ne _ _ (by omega)
 out:=fun j a=>Mu.set_ne _ _ (by simp at a;omega)
 next:=by simp
 rh:={
  ng:=by have:=r.ng;simp;omega
  wf:=fun j c a=>by
   rw[H.get_push]at a;split at a
   ·rename_i e;subst e;simp
   ·have:=r.wf _ _ a;simp;omega
  br:=fun j c m a d=>by
   rw[H.get_push]at a;split at a
   ·rename_i e;subst e;simp at a;subst a;rw[Mu.set_same]at d;simp at d;subst d;exact D
   ·rename_i e;rw[Mu.set_ne _ _ e]at d;exact((r.br j c m a d).congr (n _ (r.bd _ _ d))).mono (Mu.le_set z)
  inj:=fun j c m I C J a q d i f p=>by
   rw[H.get_push]at a i;split at a
   ·rename_i e;subst e;rw[kL p]at i;rw[Mu.set_same]at d;simp at d;subst d;rw[Mu.set_ne _ _ p]at f;have:=r.bd _ _ f;omega
   ·rename_i e;rw[Mu.set_ne _ _ e]at d;split at i
    ·rename_i t;subst t;rw[Mu.set_same]at f;simp at f;subst f;have:=r.bd _ _ d;omega
    ·rename_i t;rw[Mu.set_ne _ _ t]at f;exact r.inj j c m I C J a q d i f p
  bd:=fun j m d=>by
   rw[y];simp only[Array.size_push];by_cases e:j=h.next
   ·subst e;rw[Mu.set_same]at d;simp at d;subst d;omega
   ·rw[Mu.set_ne _ _ e]at d;have:=r.bd _ _ d;omega
  gl:=fun g u=>by
   rw[Mu.set_ne _ _ (show g≠h.next by have:=r.ng;omega)];exact r.gl _ u}
 size:=by rw[y];simp
 os:=x
 tape:=G
 output:=s
 frame:=fun k B _=>n k B
 src:=fun j c m a q d=>by
  rw[H.get_push]at a;split at a
  ·rename_i e;subst e;rw[Mu.set_same]at d;simp at d;subst d;exact .inl (by omega)
  ·rename_i e;rw[Mu.set_ne _ _ e]at d;exact .inr ⟨j,c,m,a,q,d,rfl⟩
 unm:=fun j c a d=>by
  rw[H.get_push,kL (fun e=>by subst e;have:=r.wf _ _ a;omega)];exact a
 dead:=fun j a E=>by
  rw[H.get_push,kL (by omega)];exact E
 ro:=fun j c a q=>by
  rw[H.get_push]at a;split at a
  ·simp only[kP]at a;subst a;rw[v]at q;simp at q
  ·exact a}
def Step.grow {M:Mu}{h:H}{w:kE}(r:RH NG M h w)(y:M h.next=none){id:Nat}{b v:Blk}{l l':Loc}
 (u:h.get id=some b) (z:b.owned=true) (D:v.owned=true) (s:M id=some l) (p:l'.blk=l.blk) {o:Obj}
 (K:BR (M.set h.next l') v l' (setObj w l.blk o)):Step NG M h w (M.set h.next l') ((h.kill id).push v) (setObj w l.blk o):=by
 have G:id<h.next:=r.wf _ _ u;have f:∀j,((h.kill id).push v).get j=if j=h.next then some v else if j=id then none else h.get j:=fun j=>by
  rw[H.get_push,H.get_kill];rfl
 exact{
 wf:=r.wf
 le:=Mu.le_set y
 old:=fun j a=>Mu.set_ne _ _ (by omega)
 out:=fun j a=>Mu.set_ne _ _ (by simp at a;omega)
 next:=by simp
 rh:={
  ng:=by have:=r.ng;simp;omega
  wf:=fun j c a=>by
   rw[f]at a;split at a
   ·rename_i e;subst e;simp
   ·split at a
    ·simp at a
    ·have:=r.wf _ _ a;simp;omega
  br:=fun j c m a d=>by
   rw[f]at a;split at a
   ·rename_i e;subst e;simp at a;subst a;rw[Mu.set_same]at d;simp at d;subst d;exact K
   ·rename_i e;rw[Mu.set_ne _ _ e]at d;split at a
    ·simp at a
    ·rename_i x;exact((r.br j c m a d).congr (iJ (r.inj id b l j c m u z s a d x))).mono (Mu.le_set y)
  inj:=fun j c m I E J a q d i n t=>by
   rw[f]at a i;split at a
   ·rename_i e;subst e;rw[kL t]at i;rw[Mu.set_same]at d;simp at d;subst d;rw[Mu.set_ne _ _ t]at n;split at i
    ·simp at i
    ·rename_i x;rw[p];exact r.inj id b l I E J u z s i n x
   ·rename_i e;rw[Mu.set_ne _ _ e]at d;split at a
    ·simp at a
    ·rename_i x;split at i
     ·rename_i B;subst B;rw[Mu.set_same]at n;simp at n;subst n;rw[p];exact r.inj j c m id b l a q d u s (mV x)
     ·rename_i B;rw[Mu.set_ne _ _ B]at n;split at i
      ·simp at i
      ·exact r.inj j c m I E J a q d i n t
  bd:=fun j m d=>by
   simp only[qA];by_cases e:j=h.next
   ·subst e;rw[Mu.set_same]at d;simp at d;subst d;rw[p];exact r.bd _ _ s
   ·rw[Mu.set_ne _ _ e]at d;exact r.bd _ _ d
  gl:=fun g C=>by
   rw[Mu.set_ne _ _ (show g≠h.next by have:=r.ng;omega)];exact r.gl _ C}
 size:=by simp
 os:=rfl
 tape:=rfl
 output:=rfl
 frame:=fun k O y=>iJ (mV (y id b l u z s))
 src:=fun j c m a q d=>by
  rw[f]at a;split at a
  ·rename_i e;subst e;rw[Mu.set_same]at d;simp at d;subst d;exact .inr ⟨id,b,l,u,z,s,p.symm⟩
  ·rename_i e;rw[Mu.set_ne _ _ e]at d;split at a
   ·simp at a
   ·exact .inr ⟨j,c,m,a,q,d,rfl⟩
 unm:=fun j c a d=>by
  have N:=r.wf _ _ a;rw[f,kL (by omega),kL (fun e=>by subst e;rw[s]at d;simp at d)];exact a
 dead:=fun j a L=>by
  rw[f,kL (by omega)];split
  ·rfl
  ·exact L
 ro:=fun j c a q=>by
  rw[f]at a;split at a
  ·simp only[kP]at a;subst a;rw[D]at q;simp at q
  ·split at a
   ·simp at a
   ·exact a}
def Step.kill {M:Mu}{h:H}{w:kE}(r:RH NG M h w)(id:Nat)(b:Blk)(l:Loc)(s:h.get id=some b)(o:M id=some l):
 Step NG M h w M (h.kill id) w where
 wf:=r.wf
 le:=fun _ _ h=>h
 old:=fun _ _=>rfl
 out:=fun _ _=>rfl
 next:=kQ _
 rh:={
  ng:=r.ng
  wf:=fun j c a=>by
   rw[H.get_kill]at a;split at a
   ·simp at a
   ·exact r.wf _ _ a
  br:=fun j c m a f=>by
   rw[H.get_kill]at a;split at a
   ·simp at a
   ·exact r.br _ _ _ a f
  inj:=fun j c m p k q a g f d i n=>by
   rw[H.get_kill]at a d;split at a
   ·simp at a
   ·split at d
    ·simp at d
    ·exact r.inj j c m p k q a g f d i n
  bd:=r.bd
  gl:=r.gl}
 size:=kQ _
 os:=rfl
 tape:=rfl
 output:=rfl
 frame:=fun _ _ _=>rfl
 src:=fun j c m a g f=>by
  rw[H.get_kill]at a;split at a
  ·simp at a
  ·exact .inr ⟨j,c,m,a,g,f,rfl⟩
 unm:=fun j c a f=>by
  rw[H.get_kill,kL (fun e=>by subst e;rw[o]at f;simp at f)];exact a
 dead:=fun j _ a=>by
  rw[H.get_kill];split
  ·rfl
  ·exact a
 ro:=fun j c a _=>by
  rw[H.get_kill]at a;split at a
  ·simp at a
  ·exact a
section
variable (P:kD)
def eK (b o i:Nat):(⟨b,o,none⟩:Addr).add i=⟨b,o+i,none⟩:=by unfold Addr.add;split<;>simp_all
def nN (w:kE)(b o:Nat)(c:kH kA)(t:kF)(f:Nat×Nat)(d:w.heap[b]?=some (.cells c t f))(n:Nat)
 (e:o+n≤c.size):(loadCells ⟨b,o,none⟩ n).run P w=.ok ⟨(c.toList.drop o).take n⟩ w:=by
 have h:((c.toList.drop o).take n).length=n:=by simp;omega
 have:=run_loadCells_list (P:=P) w ⟨b,o,none⟩ ((c.toList.drop o).take n) (fun j v a=>by
  rw[eK];simp only[World.cell?,d,dX,pP,mD];rw[sK]at a;split at a
  ·rw[sL]at a;rw[←Array.getElem?_toList];exact a
  ·simp at a)
 rw[h]at this;exact this
def aUc (w:kE)(b o:Nat)(c:kH kA)(t:kF)(f:Nat×Nat)(h:w.heap[b]?=some (.cells c t f))(v:kA)
 (a:c[o]?=some v):(load ⟨b,o,none⟩).run P w=.ok v w:=by
 have:w.cell? ⟨b,o,none⟩=some v:=by simp[World.cell?,h,a]
 simp[this]
def aOr (w:kE)(b o:Nat)(c:kH kA)(t:kF)(f:Nat×Nat)(e:w.heap[b]?=some (.cells c t f))
 (n:o<c.size) (j:¬(f.1≤o∧o<f.2)) (v:kA) (p:cellish v=true):
 (store ⟨b,o,none⟩ v).run P w=.ok () (setObj w b (.cells (c.setIfInBounds o v) t f)):=by
 have l:b<w.heap.size:=(sT.1 e).1;have k:w.heap[b]=.cells c t f:=(sT.1 e).2;have h:w.cell? ⟨b,o,none⟩=some c[o]:=by simp[World.cell?,e,n]
 have a:w.frozen? ⟨b,o,none⟩=false:=by
  simp only[World.frozen?,e];by_cases d:f.1≤o
  ·have g:¬o<f.2:=fun g=>j ⟨d,g⟩;simp[g]
  ·simp[d]
 have d:v.oneCell'=true:=by cases v<;>simp_all [cellish,Value.oneCell']
 rw[run_store P w _ v _ d,h];simp only[a,pP,mD];congr 1;simp only[World.setCell,setObj,dX,pP,mD];congr 1;apply Array.ext_getElem?;intro i;rw[Array.getElem?_modify,Array.getElem?_setIfInBounds];by_cases m:b=i
 ·subst m;simp[l,k]
 ·simp[m]
def splice (c:kC kA)(o:Nat)(v:kC kA):kC kA:=c.take o++v++c.drop (o+v.length)
def aZ (c:kC kA)(o:Nat)(v:kC kA)(h:o+v.length≤c.length):(splice c o v).length=c.length:=by
 simp[splice];omega
def dK (c:kC kA)(o:Nat)(v:kC kA)(h:o+v.length≤c.length)(i:Nat):
 (splice c o v)[i]?=if i<o then c[i]? else if i<o+v.length then v[i-o]? else c[i]?:=by
 unfold splice;by_cases a:i<o
 ·rw[kM a,sH,pJ (by simp;omega),sK,kM a]
 ·rw[kL a];by_cases b:i<o+v.length
  ·rw[kM b,sH,pK (by simp;omega),pJ (by simp;omega)];congr 1;simp;omega
  ·rw[kL b,pK (by simp;omega),sL];congr 1;simp;omega
def xC (c:kC kA)(o:Nat)(v:kA)(s:kC kA)(h:o+(s.length+1)≤c.length):
 splice (c.set o v) (o+1) s=splice c o (v::s):=by
 apply mT;intro i;rw[dK _ _ _ (by simp;omega),dK _ _ _ (by simpa using h)];simp only[kY,rE];by_cases a:i<o
 ·rw[kM (by omega),kL (by omega),kM a]
 ·by_cases b:i=o
  ·subst b;have:i<c.length:=by omega
   simp[this]
  ·rw[kL (by omega),kL a];by_cases h3:i<o+1+s.length
   ·rw[kM h3,kM (by omega)];rw[show i-o=(i-(o+1))+1 by omega];rfl
   ·rw[kL h3,kL (by omega),kL (by omega)]
def jQ:∀(s:kC kA) (w:kE) (b o i:Nat) (c:kH kA) (t:kF) (f:Nat×Nat),w.heap[b]?=some (.cells c t f)→
 o+i+s.length≤c.size→(∀j,j<c.size→¬(f.1≤j∧j<f.2))→(∀v∈s,cellish v=true)→
 (storeCells ⟨b,o,none⟩ s i).run P w=.ok () (setObj w b (.cells ⟨splice c.toList (o+i) s⟩ t f))
 |[],w,b,o,i,c,t,f,hb,hn,hfz,hv=>by
  have h:b<w.heap.size:=(sT.1 hb).1;have a:w.heap[b]=.cells c t f:=(sT.1 hb).2;have e:splice c.toList (o+i) []=c.toList:=by simp[splice]
  rw[e];have:setObj w b (.cells ⟨c.toList⟩ t f)=w:=by
   simp only[setObj];have:w.heap.setIfInBounds b (.cells ⟨c.toList⟩ t f)=w.heap:=by
    apply Array.ext_getElem?;intro j;rw[Array.getElem?_setIfInBounds];split
    ·rename_i k;subst k;simp[h,a]
    ·rfl
   rw[this]
  rw[this];rfl
 |v::s,w,b,o,i,c,t,f,hb,hn,hfz,hv=>by
  have h:b<w.heap.size:=(sT.1 hb).1;have d:o+i<c.size:=by simp at hn;omega
  have g:=aOr P w b (o+i) c t f hb d (hfz _ d) v (hv v (by simp));have m:=jQ s (setObj w b (.cells (c.setIfInBounds (o+i) v) t f)) b o (i+1) (c.setIfInBounds (o+i) v) t f
   (bJ h) (by simp at hn⊢;omega) (by simpa using hfz) (fun x l=>hv x (by simp[l]))
  simp only[storeCells,eK,pD,g,pC,m];congr 1;simp only[setObj,Array.setIfInBounds_setIfInBounds];congr 3;simp only[Array.toList_setIfInBounds];rw[show o+(i+1)=o+i+1 by omega,xC _ _ _ _ (by simp at hn⊢;omega)]
end
end
abbrev rS (v:kA)(h:H):kB (kA×H):=some (v,h)
abbrev CF:=kI→kC kA→H→kB (kA×H)
def ev {Y:Type}(P:kD):Sem Y→kB Y
  | .pure a=>some a
  | .program k=>ev P (k P)
  | .mark _ k=>ev P k
  |_=>none
def aCn {Y:Type}(P:kD):∀(s:Sem Y) (a:Y),ev P s=some a→∀w,s.run P w=.ok a w:=by
  intro s
  induction s with
  |pure a=>intro b h w;simp only[ev,kP]at h;subst h;rfl
  |program k i=>intro b h w;exact i P b h w
  |mark m k i=>intro b h w;exact i b h w
  |_=>intros;simp_all [ev]
def szP (P:kD)(t:kF):kB Nat:=(P.info? t).map (·.size)
def oV (P:kD)(t:kF):kB Nat:=(P.info? t).map (·.bytes)
def wF (P:kD)(t:kF):kB kF:=match P.underlying t with|some (.slice e)=>some e|_=>none
def aFj (P:kD)(t:kF):kB Bool:=match P.underlying t with|some (.struct _)|some (.array _ _)=>some true|some _=>some false|none=>none
def bEe (P:kD)(t:kF):kB (kF×kF):=match P.underlying t with|some (.map k e)=>some (k,e)|_=>none
def uI (P:kD)(t:kF)(i:Nat):kB Field:=match P.underlying t with|some (.struct fs)=>fs[i]?|_=>none
def jN (P:kD)(t:kF):kB kA:=(P.types[t]?).bind (·.zero)
def aL (P:kD):Bool:=P.types.toList.all fun i=>match i.zero with|some z=>aJ z|none=>true
def aN:kA→kB (kC kA)
  | .agg ⟨cs⟩=>some cs
  | .tuple _=>none
  |v=>some [v]
namespace A
def load1 (v:kA)(h:H):kB kA:=
  match v with
  | .pointer (some ⟨id,off,none⟩)=>match h.get id with
    |some (.cells cs _)=>cs[off]?
    |_=>none
  |_=>none
def loadN (n:Nat)(v:kA)(h:H):kB kA:=
  match v with
  | .pointer (some ⟨id,off,none⟩)=>match h.get id with
    |some (.cells cs _)=>bif Nat.ble (off+n) cs.length then some (.agg ⟨(cs.drop off).take n⟩)else none
    |_=>none
  |_=>none
def load (agg:Bool)(n:Nat)(v:kA)(h:H):kB kA:=bif agg then loadN n v h else load1 v h
def store (n:Nat)(p v:kA)(h:H):kB H:=
  match p with
  | .pointer (some ⟨id,off,none⟩)=>match h.get id,aN v with
    |some (.cells cs (some es)),some vs=>bif Nat.beq vs.length n&&Nat.ble (off+n) cs.length then some (h.put id (.cells (splice cs off vs) (some es)))else none
    |_,_=>none
  |_=>none
def box (n:Nat)(v:kA)(h:H):kB (kA×H):=
  match aN v with
  |some s=>bif Nat.beq s.length n then some (.pointer (some ⟨h.next,0,none⟩),h.push (.cells s (some 0)))else none
  |none=>none
def zA (f:Nat)(v:kA):kB kA:=
  match v with
  | .pointer (some ⟨id,o,none⟩)=>some (.pointer (some ⟨id,o+f,none⟩))
  |_=>none
def zR (v:kA):kB kA:=
  match v with
  | .pointer (some a)=>some (.pointer (some a))
  |_=>none
def zB (s:Nat)(x a:kA):kB kA:=
  match x,a with
  | .slice (some ⟨id,off,none⟩) len _,.int _ (.ofNat i)=>bif Nat.blt i len then some (.pointer (some ⟨id,off+i*s,none⟩))else none
  |_,_=>none
def yL (l s:Nat)(x a:kA):kB kA:=
  match x,a with
  | .pointer (some ⟨id,off,none⟩),.int _ (.ofNat i)=>bif Nat.blt i l then some (.pointer (some ⟨id,off+i*s,none⟩))else none
  |_,_=>none
def part (agg:Bool)(n o:Nat)(x:kA):kB kA:=
  match x with
  | .agg ⟨cs⟩=>bif agg then(bif Nat.ble (o+n) cs.length then some (.agg ⟨(cs.drop o).take n⟩)else none)else cs[o]?
  |_=>none
def index (agg:Bool)(l s:Nat)(x a:kA):kB kA:=
  match a with
  | .int _ (.ofNat i)=>bif Nat.blt i l then part agg s (i*s) x else none
  |_=>none
def u (i:Nat)(x:kA):kB kA:=
  match x with
  | .tuple ⟨vs⟩=>vs[i]?
  |_=>none
def yG (c:kC kA):kC (Nat×Nat×kA)→kB (kC kA)
  |[]=>some c
  |(off,size,v)::r=>match aN v with
    |some s=>bif Nat.beq s.length size&&Nat.ble (off+size) c.length then yG (splice c off s) r else none
    |none=>none
def zI (zero:kC kA)(p:kC (Nat×Nat×kA)):kB kA:=(yG zero p).map fun c=>.agg ⟨c⟩
def zeros (zero:kC kA):Nat→kC kA
  |0=>[]
  |n+1=>zero++zeros zero n
def zC (s l:Nat)(zero:kC kA)(p:kC (Nat×Nat×kA))(h:H):kB (kA×H):=
  (yG (zeros zero l) p).map fun c=>(.slice (some ⟨h.next,0,none⟩) l (2*l+1),h.push (.cells c (some s)))
def zP (s:Nat)(b:Nat)(zero:kC kA)(l c:kA)(h:H):kB (kA×H):=
  match l,c with
  | .int _ (.ofNat l),.int _ (.ofNat c)=>
    bif Nat.ble l c&&Nat.ble (b*c) (2^47)&&Nat.ble c (2^47)then some (.slice (some ⟨h.next,0,none⟩) l (2*c+1),h.push (.cells (zeros zero c) (some s)))else none
  |_,_=>none
def zE (v:kA):kB kA:=
  match v with
  | .slice _ n _=>some (.int .i64 n)
  |_=>none
def zH (v:kA):kB kA:=
  match v with
  | .string s=>some (.int .i64 s.size)
  |_=>none
def lenM (v:kA)(h:H):kB kA:=
  match v with
  | .map none=>some (.int .i64 0)
  | .map (some id)=>match h.get id with
    |some (.map es _)=>some (.int .i64 es.length)
    |_=>none
  |_=>none
def zQ (y:Nat):kB kA→kB (kB Nat)
  |none=>some none
  |some (.int _ (.ofNat i))=>bif Nat.ble i y then some (some i)else none
  |_=>none
def yH (s id:Nat)(h:H):Bool:=
  match h.get id with
  |some (.cells _ (some es))=>Nat.beq es s
  |_=>false
def zK (s:Nat)(x:kA)(o i a:kB kA)(h:H):kB kA:=
  bif a.isSome&&i.isNone then none else
  match x with
  | .slice (some ⟨id,off,none⟩) len c=>
    match zQ (c / 2) a with
    |none=>none
    |some m=>match zQ (m.getD (c / 2)) i with
      |none=>none
      |some r=>match zQ (r.getD len) o with
        |none=>none
        |some l=>
          bif Nat.beq (c%2) 1||m.isSome||Nat.beq (l.getD 0) 0||yH s id h then
          some (.slice (some ⟨id,off+l.getD 0*s,none⟩) (r.getD len-l.getD 0)
            (match m with|some m=>2*(m-l.getD 0)+1|none=>c-2*l.getD 0))
          else none
  | .slice none 0 0=>
    match zQ 0 a,zQ 0 i,zQ 0 o with
    |some _,some _,some _=>some (.slice none 0 0)
    |_,_,_=>none
  |_=>none
def yM (l s:Nat)(x:kA)(o i m:kB kA)(h:H):kB kA:=
  match x with
  | .pointer (some ⟨id,off,none⟩)=>zK s (.slice (some ⟨id,off,none⟩) l (2*l+1)) o i m h
  |_=>none
def elems (i:Nat)(x:kA)(h:H):kB (kC kA):=
  match x with
  | .slice none 0 0=>some []
  | .slice (some ⟨id,off,none⟩) n _=>bif Nat.beq n 0 then some []else match h.get id with
    |some (.cells cs _)=>bif Nat.ble (off+n*i) cs.length then some ((cs.drop off).take (n*i))else none
    |_=>none
  | .string s=>bif Nat.beq i 1 then some (s.data.toList.map fun b=>.int .u8 b.toNat)else none
  |_=>none
def zG:kA→Nat
  | .slice _ n _=>n
  | .string s=>s.size
  |_=>0
def zF (i b:Nat)(s x:kA)(h:H):kB (kA×H):=
  match elems i x h with
  |none=>none
  |some n=>
    match s with
    | .slice none 0 0=>
      bif Nat.beq (zG x) 0 then some (.slice none 0 0,h)
      else bif Nat.ble (zG x*b) (2^47)&&Nat.ble (zG x) (2^47)then some (.slice (some ⟨h.next,0,none⟩) (zG x) (2*zG x),h.push (.cells n (some i)))else none
    | .slice (some ⟨id,off,none⟩) len c=>
      bif Nat.beq (zG x) 0 then some (s,h)else
      match h.get id with
      |some (.cells cs (some es))=>
        bif Nat.ble (len+zG x) (c / 2)then
          (bif Nat.ble (off+(len+zG x)*i) cs.length then some (.slice (some ⟨id,off,none⟩) (len+zG x) c,h.put id (.cells (splice cs (off+len*i) n) (some es)))else none)
        else bif Nat.ble ((len+zG x)*b) (2^47)&&Nat.ble (len+zG x) (2^47)&&Nat.ble (off+len*i) cs.length then
          (bif Nat.beq (c%2) 1 then
            some (.slice (some ⟨h.next,0,none⟩) (len+zG x) (2*(len+zG x)),h.push (.cells ((cs.drop off).take (len*i)++n) (some i)))
          else bif Nat.beq (off+len*i) cs.length&&Nat.beq es i then
            some (.slice (some ⟨h.next,0,none⟩) (len+zG x) (2*(len+zG x)),(h.kill id).push (.cells (cs.drop off++n) (some i)))
          else none)
        else none
      |some (.cells cs none)=>
        bif Nat.ble ((len+zG x)*b) (2^47)&&Nat.ble (len+zG x) (2^47)&&Nat.ble (off+len*i) cs.length&&Nat.beq (c%2) 1&&Nat.blt (c / 2) (len+zG x)then
          some (.slice (some ⟨h.next,0,none⟩) (len+zG x) (2*(len+zG x)),h.push (.cells ((cs.drop off).take (len*i)++n) (some i)))
        else none
      |_=>none
    |_=>none
def yP (s:Nat)(d x:kA)(h:H):kB (kA×H):=
  match elems s x h with
  |none=>none
  |some n=>
    match d with
    | .slice none 0 0=>some (.int .i64 0,h)
    | .slice (some ⟨id,off,none⟩) len _=>
      bif Nat.beq (Nat.min (zG x) len) 0 then some (.int .i64 0,h)else
      match h.get id with
      |some (.cells cs (some es))=>
        bif Nat.ble (off+Nat.min (zG x) len*s) cs.length then
          some (.int .i64 (Nat.min (zG x) len),h.put id (.cells (splice cs off (n.take (Nat.min (zG x) len*s))) (some es)))
        else none
      |_=>none
    |_=>none
def clear (s:Nat)(z:kC kA)(x:kA)(h:H):kB H:=
  match x with
  | .slice none 0 0=>some h
  | .slice (some ⟨id,off,none⟩) n _=>
    bif Nat.beq n 0 then some h else
    match h.get id with
    |some (.cells cs (some es))=>bif Nat.ble (off+n*s) cs.length then some (h.put id (.cells (splice cs off (zeros z n)) (some es)))else none
    |_=>none
  |_=>none
def zV:kC kA→kB (kC kG)
  |[]=>some []
  | .int .u8 n::r=>(zV r).map fun l=>UInt8.ofNat n.toNat::l
  |_::_=>none
def b2s (x:kA)(h:H):kB kA:=
  match x with
  | .slice none 0 0=>some (.string .empty)
  | .slice (some a) n c=>match elems 1 (.slice (some a) n c) h with
    |some v=>(zV v).map fun l=>.string ⟨⟨l⟩⟩
    |none=>none
  |_=>none
def s2b (x:kA)(h:H):kB (kA×H):=
  match x with
  | .string s=>bif Nat.ble s.size (2^47)then some (.slice (some ⟨h.next,0,none⟩) s.size (2*s.size),h.push (.cells (s.data.toList.map fun b=>.int .u8 b.toNat) (some 1)))else none
  |_=>none
def yI (P:kD)(t:kF)(a b:kA):kB Bool:=
  match P.underlying t,a,b with
  |some (.pointer _),.pointer x,.pointer y=>bif x.isNone then some y.isNone else bif y.isNone then some false else none
  |some (.slice _),.slice x _ _,.slice y _ _=>bif x.isNone then some y.isNone else bif y.isNone then some false else none
  |some (.map _ _),.map x,.map y=>bif x.isNone then some y.isNone else bif y.isNone then some false else none
  |some (.func _ _ _),.func _ _ _,.nilFunc=>some false
  |some (.func _ _ _),.nilFunc,.func _ _ _=>some false
  |_,_,_=>none
def binI (o:BinOp)(k:IntKind)(x y:Int):kB kA:=
  match o with
  | .add=>some (.int k (k.wrap (x+y)))
  | .sub=>some (.int k (k.wrap (x-y)))
  | .mul=>some (.int k (k.wrap (x*y)))
  | .quo=>bif y==0 then none else some (.int k (k.wrap (x.tdiv y)))
  | .rem=>bif y==0 then none else some (.int k (x.tmod y))
  | .and=>some (.int k (k.wrap (BitVec.ofInt k.bits x&&& BitVec.ofInt k.bits y).toNat))
  | .or=>some (.int k (k.wrap (BitVec.ofInt k.bits x|||BitVec.ofInt k.bits y).toNat))
  | .xor=>some (.int k (k.wrap (BitVec.ofInt k.bits x^^^BitVec.ofInt k.bits y).toNat))
  | .andNot=>some (.int k (k.wrap (BitVec.ofInt k.bits x&&& ~~~ BitVec.ofInt k.bits y).toNat))
  | .eql=>some (.bool (x==y))
  | .neq=>some (.bool (x != y))
  | .lss=>some (.bool (decide (x<y)))
  | .leq=>some (.bool (decide (x≤y)))
  | .gtr=>some (.bool (decide (y<x)))
  | .geq=>some (.bool (decide (y≤x)))
  | .shl| .shr=>none
def shI (o:BinOp)(k:IntKind)(x y:Int):kB kA:=
  bif decide (y<0)then none else
  match o with
  | .shl=>some (.int k (k.wrap (x*2^(min y.toNat k.bits))))
  | .shr=>some (.int k (x.fdiv (2^(min y.toNat k.bits))))
  |_=>none
def binS (o:BinOp)(x y:ByteArray):kB kA:=
  match o with
  | .add=>bif Nat.ble (x.size+y.size) 9223372036854775807 then some (.string ⟨⟨x.data.toList++y.data.toList⟩⟩)else none
  | .eql=>some (.bool (x.data.toList==y.data.toList))
  | .neq=>some (.bool (!(x.data.toList==y.data.toList)))
  | .lss=>some (.bool (Op.bytesLess x.data.toList y.data.toList))
  | .leq=>some (.bool (Op.bytesLess x.data.toList y.data.toList||x.data.toList==y.data.toList))
  | .gtr=>some (.bool (!(Op.bytesLess x.data.toList y.data.toList||x.data.toList==y.data.toList)))
  | .geq=>some (.bool (!(Op.bytesLess x.data.toList y.data.toList)))
  |_=>none
def yO (P:kD)(o:BinOp)(t:kF)(a b:kA):kB kA:=
  bif aJ a&&aJ b then
    (match ev P (do eqGuard o t (.tmp 0) (.tmp 0) a b;binOp o t a b)with
     |some v=>bif aJ v then some v else none
     |none=>none)
  else match o with
    | .eql=>(yI P t a b).map .bool
    | .neq=>(yI P t a b).map fun x=>.bool (!x)
    |_=>none
def eqFs (P:kD)(e:kF→kA→kA→kB Bool)(x y:kA):kC Field→kB Bool
  |[]=>some true
  |f::r=>
    bif f.name== "_" then eqFs P e x y r else
    match aFj P f.type,szP P f.type with
    |some g,some n=>
      (match part g n f.offset x,part g n f.offset y with
       |some a,some b=>(match e f.type a b with
         |some q=>bif q then eqFs P e x y r else some false
         |none=>none)
       |_,_=>none)
    |_,_=>none
def eqV (P:kD):Nat→kF→kA→kA→kB Bool
  |0,_,_,_=>none
  |d+1,t,a,b=>
    match P.underlying t with
    |some .bool=>(match a,b with| .bool x,.bool y=>some (x==y)|_,_=>none)
    |some (.int _)=>(match a,b with| .int k x,.int j y=>bif k==j then some (x==y)else none|_,_=>none)
    |some .string=>(match a,b with| .string x,.string y=>some (x.data.toList==y.data.toList)|_,_=>none)
    |some (.struct fs)=>(match a,b with| .agg x,.agg y=>bif P.stoodInHeld t then none else eqFs P (eqV P d) (.agg x) (.agg y) fs.toList|_,_=>none)
    |_=>none
def eqA (P:kD)(o:BinOp)(t:kF)(a b:kA):kB kA:=
  bif aJ a&&aJ b then
    (bif P.eqGuardType P.depth t then none else
     match o with
     | .eql=>(match eqV P 20 t a b with|some r=>some (.bool r)|none=>none)
     | .neq=>(match eqV P 20 t a b with|some r=>some (.bool (!r))|none=>none)
     |_=>none)
  else none
def z (P:kD)(op:BinOp)(t:kF)(a b:kA):kB kA:=
  match a,b with
  | .agg x,.agg y=>eqA P op t (.agg x) (.agg y)
  | .bool x,.bool y=>(match op with| .eql=>(match P.underlying t with|some .bool=>some (.bool (x==y))|_=>none)| .neq=>(match P.underlying t with|some .bool=>some (.bool (!(x==y)))|_=>none)|_=>none)
  | .int k x,.int j y=>
    (match op with
     | .shl| .shr=>shI op k x y
     |op=>bif k==j then binI op k x y else none)
  | .string x,.string y=>binS op x y
  |a,b=>yO P op t a b
def un (P:kD)(o:UnOp)(a:kA):kB kA:=
  match o,a with
  | .not,.bool b=>some (.bool (!b))
  |o,a=>bif aJ a then(match ev P (Op.unary o a)with|some v=>bif aJ v then some v else none|none=>none)else none
def conv (P:kD)(s d:kF)(a:kA):kB kA:=
  match P.underlying s,P.underlying d,a with
  |some _,some (.int k),.int _ n=>some (.int k (k.wrap n))
  |_,_,a=>bif aJ a then(match ev P (convert s d a)with|some v=>bif aJ v then some v else none|none=>none)else none
def zD (x a:kA):kB kA:=
  match x,a with
  | .string s,.int _ (.ofNat i)=>match s.data.toList[i]? with
    |some b=>some (.int .u8 b.toNat)
    |none=>none
  |_,_=>none
def zN (x:kA)(o i:kB kA):kB kA:=
  match x with
  | .string s=>
    match zQ s.size i with
    |none=>none
    |some h=>match zQ (h.getD s.size) o with
      |none=>none
      |some l=>some (.string ⟨⟨(s.data.toList.drop (l.getD 0)).take (h.getD s.size-l.getD 0)⟩⟩)
  |_=>none
def zS (P:kD)(b:Builtin)(a:kH kF)(t:kF)(s:kC kA):kB kA:=
  bif eU s then
    match(match b with
      | .min=>ev P (Builtin.min_ a t ⟨s⟩)
      | .max=>ev P (Builtin.max_ a t ⟨s⟩)
      |_=>none)with
    |some v=>bif aJ v then some v else none
    |none=>none
  else none
def yB (P:kD)(t:kF)(k:kA):Bool:=
  match P.underlying t,k with
  |some (.int _),.int _ _=>true
  |some .string,.string _=>true
  |_,_=>false
def keyT (P:kD)(t:kF):kB Bool:=
  match P.underlying t with
  |some (.int _)=>some false
  |some .string=>some true
  |_=>none
def keyS (s:Bool)(k:kA):Bool:=
  match k with
  | .int _ _=>bif s then false else true
  | .string _=>s
  |_=>false
def yD (k e:kA):kB Bool:=
  match k,e with
  | .int a x,.int b y=>bif a==b then some (x==y)else none
  | .string x,.string y=>some (x.data.toList==y.data.toList)
  |_,_=>none
def findE (k:kA):kC Ent→Nat→kB (kB (Nat×kA))
  |[],_=>some none
  |e::r,i=>match yD k e.key with
    |some b=>bif b then some (some (i,e.val))else findE k r (i+1)
    |none=>none
def yQ (c:Bool)(v:kA)(o:Bool):kA:=bif c then .tuple ⟨[v,.bool o]⟩else v
def yA (zero:kA)(c:Bool)(k x:kA)(h:H):kB kA:=
  match x with
  | .map none=>some (yQ c zero false)
  | .map (some id)=>match h.get id with
    |some (.map es _)=>match findE k es 0 with
      |some (some (_,v))=>some (yQ c v true)
      |some none=>some (yQ c zero false)
      |none=>none
    |_=>none
  |_=>none
def yE (v:kA):kC Ent→Nat→kC Ent
  |[],_=>[]
  |e::r,0=>⟨e.key,v,e.born⟩::r
  |e::r,i+1=>e::yE v r i
def zU (k v x:kA)(h:H):kB H:=
  match x with
  | .map (some id)=>match h.get id with
    |some (.map es c)=>match findE k es 0 with
      |some (some (i,_))=>some (h.put id (.map (yE v es i) c))
      |some none=>some (h.put id (.map (es++[⟨k,v,c⟩]) (c+1)))
      |none=>none
    |_=>none
  |_=>none
def yJ (k x:kA)(h:H):kB H:=
  match x with
  | .map none=>some h
  | .map (some id)=>match h.get id with
    |some (.map es c)=>match findE k es 0 with
      |some (some (i,_))=>some (h.put id (.map (es.eraseIdx i) c))
      |some none=>some h
      |none=>none
    |_=>none
  |_=>none
def zJ (s:Bool)(zero:kA)(c:Bool)(k x:kA)(h:H):kB kA:=bif keyS s k then yA zero c k x h else none
def zM (s:Bool)(k v x:kA)(h:H):kB H:=bif keyS s k then zU k v x h else none
def zY (s:Bool)(k x:kA)(h:H):kB H:=bif keyS s k then yJ k x h else none
def zL (h:H):kB (kA×H):=some (.map (some h.next),h.push (.map [] 0))
def yN (x:kA)(h:H):kB H:=
  match x with
  | .map none=>some h
  | .map (some id)=>match h.get id with
    |some (.map _ c)=>some (h.put id (.map [] c))
    |_=>none
  |_=>none
def yF (x:kA)(h:H):kB (kA×H):=
  match x with
  | .string s=>some (.pointer (some ⟨h.next,0,none⟩),h.push (.siter s 0))
  | .map none=>some (.pointer (some ⟨h.next,0,none⟩),h.push (.miter none 0 [] 0))
  | .map (some id)=>match h.get id with
    |some (.map _ c)=>some (.pointer (some ⟨h.next,0,none⟩),h.push (.miter (some id) c [] c))
    |_=>none
  |_=>none
def zZ (x:kA)(h:H):kB (kA×H):=match x with| .string s=>yF (.string s) h|_=>none
def zX (x:kA)(h:H):kB (kA×H):=match x with| .map m=>yF (.map m) h|_=>none
def zO (s:ByteArray)(p:Nat):kB (Nat×Nat):=
  match s.data.toList[p]? with
  |some b=>bif Nat.blt b.toNat 128 then some (b.toNat,1)else some (Utf8.decode s p)
  |none=>none
def yC (x:kA)(h:H):kB (kA×H):=
  match x with
  | .pointer (some ⟨id,0,none⟩)=>match h.get id with
    |some (.siter s pos)=>
      (match zO s pos with
       |some (c,w)=>some (.tuple ⟨[.bool true,.int .i64 pos,.int .i32 c]⟩,h.put id (.siter s (pos+w)))
       |none=>some (.tuple ⟨[.bool false]⟩,h))
    |_=>none
  |_=>none
def zW (l:kC Nat)(e:Ent):Bool:=l.any (Nat.beq e.born)
def yK (x:kA)(h:H):kB (kA×H):=
  match x with
  | .pointer (some ⟨id,0,none⟩)=>match h.get id with
    |some (.miter none _ _ _)=>some (.tuple ⟨[.bool false]⟩,h)
    |some (.miter (some m) since seen last)=>match h.get m with
      |some (.map es clock)=>
        bif !seen.isEmpty&&!es.isEmpty&&es.all (fun e=>Nat.ble last e.born)then none else
        (match es.filter fun e=>!zW seen e with
         |[]=>some (.tuple ⟨[.bool false]⟩,h)
         |[e]=>bif Nat.blt e.born since then some (.tuple ⟨[.bool true,e.key,e.val]⟩,h.put id (.miter (some m) since (seen++[e.born]) clock))else none
         |_=>none)
      |_=>none
    |_=>none
  |_=>none
def lastL:kC Nat→kB Nat
  |[]=>none
  |[a]=>some a
  |_::r=>lastL r
def findB (b:Nat):kC Ent→kB Ent
  |[]=>none
  |e::r=>bif Nat.beq e.born b then some e else findB b r
def zT (x:kA)(h:H):kB kA:=
  match x with
  | .pointer (some ⟨id,0,none⟩)=>match h.get id with
    |some (.miter (some m) _ seen last)=>match lastL seen,h.get m with
      |some b,some (.map es clock)=>bif Nat.beq clock last then(match findB b es with|some e=>some (.tuple ⟨[e.key,e.val]⟩)|none=>none)else none
      |_,_=>none
    |_=>none
  |_=>none
end A
def aH (N:Nat)(r:T kA)(_h:H):kK→kB kA
  | .tmp t=>r.get t
  | .const v=>bif aJ v then some v else none
  | .global g=>bif Nat.blt g N then some (.pointer (some ⟨g,0,none⟩))else none
  | .func f=>some (.func (.func f) #[] #[])
def eT (ρ:kK→kB kA):kC kK→kB (kC kA)
  |[]=>some []
  |x::r=>match ρ x with
    |some v=>(match eT ρ r with|some s=>some (v::s)|none=>none)
    |none=>none
def oY (ρ:kK→kB kA):kB kK→kB (kB kA)
  |none=>some none
  |some x=>match ρ x with
    |some v=>some (some v)
    |none=>none
def lP (ρ:kK→kB kA)(place:Nat→kB (Nat×Nat)):kC (Nat×kK)→kB (kC (Nat×Nat×kA))
  |[]=>some []
  |(i,x)::r=>match place i,ρ x with
    |some (off,size),some v=>(match lP ρ place r with|some p=>some ((off,size,v)::p)|none=>none)
    |_,_=>none
def aCj (P:kD)(t:kF)(i:Nat):kB (Nat×Nat):=
  match P.underlying t with
  |some (.struct fs)=>match fs[i]? with
    |some f=>(szP P f.type).map fun n=>(f.offset,n)
    |none=>none
  |some (.array _ e)=>(szP P e).map fun n=>(i*n,n)
  |_=>none
def qL (P:kD)(t:kF):Bool:=
  match P.underlying t with
  |some (.struct fs)=>fs.toList.all fun f=>(szP P f.type).isSome
  |some (.array _ e)=>(szP P e).isSome
  |_=>false
abbrev Y0:Nat:=1099511627776
def bFb {Y:Type}(a:kC kA)(K:Nat→kC kA→kB Y):kB Y:=
  match a with
  | .int _ (.ofNat id)::vs=>K id vs
  |_=>none
def callV (C:CF)(f:kA)(v:kC kA)(h:H):kB (kA×H):=
  match f with
  | .func (.func g) ⟨first⟩ ⟨a⟩=>bif Nat.blt g 1099511627776 then C g (first++v++a) h else none
  | .func (.yield id) _ _=>C 1099511627776 (.int .i64 (.ofNat id)::v) h
  |_=>none
def aYc (P:kD)(t:kF)(n:String):kB (kI×Nat):=
  match P.underlying t,P.info? t with
  |some (.pointer _),some ti=>(match ti.methods.find? fun(m:Method)=>m.name==n with
    |some m=>(match m.path.toList,m.func with
      |[st],some (g,true)=>bif st.deref then(match uI P st.struct st.index with
        |some f=>(match szP P f.type,aFj P f.type,P.underlying f.type with
          |some 1,some false,some (.pointer _)=>some (g,f.offset)
          |_,_,_=>none)
        |none=>none)else none
      |_,_=>none)
    |none=>none)
  |_,_=>none
def callM (P:kD)(C:CF)(f:kA)(v:kC kA)(h:H):kB (kA×H):=
  match f with
  | .func (.methodOf t n) _ _=>(match aYc P t n,v with
    |some (g,off),x::xs=>bif Nat.blt g 1099511627776 then(A.zA off x).bind fun p=>(A.load false 1 p h).bind fun r=>C g (r::xs) h else none
    |_,_=>none)
  |_=>callV C f v h
def aF {Y:Type}(v:kA)(k:Bool→kB Y):kB Y:=
  match v with
  | .bool b=>k b
  |_=>none
def oO (P:kD)(t:kF):Bool:=match P.underlying t with|some .bool=>true|_=>false
def bN {Y:Type}(P:kD)(o:Oper)(K:kB kA→H→kB Y)(r:kB kA)(h:H):kB Y:=
  bif oO P o.type then(match r with|some v=>aF v fun b=>K (some (.bool b)) h|none=>K none h)else K r h
def eM {Y:Type}{P:kD}{o:Oper}{K:kB kA→H→kB Y}{b:kB kA}{h:H}{r:Y}(a:bN P o K b h=some r):K b h=some r:=by
  unfold bN at a
  cases c:oO P o.type with
  |false=>rw[c]at a;exact a
  |true=>
    rw[c]at a;simp only[sV]at a
    cases b with
    |none=>exact a
    |some v=>
      simp only[aF]at a;split at a
      ·exact a
      ·simp at a
def aop {Y:Type}(P:kD)(C:CF)(ρ:kK→kB kA)(h:H)(o:Oper)(K:kB kA→H→kB Y):kB Y:=
  match o.op with
  | .move x| .assign x=>(ρ x).bind fun v=>K (some v) h
  | .pick c a b=>
    match ρ c with
    |some (.bool t)=>
      (match ρ a,ρ b with
       |some va,some vb=>K (some (bif t then va else vb)) h
       |some va,none=>bif t then K (some va) h else none
       |none,some vb=>bif t then none else K (some vb) h
       |none,none=>none)
    |_=>none
  | .alloc t=>
    match jN P t,szP P t with
    |some z,some n=>(A.box n z h).bind fun(v,j)=>K (some v) j
    |_,_=>none
  | .box t x=>
    match szP P t,ρ x with
    |some n,some v=>(A.box n v h).bind fun(v,j)=>K (some v) j
    |_,_=>none
  | .build t ps=>
    match jN P t,lP ρ (aCj P t) ps.toList with
    |some (.agg ⟨z⟩),some l=>bif qL P t then(A.zI z l).bind fun v=>K (some v) h else none
    |_,_=>none
  | .buildSlice t len ps=>
    match wF P t with
    |none=>none
    |some e=>match szP P e,jN P e with
      |some n,some z=>match aN z,lP ρ (fun i=>some (i*n,n)) ps.toList with
        |some q,some l=>bif Nat.beq q.length n&&Nat.blt 0 n&&Nat.ble (len*n) (2^24)then(A.zC n len q l h).bind fun(v,j)=>K (some v) j else none
        |_,_=>none
      |_,_=>none
  | .load t a=>
    match aFj P t,szP P t,ρ a with
    |some g,some n,some p=>(A.load g n p h).bind fun v=>K (some v) h
    |_,_,_=>none
  | .store t a x=>
    match szP P t,ρ a,ρ x with
    |some n,some p,some v=>(A.store n p v h).bind fun j=>K none j
    |_,_,_=>none
  | .nilCheck x=>(ρ x).bind fun v=>(A.zR v).bind fun v=>K (some v) h
  | .binOp op t x y _=>
    match ρ x,ρ y with
    |some a,some b=>(A.z P op t a b).bind fun v=>K (some v) h
    |_,_=>none
  | .unOp op _ x=>(ρ x).bind fun a=>(A.un P op a).bind fun v=>K (some v) h
  | .convert s d x=>
    match ρ x with
    |none=>none
    |some a=>match P.underlying s,P.underlying d with
      |some .string,some (.slice e)=>(match P.underlying e with
        |some (.int .u8)=>(A.s2b a h).bind fun(v,j)=>K (some v) j
        |_=>none)
      |some (.slice e),some .string=>(match P.underlying e with
        |some (.int .u8)=>(A.b2s a h).bind fun v=>K (some v) h
        |_=>none)
      |_,_=>(A.conv P s d a).bind fun v=>K (some v) h
  | .makeFunc (.func f) first captured=>
    match eT ρ first.toList,eT ρ captured.toList with
    |some a,some b=>K (some (.func (.func f) ⟨a⟩ ⟨b⟩)) h
    |_,_=>none
  | .makeFunc (.methodOf t m) first captured=>
    match first.toList,captured.toList with
    |[],[]=>K (some (.func (.methodOf t m) #[] #[])) h
    |_,_=>none
  | .makeSlice t l c=>
    match wF P t,ρ l,ρ c with
    |some e,some vl,some vc=>(match szP P e,oV P e,jN P e with
      |some n,some bs,some z=>match aN z with
        |some q=>bif Nat.beq q.length n&&Nat.blt 0 n then(A.zP n bs q vl vc h).bind fun(v,j)=>K (some v) j else none
        |none=>none
      |_,_,_=>none)
    |_,_,_=>none
  | .slice t x lo hi mx=>
    match ρ x,oY ρ lo,oY ρ hi,oY ρ mx with
    |some v,some l,some r,some m=>(match P.underlying t with
      |some .string=>(match m with|none=>(A.zN v l r).bind fun v=>K (some v) h|some _=>none)
      |some (.slice e)=>(match szP P e with
        |some n=>(A.zK n v l r m h).bind fun v=>K (some v) h
        |none=>none)
      |some (.array len e)=>(match szP P e with
        |some n=>(A.yM len n v l r m h).bind fun v=>K (some v) h
        |none=>none)
      |_=>none)
    |_,_,_,_=>none
  | .fieldAddr t x i=>
    match uI P t i,ρ x with
    |some f,some v=>(match szP P f.type with
      |some n=>bif Nat.beq n 0 then none else(A.zA f.offset v).bind fun v=>K (some v) h
      |none=>none)
    |_,_=>none
  | .field t x i=>
    match uI P t i,ρ x with
    |some f,some v=>(match aFj P f.type,szP P f.type with
      |some g,some n=>(A.part g n f.offset v).bind fun v=>K (some v) h
      |_,_=>none)
    |_,_=>none
  | .indexAddr t x i=>
    match ρ x,ρ i with
    |some v,some iv=>(match P.underlying t with
      |some (.slice e)=>(match szP P e with
        |some n=>(A.zB n v iv).bind fun v=>K (some v) h
        |none=>none)
      |some (.array len e)=>(match szP P e with
        |some n=>(A.yL len n v iv).bind fun v=>K (some v) h
        |none=>none)
      |_=>none)
    |_,_=>none
  | .index t x i=>
    match ρ x,ρ i with
    |some v,some iv=>(match P.underlying t with
      |some .string=>(A.zD v iv).bind fun v=>K (some v) h
      |some (.array len e)=>(match aFj P e,szP P e with
        |some g,some n=>(A.index g len n v iv).bind fun v=>K (some v) h
        |_,_=>none)
      |_=>none)
    |_,_=>none
  | .extract x i=>(ρ x).bind fun v=>(A.u i v).bind fun v=>K (some v) h
  | .makeMap _ none=>(A.zL h).bind fun(v,j)=>K (some v) j
  | .lookup t x k co=>
    match bEe P t,ρ x,ρ k with
    |some (kt,et),some v,some kv=>(match A.keyT P kt,jN P et with
      |some s,some z=>(A.zJ s z co kv v h).bind fun v=>K (some v) h
      |_,_=>none)
    |_,_,_=>none
  | .mapUpdate t x k y=>
    match bEe P t,ρ x,ρ k,ρ y with
    |some (kt,_),some v,some kv,some yv=>(match A.keyT P kt with
      |some s=>(A.zM s kv yv v h).bind fun j=>K none j
      |none=>none)
    |_,_,_,_=>none
  | .range t x=>
    match P.underlying t,ρ x with
    |some .string,some v=>(A.zZ v h).bind fun(v,j)=>K (some v) j
    |some (.map _ _),some v=>(A.zX v h).bind fun(v,j)=>K (some v) j
    |_,_=>none
  | .next x str=>
    match ρ x with
    |some v=>bif str then(A.yC v h).bind fun(v,j)=>K (some v) j else(A.yK v h).bind fun(v,j)=>K (some v) j
    |none=>none
  | .entry x=>(ρ x).bind fun v=>(A.zT v h).bind fun v=>K (some v) h
  | .call c=>
    match c.callee with
    | .value f=>
      (match ρ f,eT ρ c.args.toList with
       |some fv,some w=>(callM P C fv w h).bind fun(v,j)=>K (some v) j
       |_,_=>none)
    | .invoke _ _=>none
    | .builtin b=>
      match eT ρ c.args.toList with
      |none=>none
      |some w=>
        match b,w with
        | .len,[v]=>(match(c.argTypes[0]?).bind P.underlying with
          |some (.slice _)=>(A.zE v).bind fun v=>K (some v) h
          |some .string=>(A.zH v).bind fun v=>K (some v) h
          |some (.map _ _)=>(A.lenM v h).bind fun v=>K (some v) h
          |_=>none)
        | .append,[s,x]=>(match(c.argTypes[0]?).bind (wF P),(c.argTypes[1]?).bind P.underlying with
          |some e,some d=>(match d with
            | .int _=>none
            |_=>match szP P e,oV P e,(jN P e).bind aN with
              |some n,some bs,some q=>bif Nat.blt 0 n&&Nat.beq q.length n&&Nat.blt 0 bs then(A.zF n bs s x h).bind fun(v,j)=>K (some v) j else none
              |_,_,_=>none)
          |_,_=>none)
        | .copy,[d,x]=>(match(c.argTypes[0]?).bind (wF P)with
          |some e=>(match szP P e with
            |some n=>(A.yP n d x h).bind fun(v,j)=>K (some v) j
            |none=>none)
          |none=>none)
        | .delete,[m,k]=>(match(c.argTypes[0]?).bind (bEe P)with
          |some (kt,_)=>(match A.keyT P kt with
            |some s=>(A.zY s k m h).bind fun j=>K (some (.tuple ⟨[]⟩)) j
            |none=>none)
          |none=>none)
        | .clear,[x]=>(match(c.argTypes[0]?).bind P.underlying with
          |some (.map _ _)=>(A.yN x h).bind fun j=>K (some (.tuple ⟨[]⟩)) j
          |some (.slice e)=>(match szP P e,(jN P e).bind aN with
            |some n,some q=>bif Nat.beq q.length n&&Nat.blt 0 n then(A.clear n q x h).bind fun j=>K (some (.tuple ⟨[]⟩)) j else none
            |_,_=>none)
          |_=>none)
        |b,w=>(A.zS P b c.argTypes o.type w).bind fun v=>K (some v) h
  |_=>none
section
variable (P:kD){NG:Nat}{μ:Mu}{h:H}{w:kE}
def VR.ptr_inv {id n:Nat}{v:kA}(r:VR μ (.pointer (some ⟨id,n,none⟩)) v):
 ∃l,μ id=some l∧v=.pointer (some ⟨l.blk,l.off+n,none⟩):=by
 cases r with
 |ptr a=>exact⟨_,a,rfl⟩
def VR.slice_inv {id n len cap:Nat}{v:kA}(r:VR μ (.slice (some ⟨id,n,none⟩) len cap) v):
 ∃l a c,μ id=some l∧v=.slice (some a) len c∧fL l n cap c∧len≤cap / 2∧(c≠0→a=⟨l.blk,l.off+n,none⟩):=by
 cases r with
 |slice e d f b=>exact⟨_,_,_,e,rfl,d,f,b⟩
def VR.nilslice_inv {v:kA}(r:VR μ (.slice none 0 0) v):v=.slice none 0 0:=by cases r;rfl
def VR.int_inv {k:IntKind}{I:Int}{v:kA}(r:VR μ (.int k I) v):v=.int k I:=by cases r;rfl
def VR.bool_inv {J:Bool}{v:kA}(r:VR μ (.bool J) v):v=.bool J:=by cases r;rfl
def VR.string_inv {b:ByteArray}{v:kA}(r:VR μ (.string b) v):v=.string b:=by cases r;rfl
def VR.agg_inv {a:kC kA}{v:kA}(r:VR μ (.agg ⟨a⟩) v):∃d,v=.agg ⟨d⟩∧LR μ a d∧∀b∈a,cellish b=true:=by
 cases r with
 |agg _ d l g c=>exact⟨d,rfl,⟨l,g⟩,c⟩
def LR.cell_all {a ds:kC kA}(r:LR μ a ds)(g:∀e∈a,cellish e=true):∀e∈ds,AM.cellish e=true:=by
 intro b f;obtain⟨i,d⟩:=mM.1 f;have l:i<a.length:=by rw[r.1];exact(pX.1 d).1
 have c:=kZ l;rw[←(r.2 i _ b c d).cell_eq];exact g _ (sY c)
def LR.mk_agg {a d:kC kA}(r:LR μ a d)(c:∀b∈a,cellish b=true):VR μ (.agg ⟨a⟩) (.agg ⟨d⟩):=.agg _ _ r.1 r.2 c
def LR.single {v x:kA}(r:VR μ v x):LR μ [v] [x]:=
 ⟨rfl,fun i a b c d=>by cases i with
  |zero=>simp at c d;subst c;subst d;exact r
  |succ i=>simp at c⟩
def LR.nil:LR μ [] []:=⟨rfl,fun i a b c _=>by simp at c⟩
def LR.drop {cs ds:kC kA}(r:LR μ cs ds)(n:Nat):LR μ (cs.drop n) (ds.drop n):=
 ⟨by simp[r.1],fun i a b c d=>r.2 (n+i) a b (by simpa using c) (by simpa using d)⟩
def LR.take {cs ds:kC kA}(r:LR μ cs ds)(n:Nat):LR μ (cs.take n) (ds.take n):=
 ⟨by simp[r.1],fun i a b c d=>by
  rw[sK]at c d;split at c
  ·rename_i e;rw[kM e]at d;exact r.2 i a b c d
  ·simp at c⟩
def LR.append {a d b s:kC kA}(r:LR μ a d)(g:LR μ b s):LR μ (a++b) (d++s):=
 ⟨by simp[r.1,g.1],fun i j k e c=>by
  by_cases f:i<a.length
  ·rw[pJ f]at e;rw[pJ (by rw[←r.1];exact f)]at c;exact r.2 i j k e c
  ·rw[pK (by omega)]at e;rw[pK (by rw[←r.1];omega)]at c;rw[←r.1]at c;exact g.2 _ j k e c⟩
def LR.splice {a ds d b:kC kA}(r:LR μ a ds)(c:LR μ d b)(o:Nat):LR μ (AM.splice a o d) (AM.splice ds o b):=by
 unfold AM.splice;rw[←c.1];exact((r.take o).append c).append (r.drop _)
def LR.get {cs d:kC kA}(r:LR μ cs d){i:Nat}{a:kA}(c:cs[i]?=some a):∃b,d[i]?=some b∧VR μ a b:=by
 have l:i<d.length:=by rw[←r.1];exact(pX.1 c).1
 exact⟨_,kZ l,r.2 i a _ c (kZ l)⟩
def LR.cons {v c:kA}{a ds:kC kA}(r:VR μ v c)(b:LR μ a ds):LR μ (v::a) (c::ds):=(LR.single r).append b
def uV {v x:kA}{a:kC kA}(r:VR μ v x)(c:aN v=some a):
 ∃d,x.cells=⟨d⟩∧LR μ a d∧(∀D∈a,cellish D=true):=by
 cases r with
 |agg p d l g j=>simp only[aN,kP]at c;subst c;exact⟨d,rfl,⟨l,g⟩,j⟩
 |tuple=>simp[aN]at c
 |bool b=>simp only[aN,kP]at c;subst c;exact⟨[.bool b],rfl,.single (.bool b),by simp[cellish]⟩
 |int k n=>simp only[aN,kP]at c;subst c;exact⟨_,rfl,.single (.int k n),by simp[cellish]⟩
 |float k n=>simp only[aN,kP]at c;subst c;exact⟨_,rfl,.single (.float k n),by simp[cellish]⟩
 |string s=>simp only[aN,kP]at c;subst c;exact⟨_,rfl,.single (.string s),by simp[cellish]⟩
 |ptrNil=>simp only[aN,kP]at c;subst c;exact⟨_,rfl,.single .ptrNil,by simp[cellish]⟩
 |ptr l=>simp only[aN,kP]at c;subst c;exact⟨_,rfl,.single (.ptr l),by simp[cellish]⟩
 |sliceNil=>simp only[aN,kP]at c;subst c;exact⟨_,rfl,.single .sliceNil,by simp[cellish]⟩
 |slice l j C B=>simp only[aN,kP]at c;subst c;exact⟨_,rfl,.single (.slice l j C B),by simp[cellish]⟩
 |mapNil=>simp only[aN,kP]at c;subst c;exact⟨_,rfl,.single .mapNil,by simp[cellish]⟩
 |map l=>simp only[aN,kP]at c;subst c;exact⟨_,rfl,.single (.map l),by simp[cellish]⟩
 |nilFunc=>simp only[aN,kP]at c;subst c;exact⟨_,rfl,.single .nilFunc,by simp[cellish]⟩
 |func f p d e i y z q u=>simp only[aN,kP]at c;subst c;exact⟨_,rfl,.single (.func f p d e i y z q u),by simp[cellish]⟩
 |yield l=>simp only[aN,kP]at c;subst c;exact⟨_,rfl,.single (.yield l),by simp[cellish]⟩
 |methOf t m=>simp only[aN,kP]at c;subst c;exact⟨_,rfl,.single (.methOf t m),by simp[cellish]⟩
 |nilIface=>simp only[aN,kP]at c;subst c;exact⟨_,rfl,.single .nilIface,by simp[cellish]⟩
 |iface t o=>simp only[aN,kP]at c;subst c;exact⟨_,rfl,.single (.iface t o),by simp[cellish]⟩
def RH.cells {NG:Nat}(r:RH NG μ h w){id:Nat}{cs:kC kA}{own:kB Nat}{l:Loc}(q:h.get id=some (.cells cs own))(v:μ id=some l):
 ∃d t f,w.heap[l.blk]?=some (.cells d t f)∧d.size=l.size∧l.off+cs.length≤l.size∧
  LR μ cs ((d.toList.drop l.off).take cs.length)∧(∀a∈cs,cellish a=true)∧
  (own.isSome=true→∀(i:Nat),i<l.size→¬(f.1≤i∧i<f.2))∧(∀s,own=some s→l.es=s):=by
 obtain⟨d,t,f,m,n,h3,j,o,p⟩:=r.br _ _ _ q v;refine⟨d,t,f,m,n,h3,⟨by simp;omega,fun i a b g e=>?_⟩,fun a g=>?_,o,p⟩
 ·obtain⟨c,k,x,_⟩:=j i a g;rw[sK]at e;split at e
  ·rw[sL]at e;rw[←Array.getElem?_toList]at k;rw[k]at e;simp at e;subst e;exact x
  ·simp at e
 ·obtain⟨i,u⟩:=mM.1 g;obtain⟨c,_,_,y⟩:=j i a u;exact y
def BR.mk_cells {a ds:kC kA}{own:kB Nat}{l:Loc}{ty:kF}{fz:Nat×Nat}(f:w.heap[l.blk]?=some (.cells ⟨ds⟩ ty fz))
 (s:ds.length=l.size) (n:l.off+a.length≤l.size) (m:LR μ a ((ds.drop l.off).take a.length)) (g:∀o∈a,cellish o=true)
 (k:own.isSome=true→∀(i:Nat),i<l.size→¬(fz.1≤i∧i<fz.2)) (j:∀e,own=some e→l.es=e):BR μ (.cells a own) l w:=by
 refine⟨⟨ds⟩,ty,fz,f,by simpa using s,n,fun i v d=>?_,k,j⟩;obtain⟨b,c,r⟩:=m.get d;rw[sK]at c;split at c
 ·rw[sL]at c;exact⟨b,by simpa using c,r,g _ (sY d)⟩
 ·simp at c
def bM {t:kF}{n:Nat}(s:szP P t=some n)(w:kE):(sizeOf t).run P w=.ok n w:=by
 unfold szP at s
 cases q:P.info? t with
 |none=>simp[q]at s
 |some i=>simp[q]at s;simp[sizeOf,typeInfo,q,s]
def rT {t:kF}{g:Bool}(s:aFj P t=some g)(w:kE):(isAgg t).run P w=.ok g w:=by
 unfold aFj at s
 cases q:P.underlying t with
 |none=>simp[q]at s
 |some d=>rw[q]at s;cases d<;>simp at s<;>subst s<;>simp[isAgg,sU q]
def gY {t:kF}{z:kA}(a:jN P t=some z)(w:kE):(zeroValue t).run P w=.ok z w:=by
 unfold jN at a
 cases q:P.types[t]? with
 |none=>simp[q]at a
 |some i=>
  simp only[q,pR]at a;have l:t<P.types.size:=(sT.1 q).1;have b:P.info? t=some i:=by simp only[Tables.info?,kM l,q]
  simp[zeroValue,typeInfo,b,a]
def gG (a:aL P=true){t:kF}{z:kA}(h:jN P t=some z):aJ z=true:=by
 unfold jN at h
 cases q:P.types[t]? with
 |none=>simp[q]at h
 |some i=>
  simp only[q,pR]at h;have m:i∈P.types.toList:=by rw[Array.mem_toList_iff];exact Array.mem_of_getElem? q
  have:=mB.1 a i m;simpa[h]using this
def nW {z:kA}{a:kC kA}(p:aJ z=true)(b:aN z=some a):cQ a=true:=by
 cases z with
 |agg c=>obtain⟨l⟩:=c;simp only[aN,kP]at b;subst b;simpa[aJ,uE]using p
 |tuple v=>simp[aN]at b
 |_=>simp only[aN,kP]at b;subst b;simp[cQ,p,cellish]
def uP {NG:Nat}(r:RH NG μ h w){t:kF}{g:Bool}{n:Nat}(C:aFj P t=some g)(J:szP P t=some n){v x c:kA}
 (d:A.load g n v h=some x) (E:VR μ v c):∃q,(Instr.loadAt t c).run P w=.ok q w∧VR μ x q:=by
 cases g with
 |false=>
  simp only[A.load,sW]at d;unfold A.load1 at d;split at d
  ·rename_i id o;obtain⟨l,m,rfl⟩:=E.ptr_inv;split at d
   ·rename_i s own i;obtain⟨f,y,z,j,G,h3,k,u,_⟩:=r.cells i m;obtain⟨b,B,K⟩:=k.get d;have p:o<s.length:=(pX.1 d).1;rw[sK,kM p,sL]at B;refine⟨b,?_,K⟩;have:=aUc P w l.blk (l.off+o) f y z j b (by simpa using B);simp only[Instr.loadAt,Instr.sureAddr,loadVar,pD,pG,pC,rT P C,pP,mD,this]
   ·simp at d
  ·simp at d
 |true=>
  simp only[A.load,sV]at d;unfold A.loadN at d;split at d
  ·rename_i id o;obtain⟨l,m,rfl⟩:=E.ptr_inv;split at d
   ·rename_i s own i;obtain⟨f,y,z,j,G,h3,k,u,_⟩:=r.cells i m
    cases hle:Nat.ble (o+n) s.length with
    |false=>rw[hle]at d;simp at d
    |true=>
     rw[hle]at d;simp only[sV,kP]at d;subst d;have D:=Nat.le_of_ble_eq_true hle;have:=nN P w l.blk (l.off+o) f y z j n (by omega);refine⟨.agg ⟨(f.toList.drop (l.off+o)).take n⟩,?_,?_⟩
     ·simp only[Instr.loadAt,Instr.sureAddr,loadVar,pD,pG,pC,rT P C,mE,bM P J,this]
     ·have e:((((f.toList.drop l.off).take s.length).drop o).take n)=(f.toList.drop (l.off+o)).take n:=by
       rw[List.drop_take,sG,List.take_take,dU (by omega)]
      have r1:=(k.drop o).take n;rw[e]at r1;exact r1.mk_agg (fun a I=>u a (mX (mU I)))
   ·simp at d
  ·simp at d
def aGh {NG:Nat}(r:RH NG μ h w){t:kF}{n:Nat}(Y:szP P t=some n){v x c z:kA}{j:H}
 (d:A.store n v x h=some j) (rp:VR μ v c) (rv:VR μ x z):∃S,(Instr.storeAt t c z).run P w=.ok () S∧Step NG μ h w μ j S:=by
 unfold A.store at d;split at d
 ·rename_i id f;obtain⟨l,G,rfl⟩:=rp.ptr_inv;split at d
  ·rename_i s es K g J;obtain⟨b,R,L,U,V,h3,W,M,N,X⟩:=r.cells g G;obtain⟨m,y,p,u⟩:=uV rv J
   cases q:(Nat.beq K.length n&&Nat.ble (f+n) s.length)with
   |false=>rw[q]at d;simp at d
   |true=>
    rw[q]at d;simp only[sV,kP]at d;subst d;simp only[pA]at q;have B:K.length=n:=Nat.eq_of_beq_eq_true q.1;have hle:f+n≤s.length:=Nat.le_of_ble_eq_true q.2;have E:m.length=n:=by rw[←p.1];exact B
    have I:=jQ P m w l.blk (l.off+f) 0 b R L U (by omega) (by rw[V];exact N rfl) (p.cell_all u);refine⟨_,?_,Step.write r g rfl rfl G (o:=.cells ⟨splice b.toList (l.off+f) m⟩ R L) ?_⟩
    ·have:¬(z.cells.size≠n):=by rw[y];simpa using E
     simp only[Instr.storeAt,Instr.sureAddr,storeVar,pD,pG,pC,bM P Y,this,mD];rw[y];simpa using I
    ·have Z:(splice b.toList (l.off+f) m).length=b.size:=by rw[aZ _ _ _ (by simp;omega)];simp
     have C:(splice s f K).length=s.length:=aZ _ _ _ (by omega);refine BR.mk_cells (bJ (BR.lt (r.br _ _ _ g G))) (by omega) (by omega) ?_ ?_ N X
     ·have e:((splice b.toList (l.off+f) m).drop l.off).take s.length=splice ((b.toList.drop l.off).take s.length) f m:=by
       apply mT;intro i;rw[sK];by_cases D:i<s.length
       ·rw[kM D,sL,dK _ _ _ (by simp;omega),dK _ _ _ (by simp;omega)];by_cases O:i<f
        ·rw[kM (by omega),kM O,sK,kM D,sL]
        ·rw[kL (by omega),kL O];by_cases Q:i<f+m.length
         ·rw[kM (by omega),kM Q];congr 1;omega
         ·rw[kL (by omega),kL Q,sK,kM D,sL]
       ·rw[kL D,List.getElem?_eq_none];rw[aZ _ _ _ (by simp;omega)];simp;omega
      rw[C,e];exact W.splice p f
     ·intro a k;unfold splice at k;simp only[mP]at k;rcases k with(k|k)|k
      ·exact M a (mU k)
      ·exact u a k
      ·exact M a (mX k)
  ·simp at d
 ·simp at d
def Step.new_cells {NG:Nat}(r:RH NG μ h w)(f:μ h.next=none){cs ds:kC kA}{es:Nat}{ty:kF}{w':kE}
 (g:w'.heap=w.heap.push (.cells ⟨ds⟩ ty)) (c:w'.os=w.os) (t:w'.tape=w.tape) (b:w'.output=w.output)
 (n:cs.length≤ds.length) (k:LR μ cs (ds.take cs.length)) (j:∀a∈cs,cellish a=true):
 Step NG μ h w (μ.set h.next ⟨w.heap.size,0,es,ds.length⟩) (h.push (.cells cs (some es))) w':=by
 refine Step.push r f rfl (o:=.cells ⟨ds⟩ ty) g c t b rfl ?_;refine BR.mk_cells (ds:=ds) (ty:=ty) (fz:=(0,0)) (by rw[g];simp) rfl (by simpa using n) (by simpa using k.mono (Mu.le_set f)) j (fun _ i _=>by simp) (fun e d=>by simp at d;exact d)
def aDy {NG:Nat}(r:RH NG μ h w)(k:μ h.next=none){t:kF}{n:Nat}{v x c:kA}{j:H}
 (b:A.box n v h=some (c,j)) (m:VR μ v x):∃a,(newVar t x).run P w=.ok a (w.alloc (.cells x.cells t))∧
  ∃d,Step NG μ h w d j (w.alloc (.cells x.cells t))∧VR d c (.pointer (some a)):=by
 unfold A.box at b;split at b
 ·rename_i o g;obtain⟨s,f,l,e⟩:=uV m g
  cases i:Nat.beq o.length n with
  |false=>rw[i]at b;simp at b
  |true=>
   rw[i]at b;simp only[sV,kP,kW]at b;obtain⟨rfl,rfl⟩:=b;refine⟨⟨w.heap.size,0,none⟩,rfl,_,Step.new_cells (ds:=s) r k (by rw[f];rfl) rfl rfl rfl (by rw[l.1];omega) (by rw[l.1];simpa using l) e,?_⟩;exact VR.ptr (off:=0) (Mu.set_same μ h.next ⟨w.heap.size,0,0,s.length⟩)
 ·simp at b
end
section
variable (P:kD){NG:Nat}{μ:Mu}{h:H}{w:kE}
def ble_iff {a n:Nat}:Nat.ble a n=true↔a≤n:=⟨Nat.le_of_ble_eq_true,Nat.ble_eq_true_of_le⟩
def blt_iff {n i:Nat}:Nat.blt n i=true↔n<i:=⟨fun h=>Nat.le_of_ble_eq_true h,fun h=>Nat.ble_eq_true_of_le h⟩
def beq_iff {n i:Nat}:Nat.beq n i=true↔n=i:=⟨Nat.eq_of_beq_eq_true,fun h=>by subst h;simp⟩
def aB {Y:Type}{c:Bool}{x:kB Y}{a:Y}(h:(bif c then x else none)=some a):c=true∧x=some a:=by
 cases c with
 |false=>simp at h
 |true=>exact⟨rfl,h⟩
def xW {t:kF}{n i:Nat}{f:Field}(b:uI P t n=some f)(j:szP P f.type=some i)(e:i≠0){v x c:kA}
 (a:A.zA f.offset v=some x) (r:VR μ v c):∃d,(Instr.fieldAt t c n).run P w=.ok d w∧VR μ x d:=by
 unfold A.zA at a;split at a
 ·rename_i id o;simp only[kP]at a;subst a;obtain⟨l,g,rfl⟩:=r.ptr_inv;unfold uI at b;split at b
  ·rename_i fs u;refine⟨.pointer (some ⟨l.blk,l.off+o+f.offset,none⟩),?_,by rw[Nat.add_assoc];exact .ptr g⟩;simp only[Instr.fieldAt,pD,sU u,pC,b,Instr.sureAddr,pG,fieldPlace,bM P j,e,mD,eK]
  ·simp at b
 ·simp at a
def aLd {t e:kF}{n:Nat}(B:P.underlying t=some (.slice e))(y:szP P e=some n){v x c z d:kA}
 (b:A.zB n v x=some c) (D:VR μ v z) (C:VR μ x d):∃m,(Instr.indexAt t z d).run P w=.ok m w∧VR μ c m:=by
 unfold A.zB at b;split at b
 ·rename_i id o j G k i;obtain⟨s,b⟩:=aB b;simp only[kP]at b;subst b;have g:=blt_iff.1 s;obtain⟨l,E,p,u,rfl,a,hle,r⟩:=D.slice_inv;have f:p≠0:=by unfold fL at a;split at a<;>omega
  rw[C.int_inv,r f];refine⟨.pointer (some ⟨l.blk,l.off+o+i*n,none⟩),?_,by rw[Nat.add_assoc];exact .ptr u⟩;have q:(0:Int)≤Int.ofNat i∧Int.ofNat i<(j:Int):=⟨Int.natCast_nonneg i,Int.ofNat_lt.2 g⟩;simp only[Instr.indexAt,asIntOf,pD,pG,pC,sU B,q,and_self,mE,bM P y,eK];rfl
 ·simp at b
def aLe {t e:kF}{n i:Nat}(u:P.underlying t=some (.array n e))(q:szP P e=some i){v x c z b:kA}
 (a:A.yL n i v x=some c) (s:VR μ v z) (r:VR μ x b):∃f,(Instr.indexAt t z b).run P w=.ok f w∧VR μ c f:=by
 unfold A.yL at a;split at a
 ·rename_i id o k g;obtain⟨m,a⟩:=aB a;simp only[kP]at a;subst a;have d:=blt_iff.1 m;obtain⟨l,p,rfl⟩:=s.ptr_inv;rw[r.int_inv];refine⟨.pointer (some ⟨l.blk,l.off+o+g*i,none⟩),?_,by rw[Nat.add_assoc];exact .ptr p⟩;have j:(0:Int)≤Int.ofNat g∧Int.ofNat g<(n:Int):=⟨Int.natCast_nonneg g,Int.ofNat_lt.2 d⟩;simp only[Instr.indexAt,asIntOf,pD,pG,pC,sU u,j,and_self,mE,bM P q,eK,Instr.sureAddr];rfl
 ·simp at a
def oD {t:kF}{g:Bool}{n i:Nat}(f:aFj P t=some g)(o:szP P t=some n){a d:kC kA}{v:kA}
 (c:A.part g n i (.agg ⟨a⟩)=some v) (r:LR μ a d) (m:∀j∈a,cellish j=true):∃e,(part t ⟨d⟩ i).run P w=.ok e w∧VR μ v e:=by
 simp only[A.part]at c
 cases g with
 |false=>
  simp only[sW]at c;obtain⟨b,l,p⟩:=r.get c;refine⟨b,?_,p⟩;have:(⟨d⟩:kH kA)[i]?=some b:=by simpa using l
  simp only[part,pD,rT P f,pC,pP,mD,this,pG]
 |true=>
  simp only[sV]at c;obtain⟨hle,c⟩:=aB c;simp only[kP]at c;subst c;refine⟨.agg ⟨(d.drop i).take n⟩,?_,((r.drop i).take n).mk_agg (fun j k=>m j (mX (mU k)))⟩;simp only[part,pD,rT P f,pC,mE,bM P o,pG];congr 2;apply Array.ext';simp[List.extract_eq_take_drop]
def aGz {t:kF}{n i:Nat}{f:Field}{g:Bool}(b:uI P t n=some f)(j:aFj P f.type=some g)(k:szP P f.type=some i){v x c:kA}
 (e:A.part g i f.offset v=some x) (o:VR μ v c):∃a,(Instr.field t c n).run P w=.ok a w∧VR μ x a:=by
 cases v with
 |agg s=>
  obtain⟨s⟩:=s;obtain⟨p,rfl,l,d⟩:=o.agg_inv;obtain⟨a,r,m⟩:=oD (w:=w) P j k e l d;refine⟨a,?_,m⟩;unfold uI at b;split at b
  ·rename_i fs u;simp only[Instr.field,pD,sU u,pC,b,asAgg,pG,r]
  ·simp at b
 |_=>simp[A.part]at e
def aGx {t e:kF}{n i:Nat}{g:Bool}(y:P.underlying t=some (.array n e))(q:aFj P e=some g)(m:szP P e=some i){v x c z b:kA}
 (a:A.index g n i v x=some c) (D:VR μ v z) (C:VR μ x b):∃d,(Instr.index t z b).run P w=.ok d w∧VR μ c d:=by
 unfold A.index at a;split at a
 ·rename_i k B;obtain⟨p,a⟩:=aB a;have j:=blt_iff.1 p;rw[C.int_inv]
  cases v with
  |agg s=>
   obtain⟨s⟩:=s;obtain⟨E,rfl,l,f⟩:=D.agg_inv;obtain⟨d,r,u⟩:=oD (w:=w) P q m a l f;refine⟨d,?_,u⟩;have o:(0:Int)≤Int.ofNat B∧Int.ofNat B<(n:Int):=⟨Int.natCast_nonneg B,Int.ofNat_lt.2 j⟩;simp only[Instr.index,asIntOf,pD,pG,pC,sU y,o,and_self,mE,bM P m];exact r
  |_=>simp[A.part]at a
 ·simp at a
def aAf {t:kF}(u:P.underlying t=some .string){v x c z d:kA}
 (a:A.zD v x=some c) (n:VR μ v z) (r:VR μ x d):∃f,(Instr.index t z d).run P w=.ok f w∧VR μ c f:=by
 unfold A.zD at a;split at a
 ·rename_i s k i;split at a
  ·rename_i b e;simp only[kP]at a;subst a;rw[n.string_inv,r.int_inv];refine⟨_,?_,.int .u8 b.toNat⟩;have j:s[i]?=some b:=by
    have l:i<s.data.size:=by simpa using(pX.1 e).1
    have m:i<s.size:=l;rw[getElem?_pos s i m];have:s.data.toList[i]?=some s.data[i]:=by simp
    rw[this]at e;exact e
   have g:(0:Int)≤Int.ofNat i:=Int.natCast_nonneg i;have h3:(Int.ofNat i).toNat=i:=rfl;simp only[Instr.index,asIntOf,pD,pG,pC,sU u,g,mE,h3,j]
  ·simp at a
 ·simp at a
def aCh {n:Nat}{v x c:kA}(a:A.u n v=some x)(f:VR μ v c):∃d,(Instr.extract c n).run P w=.ok d w∧VR μ x d:=by
 unfold A.u at a;split at a
 ·rename_i i
  cases f with
  |tuple _ s l g=>
   obtain⟨b,e,r⟩:=LR.get ⟨l,g⟩ a;refine⟨b,?_,r⟩;have:(⟨s⟩:kH kA)[n]?=some b:=by simpa using e
   simp only[Instr.extract,this,pG]
 ·simp at a
def lU:∀(s:kC kA) (cells:kH kA) (o k:Nat),o+k+s.length≤cells.size→
 ((s.zipIdx k).foldl (fun c (p:kA×Nat)=>c.setIfInBounds (o+p.2) p.1) cells).toList=splice cells.toList (o+k) s
 |[],cells,o,k,_=>by simp[splice]
 |v::s,cells,o,k,hle=>by
  simp only[List.zipIdx_cons,dN];rw[lU s _ o (k+1) (by simp at hle⊢;omega)];simp only[Array.toList_setIfInBounds];rw[show o+(k+1)=o+k+1 by omega,xC _ _ _ _ (by simp at hle⊢;omega)]
def oH (place:Nat→kB (Nat×Nat)):∀(l:kC (Nat×Nat×kA)) (e:kC (Nat×kA)) (cs cs' ds:kC kA),
 A.yG cs l=some cs'→l.length=e.length→(∀(i:Nat) (f b:Nat) (v:kA) (j:Nat) (t:kA),l[i]?=some (f,b,v)→e[i]?=some (j,t)→place j=some (f,b)∧VR μ v t)→
 LR μ cs ds→(∀a∈cs,cellish a=true)→∃g,Instr.fill place ⟨ds⟩ e=some ⟨g⟩∧LR μ cs' g∧(∀a∈cs',cellish a=true)
 |[],e,cs,cs',ds,n,hl,_,hr,hc=>by
  cases e with
  |cons=>simp at hl
  |nil=>
   simp only[A.yG,kP]at n;subst n;exact⟨ds,rfl,hr,hc⟩
 |(f,b,v)::r,e,cs,cs',ds,n,hl,hp,hr,hc=>by
  cases e with
  |nil=>simp at hl
  |cons c e=>
   obtain⟨j,t⟩:=c;obtain⟨C,D⟩:=hp 0 f b v j t rfl rfl;simp only[A.yG]at n;split at n
   ·rename_i N E;obtain⟨d,n⟩:=aB n;simp only[pA,beq_iff,ble_iff]at d;obtain⟨u,z,q,y⟩:=uV D E;have p:u.length=b:=by rw[←q.1];exact d.1
    have K:ds.length=cs.length:=hr.1.symm;obtain⟨g,I,J,h3⟩:=oH place r e (splice cs f N) cs' (splice ds f u) n (by simpa using hl)
     (fun i o s x k G M L=>hp (i+1) o s x k G (by simpa using M) (by simpa using L)) (hr.splice q f) (by
      intro a m;unfold splice at m;simp only[mP]at m;rcases m with(m|m)|m
      ·exact hc a (mU m)
      ·exact y a m
      ·exact hc a (mX m))
    refine⟨g,?_,J,h3⟩;have B:=lU u ⟨ds⟩ f 0 (by simp;omega);simp only[Instr.fill,C,z,List.size_toArray,p];rw[kL (by simp;omega)];rw[←I];congr 1;apply Array.ext';rw[←Array.foldl_toList,Array.toList_zipIdx];exact B
   ·simp at n
def uO {G:kK→kB kA}{c:kK→kA}(b:∀x v,G x=some v→VR μ v (c x))(place:Nat→kB (Nat×Nat)):
 ∀(p:kC (Nat×kK)) (l:kC (Nat×Nat×kA)),lP G place p=some l→l.length=p.length∧
  (∀(i:Nat) (f a:Nat) (v:kA) (j:Nat) (d:kA),l[i]?=some (f,a,v)→(p.map fun(i,x)=>(i,c x))[i]?=some (j,d)→place j=some (f,a)∧VR μ v d)
 |[],l,hp=>by simp only[lP,kP]at hp;subst hp;simp
 |(i,x)::r,l,hp=>by
  simp only[lP]at hp;split at hp
  ·rename_i f a v m u;split at hp
   ·rename_i p n;simp only[kP]at hp;subst hp;obtain⟨q,t⟩:=uO b place r p n;refine⟨by simp[q],fun k o s y j d g e=>?_⟩
    cases k with
    |zero=>
     simp only[pM,kP,kW,mH]at g e;obtain⟨rfl,rfl,rfl⟩:=g;obtain⟨rfl,rfl⟩:=e;exact⟨m,b x _ u⟩
    |succ k=>exact t k o s y j d (by simpa using g) (by simpa using e)
   ·simp at hp
  ·simp at hp
end
section
variable (P:kD){NG:Nat}{μ:Mu}{h:H}{w:kE}
def aDi (w:kE):∀(fs:kC Field),(fs.all fun f=>(szP P f.type).isSome)=true→
    (fs.mapM (m:=Sem) (fun f=>do pure (f.offset,←sizeOf f.type))).run P w=.ok (fs.map fun f=>(f.offset,(szP P f.type).getD 0)) w
  |[],_=>rfl
  |f::fs,hk=>by
    simp only[dQ,pA]at hk;obtain⟨n,a⟩:=Option.isSome_iff_exists.1 hk.1;simp only[List.mapM_cons,pD,bM P a,pC,pG,aDi w fs hk.2,mH,a,pQ]
def aHm {G:kK→kB kA}{c:kK→kA}(N:∀x v,G x=some v→VR μ v (c x)){t:kF}{z:kC kA}{J:kH (Nat×kK)}
    {l:kC (Nat×Nat×kA)} {v:kA} (S:jN P t=some (.agg ⟨z⟩)) (E:cQ z=true) (Y:lP G (aCj P t) J.toList=some l) (y:qL P t=true)
    (R:A.zI z l=some v):∃k,(Instr.build t (J.map fun(i,x)=>(i,c x))).run P w=.ok k w∧VR μ v k:=by
  unfold A.zI at R;obtain⟨q,b,rfl⟩:=sZ.1 R;obtain⟨d,Q⟩:=uO N (aCj P t) J.toList l Y;have I:LR μ z z:=⟨rfl,oE μ z E⟩;have D:∀a∈z,cellish a=true:=fun a W=>by
    obtain⟨i,u⟩:=mM.1 W;exact(eD z E i a u).2
  unfold qL at y;split at y
  ·rename_i fs C;obtain⟨g,K,L,h3⟩:=oH (μ:=μ) (fun i=>((fs.toList.map fun f=>(f.offset,(szP P f.type).getD 0)).toArray[i]?)) l (J.toList.map fun(i,x)=>(i,c x)) z q z b (by simp[d])
     (fun i o s v j k u M=>by
       obtain⟨p,r⟩:=Q i o s v j k u M;refine⟨?_,r⟩;simp only[aCj,C]at p;split at p
       ·rename_i f X;obtain⟨n,hn,O⟩:=sZ.1 p;simp only[kW]at O;obtain⟨rfl,rfl⟩:=O;have:fs.toList[j]?=some f:=by simpa using X
        simp[this,hn]
       ·simp at p) I D
   refine⟨.agg ⟨g⟩,?_,L.mk_agg h3⟩;have Z:=aDi P w fs.toList y;simp only[Instr.build,pD,gY P S,pC,sU C,Value.cells];have V:(fs.mapM (m:=Sem) (fun f=>do pure (f.offset,←sizeOf f.type))).run P w=.ok (fs.toList.map fun f=>(f.offset,(szP P f.type).getD 0)).toArray w:=by
     rw[Array.mapM_eq_mapM_toList];simp only[Sem.run_map,Z,pC]
   rw[V];simp only[pC,tN,K,pG]
  ·rename_i n e C;obtain⟨U,B⟩:=Option.isSome_iff_exists.1 y;obtain⟨g,K,L,h3⟩:=oH (μ:=μ) (fun i=>some (i*U,U)) l (J.toList.map fun(i,x)=>(i,c x)) z q z b (by simp[d])
     (fun i o s v j k u M=>by
       obtain⟨p,r⟩:=Q i o s v j k u M;refine⟨?_,r⟩;simp only[aCj,C,B,mA]at p;exact p) I D
   refine⟨.agg ⟨g⟩,?_,L.mk_agg h3⟩;simp only[Instr.build,pD,gY P S,pC,sU C,Value.cells,bM P B,tN,K,pG]
  ·simp at y
def aAi (z:kC kA):∀(k:Nat),A.zeros z (k+1)=A.zeros z k++z
  |0=>by simp[A.zeros]
  |k+1=>by
    have i:=aAi z k;show z++A.zeros z (k+1)=(z++A.zeros z k)++z;rw[i,sH]
def vL (z:kC kA)(c:0<z.length):∀(k:Nat),(List.range (k*z.length)).map (fun i=>z.toArray[i%z.toArray.size]!)=A.zeros z k
  |0=>by simp[A.zeros]
  |k+1=>by
    rw[aAi,←vL z c k,Nat.succ_mul,List.range_add,rJ];congr 1;rw[List.map_map];apply mT;intro i;simp only[pL];by_cases a:i<z.length
    ·rw[List.getElem?_range a];have b:(k*z.length+i)%z.length=i:=by rw[Nat.mul_comm,Nat.mul_add_mod];exact Nat.mod_eq_of_lt a
     simp[b,a]
    ·rw[List.getElem?_eq_none (by simp;omega),List.getElem?_eq_none (by omega)];rfl
def nR (z:kC kA):∀k,(A.zeros z k).length=k*z.length
  |0=>by simp[A.zeros]
  |k+1=>by simp[A.zeros,nR z k,Nat.succ_mul,Nat.add_comm]
def iM (z:kC kA):∀(k:Nat) (a:kA),a∈A.zeros z k→a∈z
  |0,a,b=>by simp[A.zeros]at b
  |k+1,a,b=>by
    simp only[A.zeros,mP]at b;rcases b with b|b
    ·exact b
    ·exact iM z k a b
def qF {z:kC kA}(d:cQ z=true):∀a∈z,aJ a=true∧cellish a=true:=fun a b=>by
  obtain⟨i,c⟩:=mM.1 b;exact eD z d i a c
def LR.of_plain_mem (μ:Mu){z:kC kA}(e:∀a∈z,aJ a=true):LR μ z z:=
  ⟨rfl,fun i a b d c=>by rw[d]at c;simp at c;subst c;exact VR.of_plain μ a (e a (sY d))⟩
def jL {z:kA}{a:kC kA}(b:aN z=some a):z.cells=⟨a⟩:=by
  cases z<;>simp_all [aN,Value.cells]
  subst b;rfl
def vZ {NG:Nat}(r:RH NG μ h w)(M:μ h.next=none){G:kK→kB kA}{m:kK→kA}(U:∀x v,G x=some v→VR μ v (m x)){t e:kF}{n i:Nat}{z:kA}{a:kC kA}{I:kH (Nat×kK)}
    {l:kC (Nat×Nat×kA)} {v:kA} {j:H} (u:wF P t=some e) (hn:szP P e=some n) (hz:jN P e=some z) (S:aN z=some a) (Q:cQ a=true) (p:a.length=n) (b3:0<n) (X:i*n≤2^24)
    (hl:lP G (fun E=>some (E*n,n)) I.toList=some l)
    (Z:A.zC n i a l h=some (v,j)):
    ∃D w' B,(Instr.buildSlice t i (I.map fun(E,x)=>(E,m x))).run P w=.ok D w'∧Step NG μ h w B j w'∧VR B v D:=by
  unfold A.zC at Z;obtain⟨c,f,Y⟩:=sZ.1 Z;simp only[kW]at Y;obtain⟨rfl,rfl⟩:=Y;obtain⟨o,hp⟩:=uO U _ I.toList l hl;have q:=qF Q;have R:LR μ (A.zeros a i) (A.zeros a i):=LR.of_plain_mem μ (fun V L=>(q V (iM a i V L)).1);obtain⟨g,J,K,h3⟩:=oH (μ:=μ) (fun E=>some (E*n,n)) l (I.toList.map fun(E,x)=>(E,m x)) _ c _ f (by simp[o])
      (fun E y s v e3 D hi hj=>hp E y s v e3 D hi hj) R (fun V L=>(q V (iM a i V L)).2)
  have a3:c.length=i*n:=by
    have:∀(l:kC (Nat×Nat×kA)) (C c:kC kA),A.yG C l=some c→c.length=C.length:=by
      intro l
      induction l with
      |nil=>intro C c d;simp only[A.yG,kP]at d;rw[d]
      |cons x l ih=>
        intro C c d;obtain⟨y,s,v⟩:=x;simp only[A.yG]at d;split at d
        ·rename_i vs d3;obtain⟨hc,d⟩:=aB d;simp only[pA,beq_iff,ble_iff]at hc;rw[ih _ _ d,aZ _ _ _ (by omega)]
        ·simp at d
    rw[this _ _ _ f,nR,p]
  have O:P.underlying t=some (.slice e):=by
    unfold wF at u;split at u
    ·rename_i e' N;simp only[kP]at u;subst u;exact N
    ·simp at u
  refine⟨.slice (some ⟨w.heap.size,0,none⟩) i i,w.alloc (.cells ⟨g⟩ e),_,?_,Step.new_cells (es:=n) (ds:=g) r M rfl rfl rfl rfl (by rw[K.1];omega) (by rw[K.1];simpa using K) h3,?_⟩
  ·have b:=jL S;have e1:Array.map (fun x=>a.toArray[x%a.toArray.size]!) (Array.range (i*n))=⟨A.zeros a i⟩:=by
     apply Array.ext';rw[←vL a (by omega) i,p];simp[Array.toList_range]
   simp only[Instr.buildSlice,pD,sU O,pC,bM P hn];rw[kL (by omega)];by_cases W:i*n=0
   ·have k:i=0:=by
      rcases Nat.mul_eq_zero.1 W with h|h
      ·exact h
      ·omega
    subst k;have e2:A.zeros a 0=[]:=rfl;rw[e2]at J;simp only[Nat.zero_mul,mE,pD,pG,pC,tN];rw[show Array.map (fun x=>(#[]:kH kA)[x%(#[]:kH kA).size]!) (Array.range 0)=⟨[]⟩from by simp,J];simp only[pD,newRow,run_newObj,pC,pG];rfl
   ·rw[kL W];simp only[pD,gY P hz,pC,pG,b,tN];rw[e1,J];simp only[pD,newRow,run_newObj,pC,pG];rfl
  ·refine .slice (l:=⟨w.heap.size,0,n,g.length⟩) (Mu.set_same _ _ _) ?_ (by omega) (fun _=>rfl);unfold fL;rw[kM (by omega)];omega
def xV {NG:Nat}(r:RH NG μ h w)(p:μ h.next=none){t e:kF}{n i:Nat}{z:kA}{a:kC kA}
    {v x c L e3:kA} {j:H} (u:wF P t=some e) (Q:szP P e=some n) (Y:oV P e=some i) (hz:jN P e=some z) (J:aN z=some a) (I:cQ a=true) (G:a.length=n) (a3:0<n)
    (f:A.zP n i a v x h=some (e3,j)) (rl:VR μ v c) (rc:VR μ x L):
    ∃M R k,(Instr.makeSlice t c L).run P w=.ok M R∧Step NG μ h w k j R∧VR k e3 M:=by
  unfold A.zP at f;split at f
  ·rename_i k1 l k2 b;obtain⟨O,f⟩:=aB f;simp only[kP,kW]at f;obtain⟨rfl,rfl⟩:=f;simp only[pA,ble_iff]at O;obtain⟨⟨h1,W⟩,h3⟩:=O;rw[rl.int_inv,rc.int_inv];have C:P.underlying t=some (.slice e):=by
     unfold wF at u;split at u
     ·rename_i e' B;simp only[kP]at u;subst u;exact B
     ·simp at u
   have g:=qF I;have E:IntKind.i64.wrap (Int.ofNat l)=l:=by simp only[IntKind.wrap,IntKind.bits,IntKind.signed,Int.ofNat_eq_natCast];simp;omega
   have D:IntKind.i64.wrap (Int.ofNat b)=b:=by simp only[IntKind.wrap,IntKind.bits,IntKind.signed,Int.ofNat_eq_natCast];simp;omega
   have Z:¬((i:Int)*(b:Int)>2^48):=by
     have:i*b≤2^47:=W;have X:((i*b:Nat):Int)≤((2^47:Nat):Int):=Int.ofNat_le.2 this;rw[Int.natCast_mul]at X;have:((2^47:Nat):Int)<2^48:=by decide
     omega
   refine⟨.slice (some ⟨w.heap.size,0,none⟩) l b,w.alloc (.cells ⟨A.zeros a b⟩ e),_,?_,Step.new_cells (es:=n) (ds:=A.zeros a b) r p rfl rfl rfl rfl (kQ _) (by simpa using LR.of_plain_mem μ (fun K m=>(g K (iM a b K m)).1)) (fun K m=>(g K (iM a b K m)).2),?_⟩
   ·have d:=jL J
    cases s:P.info? e with
    |none=>simp[szP,s]at Q
    |some b3=>
      have q:b3.bytes=i:=by simpa[oV,s]using Y
      have y:(typeInfo e).run P w=.ok b3 w:=by simp[typeInfo,s]
      simp only[Instr.makeSlice,pD,sU C,pC,asInt,asIntOf,pG,y,E,D];have c1:(((b:Int)<0||(b3.bytes:Int)*(b:Int)>2^48)||(l:Int)<0||(l:Int)>(b:Int))=false:=by
        rw[q];simp;omega
      have S:Array.map (fun d3=>a.toArray[d3%a.toArray.size]!) (Array.range (b*n))=⟨A.zeros a b⟩:=by
        apply Array.ext';rw[←vL a (by omega) b,G];simp[Array.toList_range]
      have U:(b:Int).toNat=b:=Int.toNat_natCast b;have V:(l:Int).toNat=l:=Int.toNat_natCast l;simp only[c1,pP,mD,U,V,pD,run_askRoom,pC,bM P Q];by_cases N:b*n=0
      ·have o:b=0:=by
         rcases Nat.mul_eq_zero.1 N with h|h
         ·exact h
         ·omega
       subst o;simp only[Nat.zero_mul,mE,pD,pG,pC];rw[show Array.map (fun d3=>(#[]:kH kA)[d3%(#[]:kH kA).size]!) (Array.range 0)=⟨[]⟩from by simp];simp only[pD,newRow,run_newObj,pC,pG];rfl
      ·rw[kL N];simp only[pD,gY P hz,pC,pG,d,S,newRow,run_newObj];rfl
   ·refine .slice (l:=⟨w.heap.size,0,n,(A.zeros a b).length⟩) (Mu.set_same _ _ _) ?_ (by omega) (fun _=>rfl);unfold fL;rw[kM (by omega)];omega
  ·simp at f
def OR (μ:Mu)(v cv:kB kA):Prop:=match v,cv with|some a,some b=>VR μ a b|none,none=>True|_,_=>False
def rC {y:Nat}{v:kB kA}{cv:kB kA}{r:kB Nat}(b:A.zQ y v=some r)(e:OR μ v cv):
    (∀(o:BoundsCode) (w:kE),match cv with
      |some c=>∃i,r=some i∧i≤y∧(Instr.sliceBound c y o).run P w=.ok i w
      |none=>r=none):=by
  intro o w
  cases v with
  |none=>
    cases cv with
    |none=>simp only[A.zQ,kP]at b;exact b.symm
    |some c=>exact e.elim
  |some a=>
    cases cv with
    |none=>exact e.elim
    |some c=>
      simp only[A.zQ]at b;split at b
      ·rename_i d;simp at d
      ·rename_i k i d;simp only[kP]at d;subst d;obtain⟨hle,b⟩:=aB b;simp only[kP]at b;have hle:=ble_iff.1 hle;have g:c=.int k (Int.ofNat i):=VR.int_inv e;subst g;refine⟨i,b.symm,hle,?_⟩;have f:(0:Int)≤Int.ofNat i∧Int.ofNat i≤(y:Int):=⟨Int.natCast_nonneg i,Int.ofNat_le.2 hle⟩;simp only[Instr.sliceBound,asIntOf,pD,pG,pC,f,and_self,mE];rfl
      ·simp at b
def gO {isSlice:Bool}{len cap cap':Nat}{C g mx d f cmx:kB kA}{m E l:kB Nat}(hm:A.zQ cap mx=some m)(Y:A.zQ (m.getD cap) g=some E)(Z:A.zQ (E.getD len) C=some l)
    (B:OR μ C d) (G:OR μ g f) (R:OR μ mx cmx) (u:cap≤cap') (N:mx.isSome=true→g.isSome=true) (w:kE):
    (Instr.sliceBounds isSlice len cap' d f cmx).run P w=.ok (l.getD 0,E.getD len,m.getD cap') w:=by
  have U:=rC (μ:=μ) P (v:=mx) (cv:=cmx) hm R;have I:=rC (μ:=μ) P (v:=g) (cv:=f) Y G;have L:=rC (μ:=μ) P (v:=C) (cv:=d) Z B;have z:∀(c:kA) (y S:Nat) (o:BoundsCode) (i:Nat),y≤S→i≤y→(Instr.sliceBound c y o).run P w=.ok i w→(Instr.sliceBound c S o).run P w=.ok i w:=by
    intro c y S o i hy g r;unfold Instr.sliceBound at r⊢;simp only[pD]at r⊢
    cases V:(asIntOf c).run P w with
    |halt x w1=>rw[V]at r;simp at r
    |ok p w1=>
      obtain⟨k,n⟩:=p;rw[V]at r;simp only[pC]at r⊢;by_cases Q:0≤n∧n≤(y:Int)
      ·rw[kM Q]at r;rw[kM ⟨Q.1,by omega⟩];exact r
      ·rw[kL Q]at r;exfalso;obtain⟨s,w2,X⟩:=run_boundsPanic (α:=Nat) (P:=P) (w:=w1) k n y o;rw[X]at r;simp at r
  cases mx with
  |none=>
    cases cmx with
    |some c=>exact R.elim
    |none=>
      have M:m=none:=U .index w;subst M
      cases g with
      |none=>
        cases f with
        |some c=>exact G.elim
        |none=>
          have J:E=none:=I .index w;subst J
          cases C with
          |none=>
            cases d with
            |some c=>exact B.elim
            |none=>
              have q:l=none:=L .index w;subst q;simp[Instr.sliceBounds]
          |some a=>
            cases d with
            |none=>exact B.elim
            |some c=>
              obtain⟨i,g,_,r⟩:=L .sliceB w;subst g;simp only[tH]at r;simp[Instr.sliceBounds,r]
      |some a=>
        cases f with
        |none=>exact G.elim
        |some c=>
          obtain⟨j,K,t,b⟩:=I (if isSlice then .sliceAcap else .sliceAlen) w
          subst K;simp only[tH]at b t;have b:=z _ _ _ _ _ u t b
          cases C with
          |none=>
            cases d with
            |some c=>exact B.elim
            |none=>
              have q:l=none:=L .index w;subst q;simp[Instr.sliceBounds,b]
          |some W=>
            cases d with
            |none=>exact B.elim
            |some c2=>
              obtain⟨i,g,_,r⟩:=L .sliceB w;subst g;simp only[pQ]at r;simp[Instr.sliceBounds,b,r]
  |some am=>
    cases cmx with
    |none=>exact R.elim
    |some cm=>
      obtain⟨mm,O,D,e⟩:=U (if isSlice then .slice3Acap else .slice3Alen) w
      subst O;have e:=z _ _ _ _ _ u D e
      cases g with
      |none=>simp at N
      |some a=>
        cases f with
        |none=>exact G.elim
        |some c=>
          obtain⟨j,K,t,b⟩:=I .slice3B w;subst K;simp only[pQ]at b t
          cases C with
          |none=>
            cases d with
            |some c=>exact B.elim
            |none=>
              have q:l=none:=L .index w;subst q;simp[Instr.sliceBounds,b,e]
          |some W=>
            cases d with
            |none=>exact B.elim
            |some c2=>
              obtain⟨i,g,_,r⟩:=L .slice3C w;subst g;simp only[pQ]at r;simp[Instr.sliceBounds,b,r,e]
def vC {NG:Nat}(r:RH NG μ h w){n:Nat}{v x c:kA}{lo Q mx U S cmx:kB kA}(f:A.zK n v lo Q mx h=some x)(rx:VR μ v c)
    (rl:OR μ lo U) (rh:OR μ Q S) (rm:OR μ mx cmx) (isSlice:Bool):
    ∃(t:kB Addr) (b D C Y j:Nat),c=.slice t b D∧(Instr.sliceBounds isSlice b D U S cmx).run P w=.ok (C,Y,j) w∧
      VR μ x (.slice (if j=C then t else t.map (·.add (C*n))) (Y-C) (j-C)):=by
  unfold A.zK at f
  cases E:(mx.isSome&&Q.isNone)with
  |true=>rw[E]at f;simp at f
  |false=>
    rw[E]at f;simp only[sW]at f;have J:mx.isSome=true→Q.isSome=true:=by
      intro g;cases Q with
      |none=>simp[g]at E
      |some _=>rfl
    split at f
    ·rename_i id g3 b a3;obtain⟨l,t,R,hl,rfl,i,hle,ha⟩:=rx.slice_inv;have b3:a3 / 2≤R:=by unfold fL at i;split at i<;>omega
     split at f
     ·simp at f
     ·rename_i m I;split at f
      ·simp at f
      ·rename_i q B;split at f
       ·simp at f
       ·rename_i p hp;obtain⟨u,f⟩:=aB f;simp only[kP]at f;subst f;have hB:=gO (μ:=μ) (isSlice:=isSlice) (len:=b) (cap:=a3 / 2) (cap':=R) P I B hp rl rh rm b3 J w;refine⟨some t,b,R,_,_,_,rfl,hB,?_⟩;have W:∀(y:Nat) (o:kB kA) (k:kB Nat) (d:Nat),A.zQ y o=some k→d≤y→k.getD d≤y:=by
          intro y o k d s hd
          cases o with
          |none=>simp only[A.zQ,kP]at s;subst s;exact hd
          |some a=>
            simp only[A.zQ]at s;split at s
            ·rename_i X;simp at X
            ·obtain⟨g,G⟩:=aB s;simp only[kP]at G;subst G;exact ble_iff.1 g
            ·simp at s
        have Z:m.getD (a3 / 2)≤a3 / 2:=W _ _ _ _ I (kQ _);have O:q.getD b≤m.getD (a3 / 2):=by
          cases Q with
          |none=>
            simp only[A.zQ,kP]at B;subst B
            cases mx with
            |none=>simp only[A.zQ,kP]at I;subst I;exact hle
            |some _=>simp at E
          |some a=>
            simp only[A.zQ]at B;split at B
            ·rename_i X;simp at X
            ·obtain⟨g,G⟩:=aB B;simp only[kP]at G;subst G;exact ble_iff.1 g
            ·simp at B
        have k3:p.getD 0≤q.getD b:=W _ _ _ _ hp (sE _);have f3:∀(cc j:Nat),(m=none→j=R∧cc=a3-2*p.getD 0)→(∀k,m=some k→j=k∧cc=2*(k-p.getD 0)+1)→
            VR μ (.slice (some ⟨id,g3+p.getD 0*n,none⟩) (q.getD b-p.getD 0) cc) (.slice (if j=p.getD 0 then some t else(some t).map (·.add (p.getD 0*n))) (q.getD b-p.getD 0) (j-p.getD 0)):=by
          intro cc j hn hs;have e3:m.getD (a3 / 2)≤j:=by
            cases m with
            |none=>have:=hn rfl;simp;omega
            |some k=>have:=hs k rfl;simp;omega
          have N:(if j=p.getD 0 then some t else(some t).map (·.add (p.getD 0*n)))=some (if j=p.getD 0 then t else t.add (p.getD 0*n)):=by split<;>rfl
          rw[N];refine .slice hl ?_ ?_ ?_
          ·cases m with
           |some k=>
             obtain⟨V,M⟩:=hs k rfl;subst V;subst M;unfold fL;rw[kM (by omega)];omega
           |none=>
             obtain⟨V,M⟩:=hn rfl;subst V;subst M;simp only[tH]at Z O e3;unfold fL at i⊢;by_cases K:a3%2=1
             ·rw[kM K]at i;rw[kM (by omega)];omega
             ·rw[kL K]at i;rw[kL (by omega)];refine⟨by omega,?_⟩;have d3:p.getD 0=0∨l.es=n:=by
                simp only[tI,beq_iff]at u;rcases u with((g|g)|g)|g
                ·omega
                ·simp at g
                ·exact .inl g
                ·right;unfold A.yH at g;split at g
                 ·rename_i cs es hg;obtain⟨_,_,_,_,_,_,_,_,_,h7⟩:=r.cells hg hl;rw[h7 _ rfl];exact beq_iff.1 g
                 ·simp at g
              have L:(j-p.getD 0)*l.es+p.getD 0*l.es=j*l.es:=by
                rw[←Nat.add_mul,Nat.sub_add_cancel (by omega)]
              rcases d3 with h0|h0
              ·rw[h0]at L⊢;simp at L⊢;omega
              ·rw[←h0];omega
          ·cases m with
           |some k=>obtain⟨V,M⟩:=hs k rfl;subst M;simp at O;omega
           |none=>obtain⟨V,M⟩:=hn rfl;subst M;simp at O;omega
          ·intro j3;have i3:j≤R:=by
             cases m with
             |none=>have:=hn rfl;omega
             |some k=>have:=hs k rfl;simp at Z;omega
           rw[kL (by omega),ha (by omega),eK,Nat.add_assoc]
        refine f3 _ _ (fun e=>by subst e;exact⟨rfl,rfl⟩) (fun k e=>by subst e;exact⟨rfl,rfl⟩)
    ·have:=rx.nilslice_inv;subst this;split at f
     ·rename_i m q p I B hp;simp only[kP]at f;subst f;have z:∀(o:kB kA) (k:kB Nat),A.zQ 0 o=some k→k.getD 0=0:=by
        intro o k s
        cases o with
        |none=>simp only[A.zQ,kP]at s;subst s;rfl
        |some a=>
          simp only[A.zQ]at s;split at s
          ·rename_i X;simp at X
          ·obtain⟨g,G⟩:=aB s;simp only[kP]at G;subst G;have:=ble_iff.1 g;simp;omega
          ·simp at s
      have hB:=gO (μ:=μ) (isSlice:=isSlice) (len:=0) (cap:=0) (cap':=0) P I (by rw[z _ _ I];exact B) (by rw[z _ _ B];exact hp) rl rh rm (kQ _) J w;refine⟨none,0,0,_,_,_,rfl,hB,?_⟩;rw[z _ _ I,z _ _ hp,z _ _ B];exact .sliceNil
     ·simp at f
    ·simp at f
def aGi {NG:Nat}(r:RH NG μ h w){t e:kF}{n:Nat}(u:P.underlying t=some (.slice e))(j:szP P e=some n){v x c:kA}{o i d l a m:kB kA}
    (p:A.zK n v o i d h=some x) (D:VR μ v c) (z:OR μ o l) (y:OR μ i a) (C:OR μ d m):
    ∃b,(Instr.sliceAt t c l a m).run P w=.ok b w∧VR μ x b:=by
  obtain⟨E,q,f,s,g,G,rfl,B,k⟩:=vC P r p D z y C true;refine⟨_,?_,k⟩;simp only[Instr.sliceAt,pD,sU u,pC,Instr.slice,B,bM P j,pG]
def aAd {NG:Nat}(r:RH NG μ h w){t e:kF}{n i:Nat}(D:P.underlying t=some (.array n e))(z:szP P e=some i){v x c:kA}{k j p b a m:kB kA}
    (d:A.yM n i v k j p h=some x) (M:VR μ v c) (J:OR μ k b) (I:OR μ j a) (K:OR μ p m):
    ∃f,(Instr.sliceAt t c b a m).run P w=.ok f w∧VR μ x f:=by
  unfold A.yM at d;split at d
  ·rename_i id o;obtain⟨l,y,rfl⟩:=M.ptr_inv;have L:VR μ (.slice (some ⟨id,o,none⟩) n (2*n+1)) (.slice (some ⟨l.blk,l.off+o,none⟩) n n):=
     .slice y (by unfold fL;rw[kM (by omega)];omega) (by omega) (fun _=>rfl)
   obtain⟨N,E,q,G,u,O,g,B,C⟩:=vC P r d L J I K false;simp only[Value.slice.injEq]at g;obtain⟨s,rfl,rfl⟩:=g;subst s;refine⟨_,?_,C⟩;simp only[Instr.sliceAt,pD,sU D,pC,Instr.sureAddr,pG,B,bM P z];congr 2;split<;>rfl
  ·simp at d
def jV {a b:ByteArray}(h:a.data.toList=b.data.toList):a=b:=by
  cases a;cases b;simp at h;rw[h]
def aAc {t:kF}(u:P.underlying t=some .string){v x c:kA}{o i l b:kB kA}
    (a:A.zN v o i=some x) (j:VR μ v c) (g:OR μ o l) (r:OR μ i b):
    ∃d,(Instr.sliceAt t c l b none).run P w=.ok d w∧VR μ x d:=by
  unfold A.zN at a;split at a
  ·rename_i s;rw[j.string_inv];split at a
   ·simp at a
   ·rename_i q f;split at a
    ·simp at a
    ·rename_i p e;simp only[kP]at a;subst a;have B:=gO (μ:=μ) (isSlice:=false) (len:=s.size) (cap:=s.size) (cap':=s.size) (mx:=none) (cmx:=none) (m:=none) P rfl f e g r trivial (kQ _) (by simp) w;refine⟨.string (s.extract (p.getD 0) (q.getD s.size)),?_,?_⟩
     ·simp only[Instr.sliceAt,pD,sU u,pC,Instr.slice,B,pG,dX,pP,mD]
     ·have:(⟨⟨(s.data.toList.drop (p.getD 0)).take (q.getD s.size-p.getD 0)⟩⟩:ByteArray)=s.extract (p.getD 0) (q.getD s.size):=by
        apply jV;simp[List.extract_eq_take_drop]
      rw[this];exact .string _
  ·simp at a
end
section
variable (P:kD){NG:Nat}{μ:Mu}{h:H}{w:kE}
def xK {n:Nat}{v x:kA}{a:kC kA}(e:A.elems n v h=some a)(r:VR μ v x):
    (Builtin.lenOf x).run P w=.ok (A.zG v) w:=by
  unfold A.elems at e;split at e
  ·rw[r.nilslice_inv];rfl
  ·obtain⟨l,b,c,d,rfl,_⟩:=r.slice_inv;rfl
  ·rw[r.string_inv];rfl
  ·simp at e
def qR {NG:Nat}(r:RH NG μ h w){n:Nat}{v x:kA}{a:kC kA}(d:A.elems n v h=some a)(y:VR μ v x):
    ∃z,(∀i:kE,i.heap=w.heap→(Builtin.firstCells n (A.zG v) x).run P i=.ok ⟨z⟩ i)∧LR μ a z∧(∀B∈a,cellish B=true)∧a.length=A.zG v*n:=by
  unfold A.elems at d;split at d
  ·simp only[kP]at d;subst d;rw[y.nilslice_inv];exact⟨[],fun _ _=>rfl,.nil,by simp,by simp[A.zG]⟩
  ·rename_i id o u c;obtain⟨l,Q,C,M,rfl,j,hle,p⟩:=y.slice_inv
   cases g:Nat.beq u 0 with
   |true=>
     rw[g]at d;simp only[sV,kP]at d;subst d;have G:=beq_iff.1 g;subst G;refine⟨[],fun _ _=>?_,.nil,by simp,by simp[A.zG]⟩;simp[A.zG,Builtin.firstCells,loadCells,loadCellsFrom]
   |false=>
     rw[g]at d;simp only[sW]at d;have N:u≠0:=fun e=>by subst e;simp at g
     split at d
     ·rename_i D own L;obtain⟨k,d⟩:=aB d;simp only[kP]at d;subst d;have k:=ble_iff.1 k;obtain⟨f,O,E,I,R,h3,J,K,_⟩:=r.cells L M;have q:C≠0:=by unfold fL at j;split at j<;>omega
      have m:=fun(i:kE) (hw:i.heap=w.heap)=>nN P i l.blk (l.off+o) f O E (by rw[hw];exact I) (u*n) (by omega);refine⟨(f.toList.drop (l.off+o)).take (u*n),?_,?_,fun B p=>K B (mX (mU p)),by simp[A.zG];omega⟩
      ·intro i t;simp only[A.zG,Builtin.firstCells,p q];exact m i t
      ·have e:((((f.toList.drop l.off).take D.length).drop o).take (u*n))=(f.toList.drop (l.off+o)).take (u*n):=by
         rw[List.drop_take,sG,List.take_take,dU (by omega)]
       have r1:=(J.drop o).take (u*n);rw[e]at r1;exact r1
     ·simp at d
  ·rename_i s;obtain⟨k,d⟩:=aB d;simp only[kP]at d;subst d;have k:=beq_iff.1 k;subst k;rw[y.string_inv];refine⟨s.data.toList.map fun b=>.int .u8 b.toNat,?_,LR.of_plain_mem μ (by simp[aJ]),by simp[cellish],by simp[A.zG]⟩;intro i _;simp only[A.zG,Builtin.firstCells,pG];congr 1;apply Array.ext';simp
  ·simp at d
def oS {t:kF}{n:Nat}(b:oV P t=some n)(w:kE):∃i,(typeInfo t).run P w=.ok i w∧i.bytes=n:=by
  unfold oV at b
  cases q:P.info? t with
  |none=>simp[q]at b
  |some i=>simp[q]at b;exact⟨i,by simp[typeInfo,q],b⟩
def aEn (z:kA)(s:kC kA)(a:aN z=some s)(k:Nat):
    (Builtin.zeroCells z.cells k).size=k*s.length:=by
  rw[jL a];simp[Builtin.zeroCells]
def eN {t e:kF}{n bs:Nat}{z:kA}{a:kC kA}(M:P.underlying t=some (.slice e))(L:szP P e=some n)(x:oV P e=some bs)(N:jN P e=some z)(J:aN z=some a)(I:a.length=n)
    {y:kF} {Q:TypeDesc} (G:P.underlying y=some Q) (U:∀k,Q≠.int k) (K:0<bs)
    {base:kB Addr} {sLen sCap i:Nat} {v:kA} {old d:kC kA} (D:(Builtin.lenOf v).run P w=.ok i w)
    (p:∀(c:kE),c.heap=w.heap→(Builtin.firstCells n sLen (.slice base sLen sCap)).run P c=.ok ⟨old⟩ c)
    (o:∀(c:kE),c.heap=w.heap→(Builtin.firstCells n i v).run P c=.ok ⟨d⟩ c)
    (l:sCap<sLen+i) (m:(sLen+i)*bs≤2^47) (O:kF):
    ∃b r,sLen+i≤b∧r.length=(b-(sLen+i))*n∧
      (Builtin.append_ #[t,y] O #[.slice base sLen sCap,v]).run P w=
        .ok (.slice (some ⟨w.heap.size,0,none⟩) (sLen+i) b) (w.drew.alloc (.cells ⟨old++d++r⟩ e)):=by
  obtain⟨R,E,C⟩:=oS P x w;have f:∀c:kE,(typeInfo e).run P c=.ok R c:=fun c=>by
    obtain⟨V,S,_⟩:=oS P x c;unfold oV at x
    cases g:P.info? e with
    |none=>simp[g]at x
    |some j=>
      have:(typeInfo e).run P w=.ok j w:=by simp[typeInfo,g]
      rw[E]at this;simp at this;subst this;simp[typeInfo,g]
  have g:∃q,q=(Question.appendCap (sLen+i) sCap e).cut (w.tape w.drawn (.appendCap (sLen+i) sCap e)):=⟨_,rfl⟩;obtain⟨q,g⟩:=g;have s:sLen+i≤q:=by rw[g];simp only[Question.cut];omega
  refine⟨q,(Builtin.zeroCells z.cells (q-(sLen+i))).toList,s,by simp[aEn z a J,I],?_⟩;have B:Builtin.nextslicecap (sLen+i) sCap*bs≤281474976710656:=growslice_fits l (by simpa using m);simp only[Builtin.append_,pU,pM,pN,pD,sU M,pC,bM P L];simp only[pD,sU G,pC,pG,pP,mD,sQ,mE];rw[D];simp only[pC];rw[kL (by omega)];have c1:¬(((sLen+i:Nat):Int)>IntKind.i64.max∧(False∨R.bytes=0)):=by
    rintro⟨_,u⟩;rcases u with u|u
    ·exact u
    ·omega
  simp only[pD,f,pC];rw[kL (by simpa using c1)];simp only[pD,f,pC];rw[C,kL (by omega)];simp only[pD,run_choose,Question.forced,pP,mD,pC,←g,run_askRoom,f,World.drew_eq];rw[p w.drew rfl];simp only[pC];rw[o w.drew rfl];simp only[pC,gY P N,newRow,pD,run_newObj,pG];congr 2;congr 1;simp
def lM {t e:kF}{n:Nat}(f:P.underlying t=some (.slice e))(c:szP P e=some n){y:kF}{d:TypeDesc}(u:P.underlying y=some d)(m:∀k,d≠.int k)
    {base:kB Addr} {sLen sCap i:Nat} {v:kA} {a:kC kA} (l:(Builtin.lenOf v).run P w=.ok i w)
    (b:(Builtin.firstCells n i v).run P w=.ok ⟨a⟩ w) (r:sLen+i≤sCap) {w':kE}
    (s:match base with|some j=>(storeCells (j.add (sLen*n)) a).run P w=.ok () w'|none=>w'=w) (g:kF):
    (Builtin.append_ #[t,y] g #[.slice base sLen sCap,v]).run P w=.ok (.slice base (sLen+i) sCap) w':=by
  simp only[Builtin.append_,pU,pM,pN,pD,sU f,pC,bM P c];simp only[pD,sU u,pC,pG,pP,mD,sQ,mE];rw[l];simp only[pC];rw[kM r];simp only[pD,b,pC]
  cases base with
  |none=>simp only at s;subst s;simp
  |some j=>simp only at s;simp only[pD,s,pC,pG]
def aFf {NG:Nat}(r:RH NG μ h w){j:H}(hf:Fresh μ h.next j.next){t e:kF}{n i:Nat}{z:kA}{a:kC kA}(hu:P.underlying t=some (.slice e))(hn:szP P e=some n)(hb:oV P e=some i)(hz:jN P e=some z)(s3:aN z=some a)(q3:a.length=n)
    {t2:kF} {d:TypeDesc} (Q:P.underlying t2=some d) (hd:∀k,d≠.int k) (j3:0<i) {v x c u3 cx:kA}
    (g:A.zF n i v x h=some (c,j)) (rs:VR μ v u3) (rx:VR μ x cx) (ty:kF):
    ∃cv C R,(Builtin.append_ #[t,t2] ty #[u3,cx]).run P w=.ok cv C∧Step NG μ h w R j C∧VR R c cv:=by
  unfold A.zF at g;split at g
  ·simp at g
  ·rename_i G i3;obtain⟨u,L,E,K,n4⟩:=qR P r i3 rx;have b3:u.length=A.zG x*n:=by rw[←E.1];exact n4
   have N:=xK P (w:=w) i3 rx;split at g
   ·rw[rs.nilslice_inv]
    cases D:Nat.beq (A.zG x) 0 with
    |true=>
      rw[D]at g;simp only[sV,kP,kW]at g;obtain⟨rfl,rfl⟩:=g;have D:=beq_iff.1 D;have:=lM P hu hn Q hd (base:=none) (sLen:=0) (sCap:=0) N (L w rfl) (by omega) (w':=w) rfl ty;rw[D]at this;exact⟨_,w,μ,this,Step.refl r,.sliceNil⟩
    |false=>
      rw[D]at g;simp only[sW]at g;obtain⟨hc,g⟩:=aB g;simp only[kP,kW]at g;obtain⟨rfl,rfl⟩:=g;simp only[pA,ble_iff]at hc;have m4:A.zG x≠0:=fun e=>by rw[e]at D;simp at D
      obtain⟨s,y,hq,V,p⟩:=eN P (base:=none) (sLen:=0) (sCap:=0) (old:=[]) hu hn hb hz s3 q3 Q hd j3 N (fun C _=>rfl) L (by omega) (by simpa using hc.1) ty;simp only[sR]at hq V p;have a4:u.length+y.length=s*n:=by
        rw[b3,V,←Nat.add_mul,Nat.add_sub_cancel' hq]
      refine⟨_,_,_,p,Step.new_cells (es:=n) (cs:=G) (ds:=[]++u++y) r (hf _ (kQ _) (by simp)) rfl rfl rfl rfl (by simp;omega) ?_ K,?_⟩
      ·rw[dF,List.take_append_of_le_length (by omega),E.1,List.take_length];exact E
      ·refine .slice (Mu.set_same _ _ _) ?_ (by omega) (fun _=>rfl);unfold fL;rw[kL (by omega)];simp only[dF,kX];exact⟨by omega,by omega⟩
   ·rename_i id o b d4;obtain⟨l,a',W,hl,rfl,q,hle,m⟩:=rs.slice_inv;have t4:d4 / 2≤W:=by unfold fL at q;split at q<;>omega
    cases D:Nat.beq (A.zG x) 0 with
    |true=>
      rw[D]at g;simp only[sV,kP,kW]at g;obtain⟨rfl,rfl⟩:=g;have D:=beq_iff.1 D;have g4:u=[]:=pY.1 (by rw[b3,D];simp);subst g4;have:=lM P hu hn Q hd (base:=some a') (sLen:=b) (sCap:=W) N (L w rfl) (by omega) (w':=w) (by simp[storeCells]) ty;rw[D]at this;exact⟨_,w,μ,this,Step.refl r,rs⟩
    |false=>
      rw[D]at g;simp only[sW]at g;have m4:A.zG x≠0:=fun e=>by rw[e]at D;simp at D
      have s4:(b+A.zG x)*n=b*n+A.zG x*n:=Nat.add_mul _ _ _;split at g
      ·rename_i B es hg;obtain⟨f,J,fz,h1,h2,h3,h4,h5,h6,h7⟩:=r.cells hg hl;have m3:=h6 rfl;have X:Nat.ble (o+b*n) B.length=true→∀(C:kE),C.heap=w.heap→(Builtin.firstCells n b (.slice (some a') b W)).run P C=.ok ⟨(f.toList.drop (l.off+o)).take (b*n)⟩ C:=by
         intro hb C p3;have hb:=ble_iff.1 hb;by_cases n3:b=0
         ·subst n3;simp[Builtin.firstCells,loadCells,loadCellsFrom]
         ·simp only[Builtin.firstCells,m (by omega)];exact nN P C l.blk (l.off+o) f J fz (by rw[p3];exact h1) (b*n) (by omega)
       have Y:o+b*n≤B.length→LR μ ((B.drop o).take (b*n)) ((f.toList.drop (l.off+o)).take (b*n)):=by
         intro hb;have r1:=(h4.drop o).take (b*n);rw[List.drop_take,sG,List.take_take,dU (by omega)]at r1;exact r1
       cases M:Nat.ble (b+A.zG x) (d4 / 2)with
       |true=>
         rw[M]at g;simp only[sV]at g;obtain⟨g3,g⟩:=aB g;simp only[kP,kW]at g;obtain⟨rfl,rfl⟩:=g;have M:=ble_iff.1 M;have g3:=ble_iff.1 g3;have o3:=jQ P u w l.blk (l.off+(o+b*n)) 0 f J fz h1 (by omega) (by rw[h2];exact m3) (E.cell_all K);have p:=lM P hu hn Q hd (base:=some a') (sLen:=b) (sCap:=W) N (L w rfl) (by omega) (w':=setObj w l.blk (.cells ⟨splice f.toList (l.off+(o+b*n)) u⟩ J fz))
           (by simp only;rw[m (by omega),eK,show l.off+o+b*n=l.off+(o+b*n) by omega];simpa using o3) ty
         refine⟨_,_,μ,p,Step.write r hg rfl rfl hl ?_,.slice hl q (by omega) m⟩;have o4:(splice f.toList (l.off+(o+b*n)) u).length=f.size:=by rw[aZ _ _ _ (by simp;omega)];simp
         have b4:(splice B (o+b*n) G).length=B.length:=aZ _ _ _ (by omega);refine BR.mk_cells (bJ (BR.lt (r.br _ _ _ hg hl))) (by omega) (by omega) ?_ ?_ h6 h7
         ·have e:((splice f.toList (l.off+(o+b*n)) u).drop l.off).take B.length=splice ((f.toList.drop l.off).take B.length) (o+b*n) u:=by
            apply mT;intro p4;rw[sK];by_cases hi:p4<B.length
            ·rw[kM hi,sL,dK _ _ _ (by simp;omega),dK _ _ _ (by simp;omega)];by_cases h8:p4<o+b*n
             ·rw[kM (by omega),kM h8,sK,kM hi,sL]
             ·rw[kL (by omega),kL h8];by_cases h9:p4<o+b*n+u.length
              ·rw[kM (by omega),kM h9];congr 1;omega
              ·rw[kL (by omega),kL h9,sK,kM hi,sL]
            ·rw[kL hi,List.getElem?_eq_none];rw[aZ _ _ _ (by simp;omega)];simp;omega
          rw[b4,e];exact h4.splice E _
         ·intro t3 m;unfold splice at m;simp only[mP]at m;rcases m with(m|m)|m
          ·exact h5 t3 (mU m)
          ·exact K t3 m
          ·exact h5 t3 (mX m)
       |false=>
         rw[M]at g;simp only[sW]at g;have M:d4 / 2<b+A.zG x:=by
           rcases mJ (d4 / 2) (b+A.zG x)with h|h
           ·exact h
           ·rw[ble_iff.2 h]at M;simp at M
         obtain⟨hc,g⟩:=aB g;simp only[pA]at hc;obtain⟨⟨k3,f4⟩,l3⟩:=hc;have f3:=ble_iff.1 l3;have d3:μ h.next=none:=by
           refine hf _ (kQ _) ?_
           cases S:Nat.beq (d4%2) 1 with
           |true=>rw[S]at g;simp only[sV,kP,kW]at g;rw[←g.2];simp
           |false=>
             rw[S]at g;simp only[sW]at g;obtain⟨_,g⟩:=aB g;simp only[kP,kW]at g;rw[←g.2];simp
         have a3:W<b+A.zG x→∀(D:H),RH NG μ D w→μ D.next=none→∃cv C R,(Builtin.append_ #[t,t2] ty #[.slice (some a') b W,cx]).run P w=.ok cv C∧
             Step NG μ D w R (D.push (.cells ((B.drop o).take (b*n)++G) (some n))) C∧VR R (.slice (some ⟨D.next,0,none⟩) (b+A.zG x) (2*(b+A.zG x))) cv:=by
           intro z3 D r0 j4;obtain⟨s,y,hq,V,p⟩:=eN P (base:=some a') (sLen:=b) (sCap:=W) hu hn hb hz s3 q3 Q hd j3 N (X l3) L z3 (ble_iff.1 k3) ty;have U:=Y f3;have O:((f.toList.drop (l.off+o)).take (b*n)).length=b*n:=by simp;omega
           have I:((B.drop o).take (b*n)).length=b*n:=by simp;omega
           have a4:b*n+u.length+y.length=s*n:=by
             rw[b3,V,←Nat.add_mul,←Nat.add_mul,Nat.add_sub_cancel' hq]
           refine⟨_,_,_,p,Step.new_cells (es:=n) (cs:=(B.drop o).take (b*n)++G) (ds:=(f.toList.drop (l.off+o)).take (b*n)++u++y) r0 j4 rfl rfl rfl rfl ?_ ?_ ?_,?_⟩
           ·simp only[kX,O,I];omega
           ·have e:((B.drop o).take (b*n)++G).length=((f.toList.drop (l.off+o)).take (b*n)++u).length:=by
              simp only[kX,O,I,E.1]
            rw[e,List.take_append_of_le_length (kQ _),List.take_length];exact U.append E
           ·intro t3 m;simp only[mP]at m;rcases m with m|m
            ·exact h5 t3 (mX (mU m))
            ·exact K t3 m
           ·refine .slice (Mu.set_same _ _ _) ?_ (by omega) (fun _=>rfl);unfold fL;rw[kL (by omega)];simp only[kX,O];exact⟨by omega,by omega⟩
         cases S:Nat.beq (d4%2) 1 with
         |true=>
           rw[S]at g;simp only[sV,kP,kW]at g;obtain⟨rfl,rfl⟩:=g;have S:=beq_iff.1 S;refine a3 ?_ h r d3;unfold fL at q;rw[kM S]at q;omega
         |false=>
           rw[S]at g;simp only[sW]at g;have S:¬d4%2=1:=fun e=>by rw[beq_iff.2 e]at S;simp at S
           obtain⟨v3,g⟩:=aB g;simp only[kP,kW]at g;obtain⟨rfl,rfl⟩:=g;simp only[pA,beq_iff]at v3;obtain⟨q4,i4⟩:=v3;have y3:l.es=n:=by rw[h7 _ rfl];exact i4
           unfold fL at q;rw[kL S,y3]at q;have x3:B.drop o=(B.drop o).take (b*n):=by rw[sA];simp;omega
           by_cases Z:b+A.zG x≤W
           ·have l4:(b+A.zG x)*n≤W*n:=Nat.mul_le_mul_right n Z;have o3:=jQ P u w l.blk (l.off+o+b*n) 0 f J fz h1 (by omega) (by rw[h2];exact m3) (E.cell_all K);have p:=lM P hu hn Q hd (base:=some a') (sLen:=b) (sCap:=W) N (L w rfl) Z (w':=setObj w l.blk (.cells ⟨splice f.toList (l.off+o+b*n) u⟩ J fz))
              (by simp only;rw[m (by omega),eK];simpa using o3) ty
            have o4:(splice f.toList (l.off+o+b*n) u).length=f.size:=by rw[aZ _ _ _ (by simp;omega)];simp
            refine⟨_,_,_,p,Step.grow (l':=⟨l.blk,l.off+o,n,l.size⟩) r d3 hg rfl rfl hl rfl ?_,?_⟩
            ·refine BR.mk_cells (ds:=splice f.toList (l.off+o+b*n) u) (bJ (BR.lt (r.br _ _ _ hg hl))) (by simp only;omega) (by simp;omega) ?_ ?_ (fun _=>m3) (fun _ e=>by simpa using e)
             ·have e:((splice f.toList (l.off+o+b*n) u).drop (l.off+o)).take ((B.drop o++G).length)=(f.toList.drop (l.off+o)).take (b*n)++u:=by
                apply mT;intro p4;have k4:(B.drop o++G).length=b*n+u.length:=by simp;omega
                rw[k4,sK];by_cases hi:p4<b*n+u.length
                ·rw[kM hi,sL,dK _ _ _ (by simp;omega)];by_cases h8:p4<b*n
                 ·rw[kM (by omega),pJ (by simp;omega),sK,kM h8,sL]
                 ·rw[kL (by omega),kM (by omega),pK (by simp;omega)];congr 1;simp;omega
                ·rw[kL hi,List.getElem?_eq_none];simp;omega
              rw[e];have U:=Y f3;rw[←x3]at U;exact(U.append E).mono (Mu.le_set d3)
             ·intro t3 m;simp only[mP]at m;rcases m with m|m
              ·exact h5 t3 (mX m)
              ·exact K t3 m
            ·refine .slice (l:=⟨l.blk,l.off+o,n,l.size⟩) (Mu.set_same _ _ _) ?_ (by omega) (fun e4=>m e4);unfold fL;rw[kL (by omega)];simp only;exact⟨by omega,by omega⟩
           ·have hk:=Step.kill r id _ l hg hl;obtain⟨cv,C,R,e1,e2,e3⟩:=a3 (by omega) (h.kill id) hk.rh (by simpa using d3);rw[←x3]at e2;exact⟨cv,C,R,e1,hk.trans e2,e3⟩
      ·rename_i B hg;obtain⟨f,J,fz,h1,h2,h3,h4,h5,_,_⟩:=r.cells hg hl;obtain⟨hc,g⟩:=aB g;simp only[kP,kW]at g;obtain⟨rfl,rfl⟩:=g;simp only[pA,ble_iff,beq_iff,blt_iff]at hc;obtain⟨⟨⟨⟨k3,f4⟩,l3⟩,S⟩,z3⟩:=hc;unfold fL at q;rw[kM S]at q;have X:∀(C:kE),C.heap=w.heap→(Builtin.firstCells n b (.slice (some a') b W)).run P C=.ok ⟨(f.toList.drop (l.off+o)).take (b*n)⟩ C:=by
         intro C p3;by_cases n3:b=0
         ·subst n3;simp[Builtin.firstCells,loadCells,loadCellsFrom]
         ·simp only[Builtin.firstCells,m (by omega)];exact nN P C l.blk (l.off+o) f J fz (by rw[p3];exact h1) (b*n) (by omega)
       have U:LR μ ((B.drop o).take (b*n)) ((f.toList.drop (l.off+o)).take (b*n)):=by
         have r1:=(h4.drop o).take (b*n);rw[List.drop_take,sG,List.take_take,dU (by omega)]at r1;exact r1
       obtain⟨s,y,hq,V,p⟩:=eN P (base:=some a') (sLen:=b) (sCap:=W) hu hn hb hz s3 q3 Q hd j3 N X L (by omega) k3 ty;have O:((f.toList.drop (l.off+o)).take (b*n)).length=b*n:=by simp;omega
       have I:((B.drop o).take (b*n)).length=b*n:=by simp;omega
       have a4:b*n+u.length+y.length=s*n:=by
         rw[b3,V,←Nat.add_mul,←Nat.add_mul,Nat.add_sub_cancel' hq]
       refine⟨_,_,_,p,Step.new_cells (es:=n) (cs:=(B.drop o).take (b*n)++G) (ds:=(f.toList.drop (l.off+o)).take (b*n)++u++y) r (hf _ (kQ _) (by simp)) rfl rfl rfl rfl ?_ ?_ ?_,?_⟩
       ·simp only[kX,O,I];omega
       ·have e:((B.drop o).take (b*n)++G).length=((f.toList.drop (l.off+o)).take (b*n)++u).length:=by
          simp only[kX,O,I,E.1]
        rw[e,List.take_append_of_le_length (kQ _),List.take_length];exact U.append E
       ·intro t3 m;simp only[mP]at m;rcases m with m|m
        ·exact h5 t3 (mX (mU m))
        ·exact K t3 m
       ·refine .slice (Mu.set_same _ _ _) ?_ (by omega) (fun _=>rfl);unfold fL;rw[kL (by omega)];simp only[kX,O];exact⟨by omega,by omega⟩
      ·simp at g
   ·simp at g
end
end Go.AM
