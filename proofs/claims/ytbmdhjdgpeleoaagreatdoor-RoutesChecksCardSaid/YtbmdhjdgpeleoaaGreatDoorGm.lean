import Derived.Test.YtbmdhjdgpeleoaaGreatDoorGd
import Derived.Test.YtbmdhjdgpeleoaaGreatDoorGl
import Derived.IntWalk
set_option linter.defProp false
namespace Go.AM
open Go
variable {h j:H}{n:Nat}{S:Nat→Prop}{v:kA}{E:kC (kC kA)}{a vs:kC kA}{fs:kH Field}
structure Ext (h h':H):Prop where
  next:h.next≤h'.next
  get:∀id,id<h.next→h'.get id=h.get id
def Ext.refl (h:H):Ext h h:=⟨kQ _,fun _ _=>rfl⟩
def Ext.trans {a b c:H}(x:Ext a b)(y:Ext b c):Ext a c:=
  ⟨kR x.next y.next,fun id h=>(y.get id (kT h x.next)).trans (x.get id h)⟩
def Ext.push (h:H)(b:Blk):Ext h (h.push b):=⟨sF _,fun id i=>by rw[H.get_push,kL (by omega)]⟩
def Ext.pushed {a:H}(x:Ext a h)(b:Blk):Ext a (h.push b):=x.trans (Ext.push h b)
structure ExtBut (S:Nat→Prop)(h h':H):Prop where
  next:h.next≤h'.next
  get:∀id,id<h.next→¬S id→h'.get id=h.get id
def Ext.but (x:Ext h j):ExtBut S h j:=⟨x.next,fun id i _=>x.get id i⟩
def ExtBut.trans {S:Nat→Prop}{a b c:H}(x:ExtBut S a b)(y:ExtBut S b c):ExtBut S a c:=
  ⟨kR x.next y.next,fun id h s=>(y.get id (kT h x.next) s).trans (x.get id h s)⟩
def ExtBut.put {S:Nat→Prop}{a h:H}(x:ExtBut S a h)(id:Nat)(b:Blk)(s:S id):ExtBut S a (h.put id b):=
  ⟨x.next,fun j c n=>by rw[H.get_put,kL (fun e:j=id=>n (by rw[e];exact s))];exact x.get j c n⟩
def Ext.put {a h:H}(x:Ext a h)(id:Nat)(b:Blk)(s:a.next≤id):Ext a (h.put id b):=
  ⟨x.next,fun j c=>by rw[H.get_put,kL (by omega)];exact x.get j c⟩
section
variable {β:Type}
@[simp] theorem qK (n id o:Nat):A.load false n (.pointer (some ⟨id,o,none⟩)) h=(match h.get id with|some (.cells cs _)=>cs[o]?|_=>none):=(rfl)
@[simp] theorem aI (n id o:Nat):A.load true n (.pointer (some ⟨id,o,none⟩)) h=
    (match h.get id with|some (.cells cs _)=>(bif Nat.ble (o+n) cs.length then some (.agg ⟨(cs.drop o).take n⟩)else none)|_=>none):=(rfl)
@[simp] theorem qU (n id o:Nat)(v:kA):A.store n (.pointer (some ⟨id,o,none⟩)) v h=
    (match h.get id,aN v with
     |some (.cells cs (some es)),some vs=>bif Nat.beq vs.length n&&Nat.ble (o+n) cs.length then some (h.put id (.cells (splice cs o vs) (some es)))else none
     |_,_=>none):=(rfl)
@[simp] theorem aNn (n:Nat)(v:kA):A.box n v h=
    (match aN v with|some s=>(bif Nat.beq s.length n then some (.pointer (some ⟨h.next,0,none⟩),h.push (.cells s (some 0)))else none)|none=>none):=(rfl)
@[simp] theorem aLq (k:IntKind)(n:Int):aN (.int k n)=some [.int k n]:=(rfl)
@[simp] theorem bAm (b:Bool):aN (.bool b)=some [.bool b]:=(rfl)
@[simp] theorem aVa (b:ByteArray):aN (.string b)=some [.string b]:=(rfl)
@[simp] theorem aRk (a:kB Addr):aN (.pointer a)=some [.pointer a]:=(rfl)
@[simp] theorem aYz (a:kB Addr)(n c:Nat):aN (.slice a n c)=some [.slice a n c]:=(rfl)
@[simp] theorem bEm (a:kB Nat):aN (.map a)=some [.map a]:=(rfl)
@[simp] theorem uW (l:kC kA):aN (.agg ⟨l⟩)=some l:=(rfl)
@[simp] theorem aHj (f:Fn)(a b:kH kA):aN (.func f a b)=some [.func f a b]:=(rfl)
@[simp] theorem qY (k id o:Nat):A.zA k (.pointer (some ⟨id,o,none⟩))=some (.pointer (some ⟨id,o+k,none⟩)):=(rfl)
@[simp] theorem qV (a:Addr):A.zR (.pointer (some a))=some (.pointer (some a)):=(rfl)
@[simp] theorem cEd (a:kB Addr)(n c:Nat):A.zE (.slice a n c)=some (.int .i64 n):=(rfl)
@[simp] theorem bNs (s:ByteArray):A.zH (.string s)=some (.int .i64 s.size):=(rfl)
theorem aUg (k:IntKind):(k==k)=true:=by cases k<;>rfl
def gS (P:kD)(o:BinOp)(t:kF)(k:IntKind)(x y:Int)(a:o≠.shl)(b:o≠.shr):A.z P o t (.int k x) (.int k y)=A.binI o k x y:=by
  have c:=aUg k;simp only[A.z];cases o<;>simp_all
section
variable (P:kD)(t:kF)(k:IntKind)(x y:Int)
@[simp] theorem zZ:A.z P .lss t (.int k x) (.int k y)=some (.bool (decide (x<y))):=gS P .lss t k x y (by simp) (by simp)
@[simp] theorem cG:A.z P .leq t (.int k x) (.int k y)=some (.bool (decide (x≤y))):=gS P .leq t k x y (by simp) (by simp)
@[simp] theorem zY:A.z P .gtr t (.int k x) (.int k y)=some (.bool (decide (y<x))):=gS P .gtr t k x y (by simp) (by simp)
@[simp] theorem bF:A.z P .geq t (.int k x) (.int k y)=some (.bool (decide (y≤x))):=gS P .geq t k x y (by simp) (by simp)
@[simp] theorem zQ:A.z P .eql t (.int k x) (.int k y)=some (.bool (decide (x=y))):=gS P .eql t k x y (by simp) (by simp)
@[simp] theorem bA:A.z P .neq t (.int k x) (.int k y)=some (.bool (!decide (x=y))):=gS P .neq t k x y (by simp) (by simp)
@[simp] theorem bC:A.z P .add t (.int k x) (.int k y)=some (.int k (k.wrap (x+y))):=gS P .add t k x y (by simp) (by simp)
@[simp] theorem lC:A.z P .sub t (.int k x) (.int k y)=some (.int k (k.wrap (x-y))):=gS P .sub t k x y (by simp) (by simp)
@[simp] theorem bAh:A.z P .mul t (.int k x) (.int k y)=some (.int k (k.wrap (x*y))):=gS P .mul t k x y (by simp) (by simp)
end
@[simp] theorem aHo (P:kD)(t:kF)(a b:ByteArray):A.z P .eql t (.string a) (.string b)=some (.bool (decide (a=b))):=by
  show some (Value.bool (a.data.toList==b.data.toList))=_;congr 2;by_cases c:a=b
  ·subst c;simp
  ·simp only[c,decide_false,mY,ne_eq];exact fun e=>c (jV e)
@[simp] theorem aHn (P:kD)(t:kF)(a b:ByteArray):A.z P .neq t (.string a) (.string b)=some (.bool (!decide (a=b))):=by
  show some (Value.bool (!(a.data.toList==b.data.toList)))=_;congr 3;by_cases c:a=b
  ·subst c;simp
  ·simp only[c,decide_false,mY,ne_eq];exact fun e=>c (jV e)
def xN {P:kD}{t e:kF}(u:P.underlying t=some (.pointer e))(a:Addr):A.z P .eql t (.pointer (some a)) (.pointer none)=some (.bool false):=by
  simp[A.z,A.yO,aJ,A.yI,u]
@[simp] theorem cKu (P:kD)(b:Bool):A.un P .not (.bool b)=some (.bool (!b)):=(rfl)
@[simp] theorem qQ (b:Bool)(k:Bool→kB β):aF (.bool b) k=k b:=(rfl)
@[simp] theorem qW (b:Bool)(x y:kB β):aP (.bool b) x y=bif b then x else y:=(rfl)
theorem lW (s id o l c i:Nat)(k:IntKind)(a:i<l):A.zB s (.slice (some ⟨id,o,none⟩) l c) (.int k (i:Int))=some (.pointer (some ⟨id,o+i*s,none⟩)):=by
  show(bif Nat.blt i l then _ else none)=_
  rw[blt_iff.2 a];rfl
@[simp] theorem cEf (a b:Nat):Nat.ble a b=decide (a≤b):=by rw[mR];simp
@[simp] theorem cEe (a b:Nat):Nat.blt a b=decide (a<b):=by rw[mR];simp[Nat.blt];omega
@[simp] theorem bUl (a b:Nat):Nat.beq a b=decide (a=b):=T.beq_dec a b
@[simp] theorem bUk {Y:Type}(p:Prop)[Decidable p](x y:Y):(bif decide p then x else y)=if p then x else y:=by
  by_cases a:p<;>simp[a]
def aQ (h:n+1<2^63):IntKind.i64.wrap ((n:Int)+1)=((n+1:Nat):Int):=by rw[IntWalk.i64_in _ ⟨by omega,by omega⟩];omega
def gX {x:Int}(a: -9223372036854775808≤x)(b:x<9223372036854775808):IntKind.i64.wrap x=x:=IntWalk.i64_in x ⟨a,by omega⟩
end
@[simp] theorem aKu (h:H)(b:Blk):(h.push b).next=h.next+1:=(rfl)
@[simp] theorem bNq (h:H)(i:Nat)(b:Blk):(h.put i b).next=h.next:=(rfl)
@[simp] theorem aKv (h:H)(i:Nat):(h.kill i).next=h.next:=(rfl)
def SliceE (n:Nat)(h:H)(v:kA)(l:kC (kC kA)):Prop:=
  (∀e∈l,e.length=n)∧
  ((v=.slice none 0 0∧l=[])∨
   ∃id o c,v=.slice (some ⟨id,o,none⟩) l.length c∧l.length≤c / 2∧id<h.next∧
     (l≠[]→∃cells own,h.get id=some (.cells cells own)∧o+l.length*n≤cells.length∧(cells.drop o).take (l.length*n)=l.flatten))
def SliceE.ext (s:SliceE n h v E)(x:Ext h j):SliceE n j v E:=by
  refine⟨s.1,?_⟩;rcases s.2 with l|⟨id,o,c,b,d,i,h3⟩
  ·exact .inl l
  ·refine .inr ⟨id,o,c,b,d,kT i x.next,fun a=>?_⟩;obtain⟨cells,own,g,e,f⟩:=h3 a;exact⟨cells,own,by rw[x.get _ i];exact g,e,f⟩
def SliceE.len (s:SliceE n h v E):A.zE v=some (.int .i64 E.length)∧A.zG v=E.length:=by
  rcases s.2 with⟨rfl,rfl⟩|⟨id,off,c,rfl,_⟩<;>exact⟨rfl,rfl⟩
def SliceE.elems {n:Nat}{h:H}{v:kA}{E:kC (kC kA)}(s:SliceE n h v E):A.elems n v h=some E.flatten:=by
  rcases s.2 with⟨rfl,rfl⟩|⟨id,off,c,rfl,_,_,h3⟩
  ·rfl
  ·cases E with
   |nil=>rfl
   |cons e E=>
     obtain⟨cells,own,g,b,d⟩:=h3 (by simp);simp only[A.elems,kY,g];have:Nat.beq (E.length+1) 0=false:=rfl;rw[this];have a:Nat.ble (off+(E.length+1)*n) cells.length=true:=ble_iff.2 (by simpa using b);simp only[sW,a,sV];simpa using d
def sid:kA→kB Nat
  | .slice (some a) _ _=>some a.block
  |_=>none
def SliceE.extBut (s:SliceE n h v E)(x:ExtBut S h j)(m:∀i,sid v=some i→¬S i):SliceE n j v E:=by
  refine⟨s.1,?_⟩;rcases s.2 with p|⟨id,o,c,b,e,d,h3⟩
  ·exact .inl p
  ·refine .inr ⟨id,o,c,b,e,kT d x.next,fun a=>?_⟩;obtain⟨cells,own,l,f,g⟩:=h3 a;exact⟨cells,own,by rw[x.get _ d (m id (by rw[b];rfl))];exact l,f,g⟩
def SliceE.sid_lt (s:SliceE n h v E):∀i,sid v=some i→i<h.next:=by
  intro i a;rcases s.2 with⟨rfl,rfl⟩|⟨id,off,c,rfl,_,hid,_⟩
  ·simp[sid]at a
  ·simp[sid]at a;omega
def nZ (o:n<a.length):splice a n [v]=a.set n v:=by
  rw[splice,List.set_eq_take_append_cons_drop,kM o];simp
def SliceE.at {n:Nat}{h:H}{v:kA}{els:kC (kC kA)}(s:SliceE n h v els){i:Nat}{e:kC kA}(f:els[i]?=some e)(k:IntKind):
    ∃id o cells own,A.zB n v (.int k (i:Int))=some (.pointer (some ⟨id,o,none⟩))∧id<h.next∧h.get id=some (.cells cells own)∧o+n≤cells.length∧
      (cells.drop o).take n=e∧(∀j,j<n→cells[o+j]?=e[j]?):=by
  have b:i<els.length:=(pX.1 f).1;rcases s.2 with⟨rfl,rfl⟩|⟨id,o,c,rfl,_,hid,h3⟩
  ·simp at b
  ·obtain⟨cells,own,m,p,g⟩:=h3 (fun e=>by subst e;simp at b);have hle:(i+1)*n≤els.length*n:=Nat.mul_le_mul_right n b;rw[Nat.succ_mul]at hle;have a:∀j,j<n→cells[o+i*n+j]?=e[j]?:=by
     intro j d;have:((cells.drop o).take (els.length*n))[i*n+j]?=els.flatten[i*n+j]?:=by rw[g]
     rw[sK,kM (by omega),sL,qH s.1 i j d,f]at this;rw[Nat.add_assoc];exact this
   refine⟨id,o+i*n,cells,own,lW n id o _ c i k b,hid,m,by omega,?_,a⟩;have l:e.length=n:=s.1 e (sY f);apply mT;intro j;rw[sK];split
   ·rename_i d;rw[sL];exact a j d
   ·rename_i d;rw[mS.2 (by omega)]
def Vec (n:Nat)(h:H)(v:kA)(es:kC (kC kA)):Prop:=
  (∀e∈es,e.length=n)∧((v=.slice none 0 0∧es=[])∨
    ∃q,v=.slice (some ⟨q,0,none⟩) es.length (2*es.length)∧q<h.next∧h.get q=some (.cells es.flatten (some n)))
def Vec.nil (n:Nat)(h:H):Vec n h (.slice none 0 0) []:=⟨by simp,.inl ⟨rfl,rfl⟩⟩
def Vec.slice {n:Nat}{h:H}{v:kA}{es:kC (kC kA)}(x:Vec n h v es):SliceE n h v es:=by
  refine⟨x.1,?_⟩;rcases x.2 with a|⟨q,a,b,g⟩
  ·exact .inl a
  ·have f:=cF x.1;exact .inr ⟨q,0,_,a,by omega,b,fun _=>⟨_,_,g,by omega,by rw[mI,sA (by omega)]⟩⟩
def Vec.extBut (x:Vec n h v E)(e:ExtBut S h j)(s:∀i,sid v=some i→¬S i):Vec n j v E:=by
  refine⟨x.1,?_⟩;rcases x.2 with a|⟨q,a,b,g⟩
  ·exact .inl a
  ·exact .inr ⟨q,a,kT b e.next,by rw[e.get q b (s q (by rw[a];rfl))];exact g⟩
def Vec.ext (x:Vec n h v E)(e:Ext h j):Vec n j v E:=
  x.extBut (S:=fun _=>False) e.but (by simp)
def iH {bs:Nat}{x:kA}{es:kC (kC kA)}(o:Vec n h v es)(s:SliceE n h x E)(m:E≠[])(D:0<n)(f:(es.length+E.length)*bs≤2^47)(j:es.length+E.length≤2^47):
    ∃d,A.zF n bs v x h=some (.slice (some ⟨h.next,0,none⟩) (es.length+E.length) (2*(es.length+E.length)),d)∧
      Vec n d (.slice (some ⟨h.next,0,none⟩) (es.length+E.length) (2*(es.length+E.length))) (es++E)∧d.next=h.next+1∧ExtBut (fun i=>sid v=some i) h d:=by
  obtain⟨_,l⟩:=s.len;have c:=s.elems;have r:0<E.length:=List.length_pos_iff.2 m;have g:es.flatten.length=es.length*n:=cF o.1;have p:Nat.beq E.length 0=false:=by rw[T.beq_dec];simp;omega
  have a:∀e∈es++E,e.length=n:=fun e b=>by
    rcases mP.1 b with b|b
    ·exact o.1 e b
    ·exact s.1 e b
  rcases o.2 with⟨rfl,rfl⟩|⟨q,rfl,hq,hg⟩
  ·refine⟨h.push (.cells E.flatten (some n)),?_,⟨a,.inr ⟨h.next,by simp,by simp,by simp[H.get_push]⟩⟩,rfl,(Ext.push _ _).but⟩;simp only[sN,sR]at f j⊢;simp only[A.zF,c,l,p];simp[f,j]
  ·refine⟨(h.kill q).push (.cells (es.flatten++E.flatten) (some n)),?_,⟨a,.inr ⟨h.next,by simp,by simp,by simp[H.get_push]⟩⟩,rfl,⟨by simp,fun id w z=>?_⟩⟩
   ·simp only[A.zF,c,l,p,hg];have B:¬(es.length+E.length≤2*es.length / 2):=by omega
    have u:2*es.length%2=0:=by omega
    simp[u,f,j,g];intro C;omega
   ·rw[H.get_push,H.get_kill,aKv,kL (by omega),kL (fun e=>z (by rw[e];rfl))]
def Ext.grow {g:H}(x:Ext j h)(y:ExtBut (fun i=>sid v=some i) h g)(s:∀i,sid v=some i→j.next≤i):Ext j g:=
  ⟨kR x.next y.next,fun id a=>by rw[y.get id (kT a x.next) (fun e=>by have:=s id e;omega)];exact x.get id a⟩
def aX {zs:kC kA}(h:H)(z:zs.length=n)(c:aN v=some vs)(b:vs.length=n):
    A.zC n 1 zs [(0,n,v)] h=some (.slice (some ⟨h.next,0,none⟩) 1 3,h.push (.cells vs (some n))):=by
  have a:splice zs 0 vs=vs:=by
    simp only[splice,rG,dF,sR];rw[pZ (by omega),dD]
  simp[A.zC,A.yG,c,b,a,A.zeros,z]
def fQ (v:vs.length=n):SliceE n (h.push (.cells vs (some n))) (.slice (some ⟨h.next,0,none⟩) 1 3) [vs]:=by
  refine⟨by simpa using v,.inr ⟨h.next,0,3,rfl,by simp,by simp,fun _=>⟨vs,some n,by simp[H.get_push],by simp[v],?_⟩⟩⟩;simp;rw[sA (by omega)]
@[simp] theorem bEk (a:kB Addr)(n c:Nat)(d:∀b,a=some b→b.spot=none):same (.slice a n c) (.slice a n c)=true:=by
  cases a with
  |none=>simp[same]
  |some b=>
    obtain⟨x,y,z⟩:=b;have:=d _ rfl;simp only at this;subst this;simp[same]
def SliceE.same {n:Nat}{h:H}{v:kA}{E:kC (kC kA)}(s:SliceE n h v E):AM.same v v=true:=by
  rcases s.2 with⟨rfl,rfl⟩|⟨id,off,c,rfl,_⟩
  ·simp[AM.same]
  ·simp[AM.same]
def SliceE.cells (s:SliceE n h v E):aN v=some [v]:=by
  rcases s.2 with⟨rfl,rfl⟩|⟨id,off,c,rfl,_⟩<;>rfl
section
variable {P:kD}{t:kF}{Z:kC kA}
def Ty.int_inv {k:IntKind}(c:Ty P h t Z)(a:P.underlying t=some (.int k)):∃n,Z=[.int k n]∧(Lit.int k n).wf=true:=by
  cases c with
  |int d n u w=>rw[a]at u;simp at u;subst u;exact⟨n,rfl,w⟩
  |bool b u=>rw[a]at u;simp at u
  |str s u=>rw[a]at u;simp at u
  |sliceNil u=>rw[a]at u;simp at u
  |slice id l e u=>rw[a]at u;simp at u
  |struct p u=>rw[a]at u;simp at u
def Ty.bool_inv (c:Ty P h t Z)(a:P.underlying t=some .bool):∃b,Z=[.bool b]:=by
  cases c with
  |int d n u w=>rw[a]at u;simp at u
  |bool b u=>exact⟨b,rfl⟩
  |str s u=>rw[a]at u;simp at u
  |sliceNil u=>rw[a]at u;simp at u
  |slice id l e u=>rw[a]at u;simp at u
  |struct p u=>rw[a]at u;simp at u
def Ty.str_inv (d:Ty P h t Z)(a:P.underlying t=some .string):∃s,Z=[.string s]∧s.size≤maxLen:=by
  cases d with
  |int f n u w=>rw[a]at u;simp at u
  |bool b u=>rw[a]at u;simp at u
  |str s u c=>exact⟨s,rfl,c⟩
  |sliceNil u=>rw[a]at u;simp at u
  |slice id l e u=>rw[a]at u;simp at u
  |struct p u=>rw[a]at u;simp at u
def Ty.slice_inv {e:kF}(C:Ty P h t Z)(j:P.underlying t=some (.slice e)):
    ∃v l,Z=[v]∧SliceE (P.cellsOf e) h v l∧l.length≤maxLen∧∀x∈l,Ty P h e x:=by
  cases C with
  |int E n u D=>rw[j]at u;simp at u
  |bool b u=>rw[j]at u;simp at u
  |str s u i=>rw[j]at u;simp at u
  |sliceNil u=>exact⟨_,[],rfl,⟨by simp,.inl ⟨rfl,rfl⟩⟩,by simp,by simp⟩
  |slice id c l u r w q m i o=>
    rw[j]at u;simp at u;subst u;have a:(l.take c).length=c:=by simp;omega
    refine⟨_,l.take c,rfl,⟨fun x f=>i x (mU f),.inr ⟨id,0,_,by rw[a],by rw[a];omega,q,fun g=>?_⟩⟩,by rw[a];omega,fun x f=>o x (mU f)⟩;have d:l≠[]:=fun e=>g (by simp[e]);refine⟨l.flatten,none,m d,?_,?_⟩
    ·rw[a,cF i];have:=Nat.mul_le_mul_right (P.cellsOf e) r;omega
    ·rw[a,mI];clear g d m w o q a
     induction l generalizing c with
     |nil=>simp
     |cons x l B=>
       cases c with
       |zero=>simp
       |succ c=>
         have f:x.length=P.cellsOf e:=i x (by simp);simp only[List.flatten_cons,List.take_succ_cons];rw[Nat.succ_mul,List.take_append,f,sA (by rw[f];omega),show c*P.cellsOf e+P.cellsOf e-P.cellsOf e=c*P.cellsOf e by omega];rw[B c (by simpa using r) (fun y z=>i y (by simp[z]))]
  |struct p u=>rw[j]at u;simp at u
def Ty.struct_inv (m:Ty P h t Z)(c:P.underlying t=some (.struct fs)):
    ∃a:kC (kC kA),Z=a.flatten∧a.length=fs.size∧∀(i:Nat) (f:Field) (p:kC kA),fs[i]?=some f→a[i]?=some p→Ty P h f.type p:=by
  cases m with
  |int o n u w=>rw[c]at u;simp at u
  |bool b u=>rw[c]at u;simp at u
  |str s u j=>rw[c]at u;simp at u
  |sliceNil u=>rw[c]at u;simp at u
  |slice id l e u=>rw[c]at u;simp at u
  |struct a u g j d=>rw[c]at u;simp at u;subst u;exact⟨a,rfl,g,d⟩
def aRb (P:kD)(h:H):kC Field→kC kA→Prop
  |[],Z=>Z=[]
  |f::fs,Z=>∃p r,Z=p++r∧Ty P h f.type p∧aRb P h fs r
def Ty.fields (r:Ty P h t Z)(u:P.underlying t=some (.struct fs)):aRb P h fs.toList Z:=by
  obtain⟨b,rfl,a,c⟩:=r.struct_inv u;have e:∀(l:kC Field) (s:kC (kC kA)),s.length=l.length→(∀(i:Nat) (f:Field) (p:kC kA),l[i]?=some f→s[i]?=some p→Ty P h f.type p)→aRb P h l s.flatten:=by
    intro l
    induction l with
    |nil=>intro s a _;have:s=[]:=pY.1 a;subst this;rfl
    |cons f l o=>
      intro s a c
      match s,a with
      |p::s,a=>
        exact⟨p,s.flatten,rfl,c 0 f p rfl rfl,o s (by simpa using a) fun i g q m n=>c (i+1) g q (by simpa using m) (by simpa using n)⟩
  exact e fs.toList b (by simpa using a) fun i f p j d=>c i f p (by simpa using j) d
end
end Go.AM
