import Derived.Test.YtpanfoafajepcaaGreatDoorGe
import Derived.Test.YtpanfoafajepcaaGreatDoorGl
import Derived.IntWalk
namespace Go.AM
open Go
structure Ext (h h':H):Prop where
  next:h.next≤h'.next
  get:∀id,id<h.next→h'.get id=h.get id
theorem Ext.refl (h:H):Ext h h:=⟨kF _,fun _ _=>rfl⟩
theorem Ext.trans {a b c:H}(x:Ext a b)(y:Ext b c):Ext a c:=
  ⟨kG x.next y.next,fun id hi=>(y.get id (kH hi x.next)).trans (x.get id hi)⟩
theorem Ext.push (h:H)(b:Blk):Ext h (h.push b):=⟨pS _,fun id hi=>by rw[H.get_push,kA (by omega)]⟩
theorem Ext.pushed {a h:H}(x:Ext a h)(b:Blk):Ext a (h.push b):=x.trans (Ext.push h b)
structure ExtBut (S:Nat→Prop)(h h':H):Prop where
  next:h.next≤h'.next
  get:∀id,id<h.next→¬S id→h'.get id=h.get id
theorem Ext.but {S:Nat→Prop}{h h':H}(x:Ext h h'):ExtBut S h h':=⟨x.next,fun id hi _=>x.get id hi⟩
theorem ExtBut.trans {S:Nat→Prop}{a b c:H}(x:ExtBut S a b)(y:ExtBut S b c):ExtBut S a c:=
  ⟨kG x.next y.next,fun id hi hs=>(y.get id (kH hi x.next) hs).trans (x.get id hi hs)⟩
theorem ExtBut.put {S:Nat→Prop}{a h:H}(x:ExtBut S a h)(id:Nat)(b:Blk)(hs:S id):ExtBut S a (h.put id b):=
  ⟨x.next,fun j hj hn=>by rw[H.get_put,kA (fun e:j=id=>hn (by rw[e];exact hs))];exact x.get j hj hn⟩
theorem Ext.put {a h:H}(x:Ext a h)(id:Nat)(b:Blk)(hs:a.next≤id):Ext a (h.put id b):=
  ⟨x.next,fun j hj=>by rw[H.get_put,kA (by omega)];exact x.get j hj⟩
theorem Ext.kill {a h:H}(x:Ext a h)(id:Nat)(hs:a.next≤id):Ext a (h.kill id):=
  ⟨x.next,fun j hj=>by rw[H.get_kill,kA (by omega)];exact x.get j hj⟩
section
variable {h:H}{β:Type}
@[simp] theorem qK (n id off:Nat):A.load false n (.pointer (some ⟨id,off,none⟩)) h=(match h.get id with|some (.cells cs _)=>cs[off]?|_=>none):=(rfl)
@[simp] theorem aV (n id off:Nat):A.load true n (.pointer (some ⟨id,off,none⟩)) h=
    (match h.get id with|some (.cells cs _)=>(bif Nat.ble (off+n) cs.length then some (.agg ⟨(cs.drop off).take n⟩)else none)|_=>none):=(rfl)
@[simp] theorem qU (n id off:Nat)(v:Value):A.store n (.pointer (some ⟨id,off,none⟩)) v h=
    (match h.get id,aN v with
     |some (.cells cs (some es)),some vs=>bif Nat.beq vs.length n&&Nat.ble (off+n) cs.length then some (h.put id (.cells (splice cs off vs) (some es)))else none
     |_,_=>none):=(rfl)
@[simp] theorem aIg (n:Nat)(v:Value):A.box n v h=
    (match aN v with|some vs=>(bif Nat.beq vs.length n then some (.pointer (some ⟨h.next,0,none⟩),h.push (.cells vs (some 0)))else none)|none=>none):=(rfl)
@[simp] theorem aBw (k:IntKind)(n:Int):aN (.int k n)=some [.int k n]:=(rfl)
@[simp] theorem aLo (b:Bool):aN (.bool b)=some [.bool b]:=(rfl)
@[simp] theorem aHx (b:ByteArray):aN (.string b)=some [.string b]:=(rfl)
@[simp] theorem aFk (a:Option Addr):aN (.pointer a)=some [.pointer a]:=(rfl)
@[simp] theorem aKf (a:Option Addr)(n c:Nat):aN (.slice a n c)=some [.slice a n c]:=(rfl)
@[simp] theorem aOa (a:Option Nat):aN (.map a)=some [.map a]:=(rfl)
@[simp] theorem aBx (l:List Value):aN (.agg ⟨l⟩)=some l:=(rfl)
@[simp] theorem xF (f:Fn)(a b:Array Value):aN (.func f a b)=some [.func f a b]:=(rfl)
@[simp] theorem qY (k id off:Nat):A.u k (.pointer (some ⟨id,off,none⟩))=some (.pointer (some ⟨id,off+k,none⟩)):=(rfl)
@[simp] theorem qV (a:Addr):A.z (.pointer (some a))=some (.pointer (some a)):=(rfl)
@[simp] theorem bGc (a:Option Addr)(n c:Nat):A.zH (.slice a n c)=some (.int .i64 n):=(rfl)
@[simp] theorem aTm (s:ByteArray):A.zG (.string s)=some (.int .i64 s.size):=(rfl)
theorem aHi (k:IntKind):(k==k)=true:=by cases k<;>rfl
theorem dM (P:Program)(op:BinOp)(t:TypeId)(k:IntKind)(x y:Int)(h1:op≠.shl)(h2:op≠.shr):A.zA P op t (.int k x) (.int k y)=A.binI op k x y:=by
  have hk:=aHi k;simp only[A.zA];cases op<;>simp_all
section
variable (P:Program)(t:TypeId)(k:IntKind)(x y:Int)
@[simp] theorem zZ:A.zA P .lss t (.int k x) (.int k y)=some (.bool (decide (x<y))):=dM P .lss t k x y (by simp) (by simp)
@[simp] theorem dL:A.zA P .leq t (.int k x) (.int k y)=some (.bool (decide (x≤y))):=dM P .leq t k x y (by simp) (by simp)
@[simp] theorem zY:A.zA P .gtr t (.int k x) (.int k y)=some (.bool (decide (y<x))):=dM P .gtr t k x y (by simp) (by simp)
@[simp] theorem gD:A.zA P .geq t (.int k x) (.int k y)=some (.bool (decide (y≤x))):=dM P .geq t k x y (by simp) (by simp)
@[simp] theorem zQ:A.zA P .eql t (.int k x) (.int k y)=some (.bool (decide (x=y))):=dM P .eql t k x y (by simp) (by simp)
@[simp] theorem bP:A.zA P .neq t (.int k x) (.int k y)=some (.bool (!decide (x=y))):=dM P .neq t k x y (by simp) (by simp)
@[simp] theorem bG:A.zA P .add t (.int k x) (.int k y)=some (.int k (k.wrap (x+y))):=dM P .add t k x y (by simp) (by simp)
@[simp] theorem nG:A.zA P .sub t (.int k x) (.int k y)=some (.int k (k.wrap (x-y))):=dM P .sub t k x y (by simp) (by simp)
@[simp] theorem bGf:A.zA P .mul t (.int k x) (.int k y)=some (.int k (k.wrap (x*y))):=dM P .mul t k x y (by simp) (by simp)
theorem aLk (hy:y≠0):A.zA P .rem t (.int k x) (.int k y)=some (.int k (x.tmod y)):=by
  rw[dM P .rem t k x y (by simp) (by simp)];have:(y==0)=false:=by simpa using hy
  simp[A.binI,this]
end
@[simp] theorem xK (P:Program)(t:TypeId)(a b:ByteArray):A.zA P .eql t (.string a) (.string b)=some (.bool (decide (a=b))):=by
  show some (Value.bool (a.data.toList==b.data.toList))=_;congr 2;by_cases hab:a=b
  ·subst hab;simp
  ·simp only[hab,decide_false,beq_eq_false_iff_ne,ne_eq];exact fun e=>hab (fK e)
@[simp] theorem xJ (P:Program)(t:TypeId)(a b:ByteArray):A.zA P .neq t (.string a) (.string b)=some (.bool (!decide (a=b))):=by
  show some (Value.bool (!(a.data.toList==b.data.toList)))=_;congr 3;by_cases hab:a=b
  ·subst hab;simp
  ·simp only[hab,decide_false,beq_eq_false_iff_ne,ne_eq];exact fun e=>hab (fK e)
theorem vA {P:Program}{t:TypeId}(hu:P.underlying t=some .bool)(a b:Bool):A.zA P .neq t (.bool a) (.bool b)=some (.bool (!decide (a=b))):=by
  have:(a==b)=decide (a=b):=by cases a<;>cases b<;>rfl
  simp[A.zA,hu,this]
theorem oQ {P:Program}{t e:TypeId}(hu:P.underlying t=some (.pointer e))(a:Addr):A.zA P .eql t (.pointer (some a)) (.pointer none)=some (.bool false):=by
  simp[A.zA,A.yP,aJ,A.yG,hu]
@[simp] theorem bKp (P:Program)(b:Bool):A.un P .not (.bool b)=some (.bool (!b)):=(rfl)
@[simp] theorem qQ (b:Bool)(k:Bool→Option β):aC (.bool b) k=k b:=(rfl)
@[simp] theorem qW (b:Bool)(x y:Option β):aW (.bool b) x y=bif b then x else y:=(rfl)
theorem rU (size id off len c i:Nat)(k:IntKind)(hi:i<len):A.zL size (.slice (some ⟨id,off,none⟩) len c) (.int k (i:Int))=some (.pointer (some ⟨id,off+i*size,none⟩)):=by
  show(bif Nat.blt i len then _ else none)=_
  rw[blt_iff.2 hi];rfl
@[simp] theorem bGe (a b:Nat):Nat.ble a b=decide (a≤b):=by rw[Bool.eq_iff_iff];simp
@[simp] theorem bGd (a b:Nat):Nat.blt a b=decide (a<b):=by rw[Bool.eq_iff_iff];simp[Nat.blt];omega
@[simp] theorem aXo (a b:Nat):Nat.beq a b=decide (a=b):=T.beq_dec a b
@[simp] theorem aXn {α:Type}(p:Prop)[Decidable p](x y:α):(bif decide p then x else y)=if p then x else y:=by
  by_cases hp:p<;>simp[hp]
theorem aS {n:Nat}(h:n+1<2^63):IntKind.i64.wrap ((n:Int)+1)=((n+1:Nat):Int):=by rw[IntWalk.i64_in _ ⟨by omega,by omega⟩];omega
theorem lT {x:Int}(h1: -9223372036854775808≤x)(h2:x<9223372036854775808):IntKind.i64.wrap x=x:=IntWalk.i64_in x ⟨h1,by omega⟩
end
@[simp] theorem rG (h:H)(b:Blk):(h.push b).next=h.next+1:=(rfl)
@[simp] theorem aTk (h:H)(i:Nat)(b:Blk):(h.put i b).next=h.next:=(rfl)
@[simp] theorem aBg (h:H)(i:Nat):(h.kill i).next=h.next:=(rfl)
def SliceE (n:Nat)(h:H)(v:Value)(els:List (List Value)):Prop:=
  (∀e∈els,e.length=n)∧
  ((v=.slice none 0 0∧els=[])∨
   ∃id off c,v=.slice (some ⟨id,off,none⟩) els.length c∧els.length≤c / 2∧id<h.next∧
     (els≠[]→∃cells own,h.get id=some (.cells cells own)∧off+els.length*n≤cells.length∧(cells.drop off).take (els.length*n)=els.flatten))
theorem SliceE.ext {n:Nat}{h h':H}{v:Value}{els:List (List Value)}(s:SliceE n h v els)(x:Ext h h'):SliceE n h' v els:=by
  refine⟨s.1,?_⟩;rcases s.2 with hs|⟨id,off,c,h1,h2,hi,h3⟩
  ·exact .inl hs
  ·refine .inr ⟨id,off,c,h1,h2,kH hi x.next,fun hne=>?_⟩;obtain⟨cells,own,hg,h4,h5⟩:=h3 hne;exact⟨cells,own,by rw[x.get _ hi];exact hg,h4,h5⟩
theorem SliceE.len {n:Nat}{h:H}{v:Value}{els:List (List Value)}(s:SliceE n h v els):A.zH v=some (.int .i64 els.length)∧A.zD v=els.length:=by
  rcases s.2 with⟨rfl,rfl⟩|⟨id,off,c,rfl,_⟩<;>exact⟨rfl,rfl⟩
theorem SliceE.elems {n:Nat}{h:H}{v:Value}{els:List (List Value)}(s:SliceE n h v els):A.elems n v h=some els.flatten:=by
  rcases s.2 with⟨rfl,rfl⟩|⟨id,off,c,rfl,_,_,h3⟩
  ·rfl
  ·cases els with
   |nil=>rfl
   |cons e els=>
     obtain⟨cells,own,hg,h4,h5⟩:=h3 (by simp);simp only[A.elems,kM,hg];have:Nat.beq (els.length+1) 0=false:=rfl;rw[this];have h4':Nat.ble (off+(els.length+1)*n) cells.length=true:=ble_iff.2 (by simpa using h4);simp only[cond_false,h4',cond_true];simpa using h5
def sid:Value→Option Nat
  | .slice (some a) _ _=>some a.block
  |_=>none
theorem SliceE.extBut {S:Nat→Prop}{n:Nat}{h h':H}{v:Value}{els:List (List Value)}(s:SliceE n h v els)(x:ExtBut S h h')(hs:∀i,sid v=some i→¬S i):SliceE n h' v els:=by
  refine⟨s.1,?_⟩;rcases s.2 with hv|⟨id,off,c,h1,h2,hi,h3⟩
  ·exact .inl hv
  ·refine .inr ⟨id,off,c,h1,h2,kH hi x.next,fun hne=>?_⟩;obtain⟨cells,own,hg,h4,h5⟩:=h3 hne;exact⟨cells,own,by rw[x.get _ hi (hs id (by rw[h1];rfl))];exact hg,h4,h5⟩
theorem SliceE.sid_lt {n:Nat}{h:H}{v:Value}{els:List (List Value)}(s:SliceE n h v els):∀i,sid v=some i→i<h.next:=by
  intro i hi;rcases s.2 with⟨rfl,rfl⟩|⟨id,off,c,rfl,_,hid,_⟩
  ·simp[sid]at hi
  ·simp[sid]at hi;omega
theorem lZ {cs:List Value}{o:Nat}{w:Value}(ho:o<cs.length):splice cs o [w]=cs.set o w:=by
  rw[splice,List.set_eq_take_append_cons_drop,kB ho];simp
theorem SliceE.at {n:Nat}{h:H}{v:Value}{els:List (List Value)}(s:SliceE n h v els){i:Nat}{e:List Value}(he:els[i]?=some e)(k:IntKind):
    ∃id off cells own,A.zL n v (.int k (i:Int))=some (.pointer (some ⟨id,off,none⟩))∧id<h.next∧h.get id=some (.cells cells own)∧off+n≤cells.length∧
      (cells.drop off).take n=e∧(∀j,j<n→cells[off+j]?=e[j]?):=by
  have hi:i<els.length:=(List.getElem?_eq_some_iff.1 he).1;rcases s.2 with⟨rfl,rfl⟩|⟨id,off,c,rfl,_,hid,h3⟩
  ·simp at hi
  ·obtain⟨cells,own,hg,h4,h5⟩:=h3 (fun e=>by subst e;simp at hi);have hle:(i+1)*n≤els.length*n:=Nat.mul_le_mul_right n hi;rw[Nat.succ_mul]at hle;have hcell:∀j,j<n→cells[off+i*n+j]?=e[j]?:=by
     intro j hj;have:((cells.drop off).take (els.length*n))[i*n+j]?=els.flatten[i*n+j]?:=by rw[h5]
     rw[pX,kB (by omega),pY,jF s.1 i j hj,he]at this;rw[Nat.add_assoc];exact this
   refine⟨id,off+i*n,cells,own,rU n id off _ c i k hi,hid,hg,by omega,?_,hcell⟩;have hel:e.length=n:=s.1 e (List.mem_of_getElem? he);apply List.ext_getElem?;intro j;rw[pX];split
   ·rename_i hj;rw[pY];exact hcell j hj
   ·rename_i hj;rw[List.getElem?_eq_none_iff.2 (by omega)]
def Vec (n:Nat)(h:H)(v:Value)(es:List (List Value)):Prop:=
  (∀e∈es,e.length=n)∧((v=.slice none 0 0∧es=[])∨
    ∃q,v=.slice (some ⟨q,0,none⟩) es.length (2*es.length)∧q<h.next∧h.get q=some (.cells es.flatten (some n)))
theorem Vec.nil (n:Nat)(h:H):Vec n h (.slice none 0 0) []:=⟨by simp,.inl ⟨rfl,rfl⟩⟩
theorem Vec.slice {n:Nat}{h:H}{v:Value}{es:List (List Value)}(x:Vec n h v es):SliceE n h v es:=by
  refine⟨x.1,?_⟩;rcases x.2 with hv|⟨q,hv,hq,hg⟩
  ·exact .inl hv
  ·have hfl:=bW x.1;exact .inr ⟨q,0,_,hv,by omega,hq,fun _=>⟨_,_,hg,by omega,by rw[List.drop_zero,pN (by omega)]⟩⟩
theorem Vec.extBut {S:Nat→Prop}{n:Nat}{h h':H}{v:Value}{es:List (List Value)}(x:Vec n h v es)(e:ExtBut S h h')(hs:∀i,sid v=some i→¬S i):Vec n h' v es:=by
  refine⟨x.1,?_⟩;rcases x.2 with hv|⟨q,hv,hq,hg⟩
  ·exact .inl hv
  ·exact .inr ⟨q,hv,kH hq e.next,by rw[e.get q hq (hs q (by rw[hv];rfl))];exact hg⟩
theorem Vec.ext {n:Nat}{h h':H}{v:Value}{es:List (List Value)}(x:Vec n h v es)(e:Ext h h'):Vec n h' v es:=
  x.extBut (S:=fun _=>False) e.but (by simp)
theorem dT {n bs:Nat}{h:H}{v x:Value}{es new:List (List Value)}(vv:Vec n h v es)(sx:SliceE n h x new)(hne:new≠[])(hn:0<n)
    (hb:(es.length+new.length)*bs≤2^47) (hl:es.length+new.length≤2^47):
    ∃h',A.zI n bs v x h=some (.slice (some ⟨h.next,0,none⟩) (es.length+new.length) (2*(es.length+new.length)),h')∧
      Vec n h' (.slice (some ⟨h.next,0,none⟩) (es.length+new.length) (2*(es.length+new.length))) (es++new)∧h'.next=h.next+1∧ExtBut (fun i=>sid v=some i) h h':=by
  obtain⟨_,hlen⟩:=sx.len;have hel:=sx.elems;have hpos:0<new.length:=List.length_pos_iff.2 hne;have hfl:es.flatten.length=es.length*n:=bW vv.1;have e0:Nat.beq new.length 0=false:=by rw[T.beq_dec];simp;omega
  have hall:∀e∈es++new,e.length=n:=fun e he=>by
    rcases List.mem_append.1 he with he|he
    ·exact vv.1 e he
    ·exact sx.1 e he
  rcases vv.2 with⟨rfl,rfl⟩|⟨q,rfl,hq,hg⟩
  ·refine⟨h.push (.cells new.flatten (some n)),?_,⟨hall,.inr ⟨h.next,by simp,by simp,by simp[H.get_push]⟩⟩,rfl,(Ext.push _ _).but⟩;simp only[sA,Nat.zero_add]at hb hl⊢;simp only[A.zI,hel,hlen,e0];simp[hb,hl]
  ·refine⟨(h.kill q).push (.cells (es.flatten++new.flatten) (some n)),?_,⟨hall,.inr ⟨h.next,by simp,by simp,by simp[H.get_push]⟩⟩,rfl,⟨by simp,fun id hid hs=>?_⟩⟩
   ·simp only[A.zI,hel,hlen,e0,hg];have e1:¬(es.length+new.length≤2*es.length / 2):=by omega
    have e2:2*es.length%2=0:=by omega
    simp[e1,e2,hb,hl,hfl];intro hc;omega
   ·rw[H.get_push,H.get_kill,aBg,kA (by omega),kA (fun e=>hs (by rw[e];rfl))]
theorem Ext.grow {a h h':H}{v:Value}(x:Ext a h)(y:ExtBut (fun i=>sid v=some i) h h')(hs:∀i,sid v=some i→a.next≤i):Ext a h':=
  ⟨kG x.next y.next,fun id hid=>by rw[y.get id (kH hid x.next) (fun e=>by have:=hs id e;omega)];exact x.get id hid⟩
theorem bY {n:Nat}{zs vs:List Value}{v:Value}(h:H)(hz:zs.length=n)(hc:aN v=some vs)(hv:vs.length=n):
    A.zF n 1 zs [(0,n,v)] h=some (.slice (some ⟨h.next,0,none⟩) 1 3,h.push (.cells vs (some n))):=by
  have h1:splice zs 0 vs=vs:=by
    simp only[splice,List.take_zero,List.nil_append,Nat.zero_add];rw[pM (by omega),List.append_nil]
  simp[A.zF,A.yL,hc,hv,h1,A.zeros,hz]
theorem gG {n:Nat}{h:H}{vs:List Value}(hv:vs.length=n):SliceE n (h.push (.cells vs (some n))) (.slice (some ⟨h.next,0,none⟩) 1 3) [vs]:=by
  refine⟨by simpa using hv,.inr ⟨h.next,0,3,rfl,by simp,by simp,fun _=>⟨vs,some n,by simp[H.get_push],by simp[hv],?_⟩⟩⟩;simp;rw[pN (by omega)]
@[simp] theorem aNy (a:Option Addr)(n c:Nat)(ha:∀b,a=some b→b.spot=none):same (.slice a n c) (.slice a n c)=true:=by
  cases a with
  |none=>simp[same]
  |some b=>
    obtain⟨x,y,z⟩:=b;have:=ha _ rfl;simp only at this;subst this;simp[same]
theorem SliceE.same {n:Nat}{h:H}{v:Value}{els:List (List Value)}(s:SliceE n h v els):AM.same v v=true:=by
  rcases s.2 with⟨rfl,rfl⟩|⟨id,off,c,rfl,_⟩
  ·simp[AM.same]
  ·simp[AM.same]
theorem SliceE.cells {n:Nat}{h:H}{v:Value}{els:List (List Value)}(s:SliceE n h v els):aN v=some [v]:=by
  rcases s.2 with⟨rfl,rfl⟩|⟨id,off,c,rfl,_⟩<;>rfl
section
variable {P:Program}{h:H}{t:TypeId}{as:List Value}
theorem Ty.int_inv {k:IntKind}(ty:Ty P h t as)(hu:P.underlying t=some (.int k)):∃n,as=[.int k n]∧(Lit.int k n).wf=true:=by
  cases ty with
  |int k' n hu' hw=>rw[hu]at hu';simp at hu';subst hu';exact⟨n,rfl,hw⟩
  |bool b hu'=>rw[hu]at hu';simp at hu'
  |str s hu'=>rw[hu]at hu';simp at hu'
  |sliceNil hu'=>rw[hu]at hu';simp at hu'
  |slice id len els hu'=>rw[hu]at hu';simp at hu'
  |struct parts hu'=>rw[hu]at hu';simp at hu'
theorem Ty.bool_inv (ty:Ty P h t as)(hu:P.underlying t=some .bool):∃b,as=[.bool b]:=by
  cases ty with
  |int k' n hu' hw=>rw[hu]at hu';simp at hu'
  |bool b hu'=>exact⟨b,rfl⟩
  |str s hu'=>rw[hu]at hu';simp at hu'
  |sliceNil hu'=>rw[hu]at hu';simp at hu'
  |slice id len els hu'=>rw[hu]at hu';simp at hu'
  |struct parts hu'=>rw[hu]at hu';simp at hu'
theorem Ty.str_inv (ty:Ty P h t as)(hu:P.underlying t=some .string):∃s,as=[.string s]∧s.size≤maxLen:=by
  cases ty with
  |int k' n hu' hw=>rw[hu]at hu';simp at hu'
  |bool b hu'=>rw[hu]at hu';simp at hu'
  |str s hu' hs=>exact⟨s,rfl,hs⟩
  |sliceNil hu'=>rw[hu]at hu';simp at hu'
  |slice id len els hu'=>rw[hu]at hu';simp at hu'
  |struct parts hu'=>rw[hu]at hu';simp at hu'
theorem Ty.slice_inv {e:TypeId}(ty:Ty P h t as)(hu:P.underlying t=some (.slice e)):
    ∃v els,as=[v]∧SliceE (P.cellsOf e) h v els∧els.length≤maxLen∧∀x∈els,Ty P h e x:=by
  cases ty with
  |int k' n hu' hw=>rw[hu]at hu';simp at hu'
  |bool b hu'=>rw[hu]at hu';simp at hu'
  |str s hu' hs=>rw[hu]at hu';simp at hu'
  |sliceNil hu'=>exact⟨_,[],rfl,⟨by simp,.inl ⟨rfl,rfl⟩⟩,by simp,by simp⟩
  |slice id len els hu' hl hm hi hb hs he=>
    rw[hu]at hu';simp at hu';subst hu';have hlen:(els.take len).length=len:=by simp;omega
    refine⟨_,els.take len,rfl,⟨fun x hx=>hs x (List.mem_of_mem_take hx),.inr ⟨id,0,_,by rw[hlen],by rw[hlen];omega,hi,fun hne=>?_⟩⟩,by rw[hlen];omega,fun x hx=>he x (List.mem_of_mem_take hx)⟩;have hne':els≠[]:=fun e=>hne (by simp[e]);refine⟨els.flatten,none,hb hne',?_,?_⟩
    ·rw[hlen,bW hs];have:=Nat.mul_le_mul_right (P.cellsOf e) hl;omega
    ·rw[hlen,List.drop_zero];clear hne hne' hb hm he hi hlen
     induction els generalizing len with
     |nil=>simp
     |cons x els ih=>
       cases len with
       |zero=>simp
       |succ len=>
         have hx:x.length=P.cellsOf e:=hs x (by simp);simp only[List.flatten_cons,List.take_succ_cons];rw[Nat.succ_mul,List.take_append,hx,pN (by rw[hx];omega),show len*P.cellsOf e+P.cellsOf e-P.cellsOf e=len*P.cellsOf e by omega];rw[ih len (by simpa using hl) (fun y hy=>hs y (by simp[hy]))]
  |struct parts hu'=>rw[hu]at hu';simp at hu'
theorem Ty.struct_inv {fs:Array Field}(ty:Ty P h t as)(hu:P.underlying t=some (.struct fs)):
    ∃parts:List (List Value),as=parts.flatten∧parts.length=fs.size∧∀(i:Nat) (f:Field) (p:List Value),fs[i]?=some f→parts[i]?=some p→Ty P h f.type p:=by
  cases ty with
  |int k' n hu' hw=>rw[hu]at hu';simp at hu'
  |bool b hu'=>rw[hu]at hu';simp at hu'
  |str s hu' hs=>rw[hu]at hu';simp at hu'
  |sliceNil hu'=>rw[hu]at hu';simp at hu'
  |slice id len els hu'=>rw[hu]at hu';simp at hu'
  |struct parts hu' hp hs hf=>rw[hu]at hu';simp at hu';subst hu';exact⟨parts,rfl,hp,hf⟩
def aFe (P:Program)(h:H):List Field→List Value→Prop
  |[],as=>as=[]
  |f::fs,as=>∃p r,as=p++r∧Ty P h f.type p∧aFe P h fs r
theorem Ty.fields {fs:Array Field}(ty:Ty P h t as)(hu:P.underlying t=some (.struct fs)):aFe P h fs.toList as:=by
  obtain⟨parts,rfl,hl,hp⟩:=ty.struct_inv hu;have key:∀(l:List Field) (ps:List (List Value)),ps.length=l.length→(∀(i:Nat) (f:Field) (p:List Value),l[i]?=some f→ps[i]?=some p→Ty P h f.type p)→aFe P h l ps.flatten:=by
    intro l
    induction l with
    |nil=>intro ps hl _;have:ps=[]:=List.length_eq_zero_iff.1 hl;subst this;rfl
    |cons f l ih=>
      intro ps hl hp
      match ps,hl with
      |p::ps,hl=>
        exact⟨p,ps.flatten,rfl,hp 0 f p rfl rfl,ih ps (by simpa using hl) fun i g q hg hq=>hp (i+1) g q (by simpa using hg) (by simpa using hq)⟩
  exact key fs.toList parts (by simpa using hl) fun i f p hf hp'=>hp i f p (by simpa using hf) hp'
end
end Go.AM
