import Derived.Test.YtbmdhjdgpeleoaaGreatDoorTcP
import Derived.Test.YtbmdhjdgpeleoaaGreatDoorTcSb
import Derived.Test.YtbmdhjdgpeleoaaGreatDoorGf
import Derived.Test.YtbmdhjdgpeleoaaGreatDoorGd
set_option linter.defProp false
set_option maxRecDepth 100000
namespace Go.Proofs.YtbmdhjdgpeleoaaGreatDoor.Ra
open Tryz (prog)
open Go Go.AM Go.RowKit Go.Sort _root_.Ra
variable {h:H}{i n:Nat}{v:kA}{s u:kC (Bs×Bs)}{w:kE}
def aFi (x:Bs×Bs):kC kA:=[str x.1,str x.2]
def cfH (x y:Bs×Bs):Int:=orJ (lT x.1 y.1) (lT x.2 y.2)
def aUf (a b:Bs):Op.bytesLess a b=decide (a<b):=aBi a b
def aOl (a b:Bs):lT a b=if a<b then -1 else if a=b then 0 else 1:=by
 unfold lT;rw[aUf,eqB];by_cases h:a<b
 ·simp[h]
 ·by_cases e:a=b<;>simp[h,e]
def aFu (a:Bs):¬a<a:=List.lt_irrefl a
def aFx (x y:Bs×Bs):ltOf cfH x y=decide (x.1<y.1∨x.1=y.1∧x.2<y.2):=by
 unfold ltOf cfH orJ;rw[aOl,aOl];by_cases h:x.1<y.1
 ·simp[h]
 ·by_cases e:x.1=y.1
  ·by_cases a:x.2<y.2
   ·simp[e,aFu,a]
   ·by_cases b:x.2=y.2<;>simp[e,aFu,a,b]
  ·simp[h,e]
def aFy (x y:Bs×Bs):(!ltOf cfH y x)=hle x y:=by
 rw[aFx,hle,mR];simp only[Bool.not_eq_true',kU,pW,not_or,not_and,List.not_lt];constructor
 ·rintro⟨b,a⟩;rcases List.le_iff_lt_or_eq.1 b with h|h
  ·exact .inl h
  ·exact .inr ⟨h,a h.symm⟩
 ·rintro(h|⟨h,a⟩)
  ·exact⟨List.le_of_lt h,fun e=>dC (e▸h) (aFu _)⟩
  ·exact⟨by rw[h];exact List.le_refl _,fun _=>a⟩
def cLa:SWO (ltOf cfH) where
 irrefl x:=by rw[aFx];simp[aFu]
 trans x y z a b:=by
  rw[aFx]at*;simp only[pW]at*;rcases a with a|⟨e,a⟩<;>rcases b with b|⟨c,b⟩
  ·exact .inl (List.lt_trans a b)
  ·exact .inl (c▸a)
  ·exact .inl (e▸b)
  ·exact .inr ⟨e.trans c,List.lt_trans a b⟩
 ntrans x y z a b:=by
  have k:hle y x=true:=by rw[←aFy,a];rfl
  have d:hle z y=true:=by rw[←aFy,b];rfl
  have:=wV z y x d k;rw[←aFy]at this
  cases h:ltOf cfH x z with
  |false=>rfl
  |true=>rw[h]at this;cases this
def cKx (x y:Bs×Bs)(h:ltOf cfH x y=false)(a:ltOf cfH y x=false):x=y:=by
 rw[aFx]at h a;simp only[kU,not_or,not_and,List.not_lt]at h a;have e:x.1=y.1:=List.le_antisymm a.1 h.1;have b:x.2=y.2:=List.le_antisymm (a.2 e.symm) (h.2 e);exact Prod.ext e b
def rN:∀(es:kC (Bs×Bs)) (i:Nat),(bR es).flatten[i]?=(es[i / 2]?).map fun x=>if i%2=0 then str x.1 else str x.2
 |[],i=>by simp[bR]
 |x::r,0=>rfl
 |x::r,1=>rfl
 |x::r,i+2=>by
  have h:=rN r i;have e:(bR (x::r)).flatten[i+2]?=(bR r).flatten[i]?:=rfl;rw[e,h,show(i+2) / 2=i / 2+1 by omega,show(i+2)%2=i%2 by omega];rfl
def rM (s:kC (Bs×Bs)):(bR s).flatten.length=s.length*2:=by
 induction s with
 |nil=>rfl
 |cons x r i=>
  have e:(bR (x::r)).flatten.length=(bR r).flatten.length+2:=rfl;rw[e,i,kY];omega
def aVi (d:kH (Bs×Bs))(h:(bR d.toList).flatten[i]?=some v):(flatK aFi 2 d)[i]! =v:=by
 have l:=(pX.1 h).1;rw[rM]at l;have l:i<d.size*2:=l;rw[get_flatK aFi 2 d i l];rw[rN]at h;obtain⟨x,a,b⟩:=sZ.1 h;rw[Array.getElem?_toList]at a;have:d[i / 2]! =x:=by rw[getElem!_def,a]
 rw[this,←b];rcases Nat.mod_two_eq_zero_or_one i with e|e<;>rw[e]<;>rfl
def aJg:∀{a b:kC (Bs×Bs)},(bR a).flatten=(bR b).flatten→a=b
 |[],[],_=>rfl
 |[],_::_,h=>by cases h
 |_::_,[],h=>by cases h
 |(x,y)::a,(x',y')::b,h=>by
  have h:str x::str y::(bR a).flatten=str x'::str y'::(bR b).flatten:=h;injection h with h1 h2;injection h2 with h2 h3;injection h1 with h1;injection h1 with h1;injection h1 with h1;injection h2 with h2;injection h2 with h2;injection h2 with h2;rw[h1,h2,aJg h3]
def aKr {c:kH kA}{t:kF}{z:Nat×Nat}(h:w.heap[n]?=some (.cells c t z))(f:kH kA→kH kA):mapBlock w n f=AM.setObj w n (.cells (f c) t z):=by
 have:w.heap.modify n (onCells f)=w.heap.setIfInBounds n (.cells (f c) t z):=by
  apply Array.ext_getElem?;intro k;simp only[Array.getElem?_modify,Array.getElem?_setIfInBounds];by_cases a:n=k
  ·subst a;have l:n<w.heap.size:=(sT.1 h).1;simp only[mE,h,mA,onCells];rw[kM l]
  ·simp only[a,mD]
 unfold mapBlock AM.setObj;rw[this]
def aBx (h:H)(v:kA)(e:kC (Bs×Bs)):H:=match e,sid v with
 |[],_=>h
 |_,some q=>h.put q (.cells (bR (e.mergeSort hle)).flatten (some 2))
 |_,none=>h
def aKo (h:H)(v:kA)(e:kC (Bs×Bs)):(aBx h v e).next=h.next:=by
 unfold aBx;split<;>rfl
def aTv (x:Vec 2 h v (bR s)):SliceE 2 (aBx h v s) v (bR (s.mergeSort hle))∧ExtBut (fun i=>sid v=some i) h (aBx h v s):=by
 cases s with
 |nil=>exact⟨by rw[List.mergeSort_nil];exact x.slice,kQ _,fun _ _ _=>rfl⟩
 |cons y r=>
  obtain⟨_,⟨rfl,e⟩|⟨q,rfl,b,g⟩⟩:=x
  ·cases e
  ·refine⟨?_,kQ _,fun id _ n=>?_⟩
   ·refine Vec.slice ⟨fun e a=>?_,.inr ⟨q,?_,b,?_⟩⟩
    ·obtain⟨x,_,rfl⟩:=mW.1 a;rfl
    ·simp only[bR,pO,List.length_mergeSort]
    ·show(h.put q _).get q=_;rw[H.get_put,kM rfl]
   ·show(h.put q _).get id=_;rw[H.get_put,kL fun e=>n (by rw[e];rfl)]
def aUp (b o s:Nat)(w:kE):CmpLays prog 69 #[] aFi 2 cfH b o s w:=fun _ _ _ _ x y=>w44 x.1 x.2 y.1 y.2 _
def bAf {M:Mu}(r:RH 3 M h w)(x:Vec 2 h v (bR u))(j3:u.length≤2^41){a:kC kA}(hl:LR M [v,.func (.func 69) ⟨[]⟩ ⟨[]⟩] a):
 Calls prog 68 ⟨a⟩ w (nI 3 M h w (.tuple ⟨[]⟩) (aBx h v u)):=by
 obtain⟨P,cf,rfl⟩:∃P cf,a=[P,cf]:=by
  match a,hl.1 with
  |[c,d],_=>exact⟨c,d,rfl⟩
 have hf:=hl.2 1 _ _ rfl rfl
 cases hf with
 |func f cs ds O Q e1 e2 g1 g2=>
 obtain rfl:O=[]:=List.eq_nil_of_length_eq_zero e1.symm;obtain rfl:Q=[]:=List.eq_nil_of_length_eq_zero e2.symm;have s:=hl.2 0 _ _ rfl rfl
 cases u with
 |nil=>
  obtain⟨p,m,rfl⟩:∃p m,P=.slice p 0 m:=by
   obtain⟨_,⟨rfl,_⟩|⟨q,rfl,_,_⟩⟩:=x
   ·cases s;exact⟨_,_,rfl⟩
   ·cases s;exact⟨_,_,rfl⟩
  refine(AnyF.slices_SortFunc_none Tryz.sortf43 p m _ w).mono ?_;rintro e w' ⟨rfl,rfl⟩;exact⟨_,M,rfl,Step.refl r,.tuple [] [] rfl fun i k3 b h=>by simp at h⟩
 |cons y u=>
  obtain⟨_,⟨rfl,e⟩|⟨q,rfl,hq,hg⟩⟩:=x
  ·cases e
  generalize hE:y::u=E at*;have i3:0<E.length:=by rw[←hE];simp
  have a3:(bR E).length=E.length:=by simp[bR]
  rw[a3]at s
  cases s with
  |@slice _ _ _ _ c' lq a' hm hc hle' W=>
  unfold fL at hc;rw[kL (by omega)]at hc;have W:=W (by omega);subst W;obtain⟨l,ty,R,N,f3,K,X,I,D⟩:=r.br q _ lq hg hm;have C:lq.blk<w.heap.size:=(sT.1 N).1;rw[rM]at K;have B:∀i v,(bR E).flatten[i]?=some v→l[lq.off+i]?=some v:=fun i v g=>by
   obtain⟨c,h1,h2,_⟩:=X i v g;rw[rN]at g;obtain⟨z,_,L⟩:=sZ.1 g;have hp:aJ v=true:=by rw[←L];split<;>rfl
   rw[h1,h2.eq_of_plain hp]
  have hH:HoldsK aFi 2 w lq.blk (lq.off+0) E.toArray:=by
   intro j hj;simp only[size_flatK,List.size_toArray]at hj;have Z:j<(bR E).flatten.length:=by rw[rM];exact hj
   have g:(bR E).flatten[j]?=some (bR E).flatten[j]:=kZ Z;have J:=aVi E.toArray (v:=(bR E).flatten[j]) (i:=j) g;refine⟨?_,?_⟩
   ·unfold World.cell?;simp only[N,dX,pP,mD];rw[J,sS];exact B j _ g
   ·have:=I rfl (lq.off+j) (by omega);unfold World.frozen?;simp only[N,sS];rw[Bool.eq_false_iff];intro hb;rw[pA,pW,pW]at hb;exact this hb
  have g3:E.toArray.size<4611686018427387904:=by simp only[List.size_toArray];omega
  have o:=AnyQ.slices_SortFunc_total Tryz.sortf43 2 Tryz.isAgg111 Tryz.sizeOf111 aFi (fun _=>rfl) (fun x v s=>by simp only[aFi,sI,List.mem_nil_iff,or_false]at s;rcases s with rfl|rfl<;>rfl) cfH cLa 69 #[] lq.blk (lq.off+0) c' E.toArray w (enters_of Tryz.func69 (by kernel_rfl) rfl) (aUp _ _ _ w) hH C g3 cKx
  refine o.mono ?_;rintro e w' ⟨rfl,n,os,rfl⟩;have G:(fun x y=>!(ltOf cfH) y x)=hle:=funext fun x=>funext fun y=>aFy x y;rw[G];obtain⟨S,U⟩:=eX (E.mergeSort hle);have V:S.length=E.length:=by rw[U,List.length_mergeSort]
  have hr:aBx h (.slice (some ⟨q,0,none⟩) (bR E).length (2*(bR E).length)) E=h.put q (.cells (bR S).flatten (some 2)):=by
   rw[U,←hE];rfl
  rw[hr,←U];refine⟨_,M,rfl,?_,.tuple [] [] rfl fun i k3 b h=>by simp at h⟩;unfold sortWorldK;have e3:putRowK aFi 2 w lq.blk (lq.off+0) S.toArray=AM.setObj w lq.blk (.cells (putCells id (lq.off+0) (flatK aFi 2 S.toArray) l) ty R):=aKr N _;have d3:putRowK aFi 2 (Sort.ahead w n) lq.blk (lq.off+0) S.toArray={putRowK aFi 2 w lq.blk (lq.off+0) S.toArray with drawn:=w.drawn+n}:=rfl;rw[d3,e3];have t:Step 3 M h w M (h.put q (.cells (bR S).flatten (some 2))) (AM.setObj w lq.blk (.cells (putCells id (lq.off+0) (flatK aFi 2 S.toArray) l) ty R)):=by
   refine Step.write (b':=.cells (bR S).flatten (some 2)) r hg rfl rfl hm ⟨putCells id (lq.off+0) (flatK aFi 2 S.toArray) l,ty,R,?_,?_,?_,fun i v g=>?_,I,D⟩
   ·simp only[AM.setObj];rw[Array.getElem?_setIfInBounds,kM rfl,kM C]
   ·simp only[putCells,Array.size_mapIdx];exact f3
   ·rw[rM,V];exact K
   ·have Y:=(pX.1 g).1;rw[rM]at Y;have J:=aVi S.toArray (v:=v) (i:=i) g;refine⟨v,?_,?_,?_⟩
    ·have b3:lq.off+i<l.size:=by omega
     simp only[putCells,Array.getElem?_mapIdx,pV b3,mA,size_flatK,List.size_toArray,sS];rw[kM (by omega),show lq.off+i-lq.off=i by omega,J];rfl
    ·rw[rN]at g;obtain⟨z,_,L⟩:=sZ.1 g;rw[←L];split<;>exact .string _
    ·rw[rN]at g;obtain⟨z,_,L⟩:=sZ.1 g;rw[←L];split<;>rfl
  refine t.trans ((Step.drawn t.rh (w.drawn+n)).trans ?_);refine Step.ofBelow ((Step.drawn t.rh (w.drawn+n)).rh) ⟨rfl,rfl,rfl,by rw[size_grow];exact Nat.le_add_right _ _,fun k J=>?_⟩;show(_++os)[k]?=_;rw[Array.getElem?_append_left J]
end Go.Proofs.YtbmdhjdgpeleoaaGreatDoor.Ra
