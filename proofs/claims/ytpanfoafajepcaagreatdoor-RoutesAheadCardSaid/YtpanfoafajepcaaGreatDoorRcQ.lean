import Derived.Test.YtpanfoafajepcaaGreatDoorRcP
import Derived.Test.YtpanfoafajepcaaGreatDoorRcSb
import Derived.Test.YtpanfoafajepcaaGreatDoorGf
import Derived.Test.YtpanfoafajepcaaGreatDoorGs
set_option maxRecDepth 100000
namespace Go.Proofs.YtpanfoafajepcaaGreatDoor.Ra
open Tryz (prog)
open Go Go.AM Go.RowKit Go.Sort
open _root_.Ra
def vH (x:Bs×Bs):List Value:=[str x.1,str x.2]
def cfH (x y:Bs×Bs):Int:=orJ (jR x.1 y.1) (jR x.2 y.2)
theorem aHh (a b:Bs):Op.bytesLess a b=decide (a<b):=aDj a b
theorem aDl (a b:Bs):jR a b=if a<b then -1 else if a=b then 0 else 1:=by
 unfold jR;rw[aHh,eqB];by_cases h:a<b
 ·simp[h]
 ·by_cases e:a=b<;>simp[h,e]
theorem vR (a:Bs):¬a<a:=List.lt_irrefl a
theorem vU (x y:Bs×Bs):ltOf cfH x y=decide (x.1<y.1∨x.1=y.1∧x.2<y.2):=by
 unfold ltOf cfH orJ;rw[aDl,aDl];by_cases h:x.1<y.1
 ·simp[h]
 ·by_cases e:x.1=y.1
  ·by_cases h2:x.2<y.2
   ·simp[e,vR,h2]
   ·by_cases e2:x.2=y.2<;>simp[e,vR,h2,e2]
  ·simp[h,e]
theorem vV (x y:Bs×Bs):(!ltOf cfH y x)=hle x y:=by
 rw[vU,hle,Bool.eq_iff_iff];simp only[Bool.not_eq_true',kI,pJ,not_or,not_and,List.not_lt];constructor
 ·rintro⟨h1,h2⟩;rcases List.le_iff_lt_or_eq.1 h1 with h|h
  ·exact .inl h
  ·exact .inr ⟨h,h2 h.symm⟩
 ·rintro(h|⟨h,h2⟩)
  ·exact⟨List.le_of_lt h,fun e=>absurd (e▸h) (vR _)⟩
  ·exact⟨by rw[h];exact List.le_refl _,fun _=>h2⟩
theorem bKu:SWO (ltOf cfH) where
 irrefl x:=by rw[vU];simp[vR]
 trans x y z h1 h2:=by
  rw[vU]at*;simp only[pJ]at*;rcases h1 with h1|⟨e1,h1⟩<;>rcases h2 with h2|⟨e2,h2⟩
  ·exact .inl (List.lt_trans h1 h2)
  ·exact .inl (e2▸h1)
  ·exact .inl (e1▸h2)
  ·exact .inr ⟨e1.trans e2,List.lt_trans h1 h2⟩
 ntrans x y z h1 h2:=by
  have k1:hle y x=true:=by rw[←vV,h1];rfl
  have k2:hle z y=true:=by rw[←vV,h2];rfl
  have:=nX z y x k2 k1;rw[←vV]at this
  cases h:ltOf cfH x z with
  |false=>rfl
  |true=>rw[h]at this;cases this
theorem bKq (x y:Bs×Bs)(h1:ltOf cfH x y=false)(h2:ltOf cfH y x=false):x=y:=by
 rw[vU]at h1 h2;simp only[kI,not_or,not_and,List.not_lt]at h1 h2;have e1:x.1=y.1:=List.le_antisymm h2.1 h1.1;have e2:x.2=y.2:=List.le_antisymm (h2.2 e1.symm) (h1.2 e1);exact Prod.ext e1 e2
theorem jV:∀(es:List (Bs×Bs)) (i:Nat),(bF es).flatten[i]?=(es[i / 2]?).map fun x=>if i%2=0 then str x.1 else str x.2
 |[],i=>by simp[bF]
 |x::r,0=>rfl
 |x::r,1=>rfl
 |x::r,i+2=>by
  have h:=jV r i;have e:(bF (x::r)).flatten[i+2]?=(bF r).flatten[i]?:=rfl;rw[e,h,show(i+2) / 2=i / 2+1 by omega,show(i+2)%2=i%2 by omega];rfl
theorem jU (es:List (Bs×Bs)):(bF es).flatten.length=es.length*2:=by
 induction es with
 |nil=>rfl
 |cons x r ih=>
  have e:(bF (x::r)).flatten.length=(bF r).flatten.length+2:=rfl;rw[e,ih,kM];omega
theorem aId (d:Array (Bs×Bs)){i:Nat}{v:Value}(h:(bF d.toList).flatten[i]?=some v):(flatK vH 2 d)[i]! =v:=by
 have hl:=(List.getElem?_eq_some_iff.1 h).1;rw[jU]at hl;have hl:i<d.size*2:=hl;rw[get_flatK vH 2 d i hl];rw[jV]at h;obtain⟨x,hx,hv⟩:=Option.map_eq_some_iff.1 h;rw[Array.getElem?_toList]at hx;have:d[i / 2]! =x:=by rw[getElem!_def,hx]
 rw[this,←hv];rcases Nat.mod_two_eq_zero_or_one i with e|e<;>rw[e]<;>rfl
theorem aAf:∀{a b:List (Bs×Bs)},(bF a).flatten=(bF b).flatten→a=b
 |[],[],_=>rfl
 |[],_::_,h=>by cases h
 |_::_,[],h=>by cases h
 |(x,y)::a,(x',y')::b,h=>by
  have h:str x::str y::(bF a).flatten=str x'::str y'::(bF b).flatten:=h;injection h with h1 h2;injection h2 with h2 h3;injection h1 with h1;injection h1 with h1;injection h1 with h1;injection h2 with h2;injection h2 with h2;injection h2 with h2;rw[h1,h2,aAf h3]
theorem aBf {w:World}{blk:Nat}{ccs:Array Value}{ty:TypeId}{fz:Nat×Nat}(h:w.heap[blk]?=some (.cells ccs ty fz))(f:Array Value→Array Value):mapBlock w blk f=AM.setObj w blk (.cells (f ccs) ty fz):=by
 have:w.heap.modify blk (onCells f)=w.heap.setIfInBounds blk (.cells (f ccs) ty fz):=by
  apply Array.ext_getElem?;intro k;simp only[Array.getElem?_modify,Array.getElem?_setIfInBounds];by_cases hk:blk=k
  ·subst hk;have hl:blk<w.heap.size:=(Array.getElem?_eq_some_iff.1 h).1;simp only[if_true,h,Option.map_some,onCells];rw[kB hl]
  ·simp only[hk,if_false]
 unfold mapBlock AM.setObj;rw[this]
def sK (h:H)(v:Value)(es:List (Bs×Bs)):H:=match es,sid v with
 |[],_=>h
 |_,some q=>h.put q (.cells (bF (es.mergeSort hle)).flatten (some 2))
 |_,none=>h
theorem aBc (h:H)(v:Value)(es:List (Bs×Bs)):(sK h v es).next=h.next:=by
 unfold sK;split<;>rfl
theorem aGz {h:H}{v:Value}{es:List (Bs×Bs)}(x:Vec 2 h v (bF es)):SliceE 2 (sK h v es) v (bF (es.mergeSort hle))∧ExtBut (fun i=>sid v=some i) h (sK h v es):=by
 cases es with
 |nil=>exact⟨by rw[List.mergeSort_nil];exact x.slice,kF _,fun _ _ _=>rfl⟩
 |cons y r=>
  obtain⟨_,⟨rfl,e⟩|⟨q,rfl,hq,hg⟩⟩:=x
  ·cases e
  ·refine⟨?_,kF _,fun id _ hn=>?_⟩
   ·refine Vec.slice ⟨fun e he=>?_,.inr ⟨q,?_,hq,?_⟩⟩
    ·obtain⟨x,_,rfl⟩:=List.mem_map.1 he;rfl
    ·simp only[bF,pA,List.length_mergeSort]
    ·show(h.put q _).get q=_;rw[H.get_put,kB rfl]
   ·show(h.put q _).get id=_;rw[H.get_put,kA fun e=>hn (by rw[e];rfl)]
theorem aHp (blk off size:Nat)(w:World):CmpLays prog 44 #[] vH 2 cfH blk off size w:=fun _ _ _ _ x y=>w44 x.1 x.2 y.1 y.2 _
theorem aLh {μ:Mu}{h:H}{w:World}(r:RH 3 μ h w){v:Value}{es:List (Bs×Bs)}(x:Vec 2 h v (bF es))(hes:es.length≤2^41){cargs:List Value}(hl:LR μ [v,.func (.func 44) ⟨[]⟩ ⟨[]⟩] cargs):
 Calls prog 43 ⟨cargs⟩ w (fX 3 μ h w (.tuple ⟨[]⟩) (sK h v es)):=by
 obtain⟨cv,cf,rfl⟩:∃cv cf,cargs=[cv,cf]:=by
  match cargs,hl.1 with
  |[c,d],_=>exact⟨c,d,rfl⟩
 have hf:=hl.2 1 _ _ rfl rfl
 cases hf with
 |func f cs ds cs' ds' e1 e2 g1 g2=>
 obtain rfl:cs'=[]:=List.eq_nil_of_length_eq_zero e1.symm;obtain rfl:ds'=[]:=List.eq_nil_of_length_eq_zero e2.symm;have hv:=hl.2 0 _ _ rfl rfl
 cases es with
 |nil=>
  obtain⟨p,cap,rfl⟩:∃p cap,cv=.slice p 0 cap:=by
   obtain⟨_,⟨rfl,_⟩|⟨q,rfl,_,_⟩⟩:=x
   ·cases hv;exact⟨_,_,rfl⟩
   ·cases hv;exact⟨_,_,rfl⟩
  refine(AnyF.slices_SortFunc_none Tryz.sortf43 p cap _ w).mono ?_;rintro e w' ⟨rfl,rfl⟩;exact⟨_,μ,rfl,Step.refl r,.tuple [] [] rfl fun i a b h=>by simp at h⟩
 |cons y es=>
  obtain⟨_,⟨rfl,e⟩|⟨q,rfl,hq,hg⟩⟩:=x
  ·cases e
  generalize hE:y::es=E at*;have hEl:0<E.length:=by rw[←hE];simp
  have hlc:(bF E).length=E.length:=by simp[bF]
  rw[hlc]at hv
  cases hv with
  |@slice _ _ _ _ c' lq a' hm hc hle' ha=>
  unfold dD at hc;rw[kA (by omega)]at hc;have ha:=ha (by omega);subst ha;obtain⟨ccs,ty,fz,hw,hs1,hs2,hcs,hfz,hes2⟩:=r.br q _ lq hg hm;have hbl:lq.blk<w.heap.size:=(Array.getElem?_eq_some_iff.1 hw).1;rw[jU]at hs2;have cell:∀i v,(bF E).flatten[i]?=some v→ccs[lq.off+i]?=some v:=fun i v hi=>by
   obtain⟨c,h1,h2,_⟩:=hcs i v hi;rw[jV]at hi;obtain⟨z,_,hz⟩:=Option.map_eq_some_iff.1 hi;have hp:aJ v=true:=by rw[←hz];split<;>rfl
   rw[h1,h2.eq_of_plain hp]
  have hH:HoldsK vH 2 w lq.blk (lq.off+0) E.toArray:=by
   intro j hj;simp only[size_flatK,List.size_toArray]at hj;have hj2:j<(bF E).flatten.length:=by rw[jU];exact hj
   have hi:(bF E).flatten[j]?=some (bF E).flatten[j]:=kN hj2;have hk:=aId E.toArray (v:=(bF E).flatten[j]) (i:=j) hi;refine⟨?_,?_⟩
   ·unfold World.cell?;simp only[hw,Option.isSome_none,pB,if_false];rw[hk,Nat.add_zero];exact cell j _ hi
   ·have:=hfz rfl (lq.off+j) (by omega);unfold World.frozen?;simp only[hw,Nat.add_zero];rw[Bool.eq_false_iff];intro hb;rw[kO,pJ,pJ]at hb;exact this hb
  have hsz:E.toArray.size<4611686018427387904:=by simp only[List.size_toArray];omega
  have hcall:=AnyQ.slices_SortFunc_total Tryz.sortf43 2 Tryz.isAgg86 Tryz.sizeOf86 vH (fun _=>rfl) (fun x v hv=>by simp only[vH,pV,List.mem_nil_iff,or_false]at hv;rcases hv with rfl|rfl<;>rfl) cfH bKu 44 #[] lq.blk (lq.off+0) c' E.toArray w (enters_of Tryz.func44 (by kernel_rfl) rfl) (aHp _ _ _ w) hH hbl hsz bKq
  refine hcall.mono ?_;rintro e w' ⟨rfl,n,os,rfl⟩;have hfun:(fun x y=>!(ltOf cfH) y x)=hle:=funext fun x=>funext fun y=>vV x y;rw[hfun];obtain⟨S,hS⟩:∃S,S=E.mergeSort hle:=⟨_,rfl⟩;have hSl:S.length=E.length:=by rw[hS,List.length_mergeSort]
  have hr:sK h (.slice (some ⟨q,0,none⟩) (bF E).length (2*(bF E).length)) E=h.put q (.cells (bF S).flatten (some 2)):=by
   rw[hS,←hE];rfl
  rw[hr,←hS];refine⟨_,μ,rfl,?_,.tuple [] [] rfl fun i a b h=>by simp at h⟩;unfold sortWorldK;have hpr:putRowK vH 2 w lq.blk (lq.off+0) S.toArray=AM.setObj w lq.blk (.cells (putCells id (lq.off+0) (flatK vH 2 S.toArray) ccs) ty fz):=aBf hw _;have hpa:putRowK vH 2 (Sort.ahead w n) lq.blk (lq.off+0) S.toArray={putRowK vH 2 w lq.blk (lq.off+0) S.toArray with drawn:=w.drawn+n}:=rfl;rw[hpa,hpr];have st1:Step 3 μ h w μ (h.put q (.cells (bF S).flatten (some 2))) (AM.setObj w lq.blk (.cells (putCells id (lq.off+0) (flatK vH 2 S.toArray) ccs) ty fz)):=by
   refine Step.write (b':=.cells (bF S).flatten (some 2)) r hg rfl rfl hm ⟨putCells id (lq.off+0) (flatK vH 2 S.toArray) ccs,ty,fz,?_,?_,?_,fun i v hi=>?_,hfz,hes2⟩
   ·simp only[AM.setObj];rw[Array.getElem?_setIfInBounds,kB rfl,kB hbl]
   ·simp only[putCells,Array.size_mapIdx];exact hs1
   ·rw[jU,hSl];exact hs2
   ·have hil:=(List.getElem?_eq_some_iff.1 hi).1;rw[jU]at hil;have hk:=aId S.toArray (v:=v) (i:=i) hi;refine⟨v,?_,?_,?_⟩
    ·have hlt:lq.off+i<ccs.size:=by omega
     simp only[putCells,Array.getElem?_mapIdx,pI hlt,Option.map_some,size_flatK,List.size_toArray,Nat.add_zero];rw[kB (by omega),show lq.off+i-lq.off=i by omega,hk];rfl
    ·rw[jV]at hi;obtain⟨z,_,hz⟩:=Option.map_eq_some_iff.1 hi;rw[←hz];split<;>exact .string _
    ·rw[jV]at hi;obtain⟨z,_,hz⟩:=Option.map_eq_some_iff.1 hi;rw[←hz];split<;>rfl
  refine st1.trans ((Step.drawn st1.rh (w.drawn+n)).trans ?_);refine Step.ofBelow ((Step.drawn st1.rh (w.drawn+n)).rh) ⟨rfl,rfl,rfl,by rw[size_grow];exact Nat.le_add_right _ _,fun k hk=>?_⟩;show(_++os)[k]?=_;rw[Array.getElem?_append_left hk]
end Go.Proofs.YtpanfoafajepcaaGreatDoor.Ra
