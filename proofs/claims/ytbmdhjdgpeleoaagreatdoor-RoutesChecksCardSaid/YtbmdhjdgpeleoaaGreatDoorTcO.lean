import Derived.Test.YtbmdhjdgpeleoaaGreatDoorTcN
import Derived.Test.YtbmdhjdgpeleoaaGreatDoorTcSa
import Derived.Test.YtbmdhjdgpeleoaaGreatDoorGf
import Derived.Test.YtbmdhjdgpeleoaaGreatDoorGq
set_option linter.defProp false
set_option maxRecDepth 100000
namespace Go.Proofs.YtbmdhjdgpeleoaaGreatDoor.Ra
open Tryz (prog)
open Go Go.AM Go.RowKit _root_.Ra
variable {h:H}{M:Mu}{l:kC (Bs×kA)}{s:kC Bs}{w:kE}
def aTz (r:RH 3 M h w){n:Nat}{L:AM.Loc}(X:M n=some L)(x:MapR h n cC l)(Q:l.length≤2^40)(N:∀y∈l,y.1.length≤maxLen):
    ∃(D:DataW Unit) (nn:Nat),w.ownsMap prog 9 (fun _=>some (.nil,[])) L.blk nn D∧(strKeys D).Perm (l.map (·.1))∧Maps.size D=l.length:=by
  obtain⟨o,c,V,C,R,U⟩:=x.at_;obtain⟨a,Y,s,G⟩:=r.br n _ L V X;have d:o.length=l.length:=by have:=sX List.length C;simpa using this
  have m:∀(i:Nat) (y:Bs×kA),l[i]?=some y→∃(e:Ent) (c:kJ),o[i]?=some e∧a[i]?=some c∧c.key=cC y.1∧c.born=e.born:=fun i y f=>by
    have W:i<o.length:=by rw[d];exact(pX.1 f).1
    have q:o[i]?=some o[i]:=kZ W;obtain⟨_,P,g,B,K,_⟩:=G i _ q;have:=sX (fun z:kC (kA×kA)=>z[i]?) C;simp only[pL,q,f,mA,kP,kW]at this;exact⟨_,P,q,g,by rw[B,this.1],K⟩
  have k:a.toList.map (·.key)=l.map fun y=>cC y.1:=by
    apply mT;intro i;rw[pL,pL,Array.getElem?_toList]
    cases f:l[i]? with
    |none=>
      have:a[i]?=none:=by rw[Array.getElem?_eq_none_iff,s,d];exact mS.1 f
      rw[this];rfl
    |some y=>
      obtain⟨e,c,_,g,B,_⟩:=m i y f;rw[g];simp[B]
  have j:a.toList.map (·.born)=o.map (·.born):=by
    apply mT;intro i;rw[pL,pL,Array.getElem?_toList]
    cases f:l[i]? with
    |none=>
      have O:=mS.1 f;have:a[i]?=none:=by rw[Array.getElem?_eq_none_iff,s,d];exact O
      have e:o[i]?=none:=by rw[mS,d];exact O
      rw[this,e];rfl
    |some y=>
      obtain⟨e,c,C,g,_,K⟩:=m i y f;rw[g,C];simp[K]
  have v:∀(x:kJ) (b:Bs),x.key=cC b→b.length≤maxLen→Go.WideElems.rd (H:=Unit) prog 9 (fun _=>some (.nil,[])) x=some (.string b,.nil):=fun x b t S=>by
    have:keyOf prog 9 x.key=some (.string b):=by
      rw[t];have s:(⟨⟨b⟩⟩:ByteArray).size≤maxLen:=by show b.toArray.size≤_;rwa [List.size_toArray]
      simp only[cC,keyOf,Tryz.underlying9,mapKey];rw[kM s]
    simp[Go.WideElems.rd,this]
  have u:∀x∈a.toList,∃y∈l,x.key=cC y.1:=fun x t=>by
    have:x.key∈a.toList.map (·.key):=mN t;rw[k]at this;obtain⟨y,f,e⟩:=mW.1 this;exact⟨y,f,e.symm⟩
  have E:Go.WideElems.Fit (H:=Unit) prog 9 (fun _=>some (.nil,[])) a c:=by
    refine⟨by rw[s,d];exact kR Q (by decide),⟨fun x t=>?_,by rw[j];exact R,?_⟩,fun x t=>?_⟩
    ·refine U _ ?_;rw[←j];exact mN t
    ·rw[k];have:=x.nodup;rw[List.Nodup,List.pairwise_map]at this⊢;exact this.imp fun I e=>I (by simpa[cC]using e)
    ·obtain⟨y,f,e⟩:=u x t;exact⟨_,v x y.1 e (N y f)⟩
  have J:a.toList.map (Go.WideElems.rg (H:=Unit) prog 9 fun _=>some (.nil,[]))=l.map fun y=>(.string y.1,.nil):=by
    apply mT;intro i;rw[pL,pL,Array.getElem?_toList]
    cases f:l[i]? with
    |none=>
      have:a[i]?=none:=by rw[Array.getElem?_eq_none_iff,s,d];exact mS.1 f
      rw[this];rfl
    |some y=>
      obtain⟨e,c,_,g,B,_⟩:=m i y f;rw[g];simp only[mA,Go.WideElems.rg_of (v c y.1 B (N y (sY f)))]
  refine⟨_,a.size,⟨a,c,Y,E,kQ _,rfl⟩,?_,?_⟩
  ·show((((a.toList.map _).foldr DataW.insert []).map fun p=>strOf p.1)).Perm _;refine((Go.WideShapes.sorted_perm _).map _).trans (List.Perm.of_eq ?_);rw[J,List.map_map];exact List.map_congr_left fun y _=>rfl
  ·show((a.toList.map _).foldr DataW.insert []).length=_;rw[(Go.WideShapes.sorted_perm _).length_eq,pO,Array.length_toList,s,d]
def oL (h:H)(k:kC Bs):kA×H:=if k=[]then(eJ,h)else(.slice (some ⟨h.next,0,none⟩) k.length (2*k.length),h.push (.cells (k.map str) (some 1)))
def aKn (h:H)(k:kC Bs):h.next≤(oL h k).2.next:=by
  unfold oL;split
  ·exact kQ _
  ·exact sF _
def aGm :SliceE 1 (oL h s).2 (oL h s).1 (s.map fun k=>[str k])∧Ext h (oL h s).2∧∀i,sid (oL h s).1=some i→h.next≤i:=by
  unfold oL;split
  ·rename_i e;subst e;exact⟨(Vec.nil 1 h).slice,Ext.refl h,fun i a=>by simp[sid]at a⟩
  ·rename_i e;refine⟨?_,Ext.push h _,fun i a=>by cases a;exact kQ _⟩;have v:Vec 1 (h.push (.cells (s.map str) (some 1))) (.slice (some ⟨h.next,0,none⟩) s.length (2*s.length)) (s.map fun k=>[str k]):=by
     refine⟨fun e b=>?_,.inr ⟨h.next,by rw[pO],mQ _,?_⟩⟩
     ·obtain⟨k,_,rfl⟩:=mW.1 b;rfl
     ·rw[H.get_push,kM rfl];congr 2;clear e
      induction s with
      |nil=>rfl
      |cons k r c=>simp only[mH,List.flatten_cons,c,List.singleton_append]
   exact v.slice
def aZh (m:Nat):AnyZ.SortsIn prog Tryz.sorted65_ren Fence.wide m:=
  ⟨fun b o c d W a h s=>callsIn_wide.2 (AnyM.slices_Sort_string Tryz.sort84 b o c d W a h s),
   fun p c W=>callsIn_wide.2 (AnyM.slices_Sort_string_none Tryz.sort84 p c W)⟩
def bAe (r:RH 3 M h w)(O:Fresh M h.next (oL h s).2.next){n box:Nat}(g:h.get box=some (.cells [aV n] (some 0)))(x:MapR h n cC l)(U:l.length≤2^40)(h2:∀y∈l,y.1.length≤maxLen)(P:s=uZ (l.map (·.1))){a:kC kA}(X:LR M [.func (.func 120) ⟨[]⟩ ⟨[aA box]⟩] a):Calls prog 99 ⟨a⟩ w (nI 3 M h w (oL h s).1 (oL h s).2):=by
  obtain⟨c,rfl⟩:∃c,a=[c]:=by
    match a,X.1 with
    |[c],_=>exact⟨c,rfl⟩
  have Q:=X.2 0 _ _ rfl rfl
  cases Q with
  |func f cs ds J t e1 e2 g1 g2=>
  obtain rfl:J=[]:=List.eq_nil_of_length_eq_zero e1.symm;obtain⟨d,rfl⟩:∃d,t=[d]:=by
    match t,e2 with
    |[d],_=>exact⟨d,rfl⟩
  have hd:=g2 0 _ _ rfl rfl
  cases hd with
  |@ptr _ _ lb u=>
  obtain⟨Z,ty,fz,Y,_,_,N,_⟩:=r.br box _ lb g u;obtain⟨c,hc,R,_⟩:=N 0 (aV n) rfl
  cases R with
  |@map _ lm hm=>
  obtain⟨D,nn,own,hp,G⟩:=aTz r hm x U h2;have o:w.cell? ⟨lb.blk,lb.off+0,none⟩=some (.map (some lm.blk)):=by
    unfold World.cell?;simp only[Y,dX,pP,mD];exact hc
  have K:lb.blk<w.heap.size:=(sT.1 Y).1;have C:SeqGives Fence.wide 2 prog 120 #[.pointer (some ⟨lb.blk,lb.off+0,none⟩)] encStr (fun I=>I.Perm (strKeys D)) (Maps.size D) w:=
    AnyZ.keysAt_gives (ρ:=Tryz.keys85_ren) {Tryz.keys85 with} Fence.wide _ trivial rfl (by omega) lb.blk (lb.off+0) lm.blk nn D w K o own
  have z:Maps.size D≤maxLen:=by rw[G];exact kR U (by decide)
  have L:Maps.size D*16≤140737488355328:=by rw[G];omega
  have m:=AnyZ.sorted_in Tryz.sorted65 Fence.wide 5 trivial trivial trivial trivial rfl (by omega) (aZh _) (enters_of Tryz.func119 (by kernel_rfl) rfl) 120 #[.pointer (some ⟨lb.blk,lb.off+0,none⟩)] trivial (enters_of Tryz.func120 (by kernel_rfl) rfl) _ _ z L _ C;refine(callsIn_wide.1 m).mono ?_;rintro e w' ⟨v,I,rfl,hS,j,B,V⟩;have E:I.mergeSort (fun x y=>decide (x≤y))=s:=by
    rw[P];exact mergeSort_of_perm (hS.trans hp)
  rw[E]at j;have p:I.length=s.length:=by rw[←E,List.length_mergeSort]
  unfold oL at O⊢;by_cases q:s=[]
  ·rw[kM q];rw[q]at p;have:I=[]:=List.eq_nil_of_length_eq_zero p;rw[B.2 this];exact⟨_,M,rfl,Step.ofBelow r V,.sliceNil⟩
  ·rw[kL q]at O⊢;have hn:s.length≠0:=fun e=>q (List.eq_nil_of_length_eq_zero e);rw[p]at j;obtain⟨S,st,Q⟩:=aZi (size:=1) r (O h.next (kQ _) (mQ _)) V j hn (cs:=s.map str) (by simp) fun i a3 b W u=>by
     rw[pL]at W u;obtain⟨k,q,rfl⟩:=sZ.1 W;rw[q]at u;obtain rfl:=pB u;exact⟨.string _,rfl⟩
   exact⟨_,S,rfl,st,Q⟩
end Go.Proofs.YtbmdhjdgpeleoaaGreatDoor.Ra
