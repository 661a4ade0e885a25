import Derived.Test.YtpanfoafajepcaaGreatDoorRcN
import Derived.Test.YtpanfoafajepcaaGreatDoorRcSa
import Derived.Test.YtpanfoafajepcaaGreatDoorGf
import Derived.Test.YtpanfoafajepcaaGreatDoorGt
set_option maxRecDepth 100000
namespace Go.Proofs.YtpanfoafajepcaaGreatDoor.Ra
open Tryz (prog)
open Go Go.AM Go.RowKit
open _root_.Ra
theorem aHd {μ:Mu}{h:H}{w:World}(r:RH 3 μ h w){m:Nat}{lm:AM.Loc}{l:List (Bs×Value)}(hm:μ m=some lm)(x:MapR h m bO l)(h1:l.length≤2^40)(h2:∀y∈l,y.1.length≤maxLen):
    ∃(D:DataW Unit) (nn:Nat),w.ownsMap prog 9 (fun _=>some (.nil,[])) lm.blk nn D∧(strKeys D).Perm (l.map (·.1))∧Maps.size D=l.length:=by
  obtain⟨es,c,hg,he,hb,hc⟩:=x.at_;obtain⟨ces,hw,hsz,hce⟩:=r.br m _ lm hg hm;have hlen:es.length=l.length:=by have:=congrArg List.length he;simpa using this
  have ent:∀(i:Nat) (y:Bs×Value),l[i]?=some y→∃(e:Ent) (c:MapEntry),es[i]?=some e∧ces[i]?=some c∧c.key=bO y.1∧c.born=e.born:=fun i y hy=>by
    have hi:i<es.length:=by rw[hlen];exact(List.getElem?_eq_some_iff.1 hy).1
    have hei:es[i]?=some es[i]:=kN hi;obtain⟨_,cc,hcc,k1,k2,_⟩:=hce i _ hei;have:=congrArg (fun z:List (Value×Value)=>z[i]?) he;simp only[kX,hei,hy,Option.map_some,kE,kK]at this;exact⟨_,cc,hei,hcc,by rw[k1,this.1],k2⟩
  have hkeys:ces.toList.map (·.key)=l.map fun y=>bO y.1:=by
    apply List.ext_getElem?;intro i;rw[kX,kX,Array.getElem?_toList]
    cases hy:l[i]? with
    |none=>
      have:ces[i]?=none:=by rw[Array.getElem?_eq_none_iff,hsz,hlen];exact List.getElem?_eq_none_iff.1 hy
      rw[this];rfl
    |some y=>
      obtain⟨e,c,_,hcc,k1,_⟩:=ent i y hy;rw[hcc];simp[k1]
  have hborn:ces.toList.map (·.born)=es.map (·.born):=by
    apply List.ext_getElem?;intro i;rw[kX,kX,Array.getElem?_toList]
    cases hy:l[i]? with
    |none=>
      have hl:=List.getElem?_eq_none_iff.1 hy;have:ces[i]?=none:=by rw[Array.getElem?_eq_none_iff,hsz,hlen];exact hl
      have e:es[i]?=none:=by rw[List.getElem?_eq_none_iff,hlen];exact hl
      rw[this,e];rfl
    |some y=>
      obtain⟨e,c,he,hcc,_,k2⟩:=ent i y hy;rw[hcc,he];simp[k2]
  have hrd:∀(x:MapEntry) (b:Bs),x.key=bO b→b.length≤maxLen→Go.WideElems.rd (H:=Unit) prog 9 (fun _=>some (.nil,[])) x=some (.string b,.nil):=fun x b hx hbl=>by
    have:keyOf prog 9 x.key=some (.string b):=by
      rw[hx];have hsz:(⟨⟨b⟩⟩:ByteArray).size≤maxLen:=by show b.toArray.size≤_;rwa [List.size_toArray]
      simp only[bO,keyOf,Tryz.underlying9,mapKey];rw[kB hsz]
    simp[Go.WideElems.rd,this]
  have hmem:∀x∈ces.toList,∃y∈l,x.key=bO y.1:=fun x hx=>by
    have:x.key∈ces.toList.map (·.key):=List.mem_map_of_mem hx;rw[hkeys]at this;obtain⟨y,hy,e⟩:=List.mem_map.1 this;exact⟨y,hy,e.symm⟩
  have fit:Go.WideElems.Fit (H:=Unit) prog 9 (fun _=>some (.nil,[])) ces c:=by
    refine⟨by rw[hsz,hlen];exact kG h1 (by decide),⟨fun x hx=>?_,by rw[hborn];exact hb,?_⟩,fun x hx=>?_⟩
    ·refine hc _ ?_;rw[←hborn];exact List.mem_map_of_mem hx
    ·rw[hkeys];have:=x.nodup;rw[List.Nodup,List.pairwise_map]at this⊢;exact this.imp fun hne e=>hne (by simpa[bO]using e)
    ·obtain⟨y,hy,e⟩:=hmem x hx;exact⟨_,hrd x y.1 e (h2 y hy)⟩
  have hrg:ces.toList.map (Go.WideElems.rg (H:=Unit) prog 9 fun _=>some (.nil,[]))=l.map fun y=>(.string y.1,.nil):=by
    apply List.ext_getElem?;intro i;rw[kX,kX,Array.getElem?_toList]
    cases hy:l[i]? with
    |none=>
      have:ces[i]?=none:=by rw[Array.getElem?_eq_none_iff,hsz,hlen];exact List.getElem?_eq_none_iff.1 hy
      rw[this];rfl
    |some y=>
      obtain⟨e,c,_,hcc,k1,_⟩:=ent i y hy;rw[hcc];simp only[Option.map_some,Go.WideElems.rg_of (hrd c y.1 k1 (h2 y (List.mem_of_getElem? hy)))]
  refine⟨_,ces.size,⟨ces,c,hw,fit,kF _,rfl⟩,?_,?_⟩
  ·show((((ces.toList.map _).foldr DataW.insert []).map fun p=>strOf p.1)).Perm _;refine((Go.WideShapes.sorted_perm _).map _).trans (List.Perm.of_eq ?_);rw[hrg,List.map_map];exact List.map_congr_left fun y _=>rfl
  ·show((ces.toList.map _).foldr DataW.insert []).length=_;rw[(Go.WideShapes.sorted_perm _).length_eq,pA,Array.length_toList,hsz,hlen]
def iP (h:H)(ks:List Bs):Value×H:=if ks=[]then(gF,h)else(.slice (some ⟨h.next,0,none⟩) ks.length (2*ks.length),h.push (.cells (ks.map str) (some 1)))
theorem aBb (h:H)(ks:List Bs):h.next≤(iP h ks).2.next:=by
  unfold iP;split
  ·exact kF _
  ·exact pS _
theorem wJ {h:H}{ks:List Bs}:SliceE 1 (iP h ks).2 (iP h ks).1 (ks.map fun k=>[str k])∧Ext h (iP h ks).2∧∀i,sid (iP h ks).1=some i→h.next≤i:=by
  unfold iP;split
  ·rename_i e;subst e;exact⟨(Vec.nil 1 h).slice,Ext.refl h,fun i hi=>by simp[sid]at hi⟩
  ·rename_i e;refine⟨?_,Ext.push h _,fun i hi=>by cases hi;exact kF _⟩;have v:Vec 1 (h.push (.cells (ks.map str) (some 1))) (.slice (some ⟨h.next,0,none⟩) ks.length (2*ks.length)) (ks.map fun k=>[str k]):=by
     refine⟨fun e he=>?_,.inr ⟨h.next,by rw[pA],Nat.lt_succ_self _,?_⟩⟩
     ·obtain⟨k,_,rfl⟩:=List.mem_map.1 he;rfl
     ·rw[H.get_push,kB rfl];congr 2;clear e
      induction ks with
      |nil=>rfl
      |cons k r ih=>simp only[List.map_cons,List.flatten_cons,ih,List.singleton_append]
   exact v.slice
theorem aKm (m:Nat):AnyZ.SortsIn prog Tryz.sorted65_ren Fence.wide m:=
  ⟨fun blk off cap ss W hH hblk hsz=>callsIn_wide.2 (AnyM.slices_Sort_string Tryz.sort84 blk off cap ss W hH hblk hsz),
   fun p cap W=>callsIn_wide.2 (AnyM.slices_Sort_string_none Tryz.sort84 p cap W)⟩
theorem aLg {μ:Mu}{h:H}{w:World}(r:RH 3 μ h w){ks:List Bs}(hf:Fresh μ h.next (iP h ks).2.next){m box:Nat}{l:List (Bs×Value)}(g:h.get box=some (.cells [aP m] (some 0)))(x:MapR h m bO l)(h1:l.length≤2^40)(h2:∀y∈l,y.1.length≤maxLen)(hks:ks=mL (l.map (·.1)))
    {cargs:List Value} (hl:LR μ [.func (.func 85) ⟨[]⟩ ⟨[aB box]⟩] cargs):Calls prog 65 ⟨cargs⟩ w (fX 3 μ h w (iP h ks).1 (iP h ks).2):=by
  obtain⟨c,rfl⟩:∃c,cargs=[c]:=by
    match cargs,hl.1 with
    |[c],_=>exact⟨c,rfl⟩
  have hv:=hl.2 0 _ _ rfl rfl
  cases hv with
  |func f cs ds cs' ds' e1 e2 g1 g2=>
  obtain rfl:cs'=[]:=List.eq_nil_of_length_eq_zero e1.symm;obtain⟨d,rfl⟩:∃d,ds'=[d]:=by
    match ds',e2 with
    |[d],_=>exact⟨d,rfl⟩
  have hd:=g2 0 _ _ rfl rfl
  cases hd with
  |@ptr _ _ lb hb=>
  obtain⟨ccs,ty,fz,hw,_,_,hcs,_⟩:=r.br box _ lb g hb;obtain⟨c,hc,hvc,_⟩:=hcs 0 (aP m) rfl
  cases hvc with
  |@map _ lm hm=>
  obtain⟨D,nn,own,hp,hsz⟩:=aHd r hm x h1 h2;have hcell:w.cell? ⟨lb.blk,lb.off+0,none⟩=some (.map (some lm.blk)):=by
    unfold World.cell?;simp only[hw,Option.isSome_none,pB,if_false];exact hc
  have hbl:lb.blk<w.heap.size:=(Array.getElem?_eq_some_iff.1 hw).1;have hseq:SeqGives Fence.wide 2 prog 85 #[.pointer (some ⟨lb.blk,lb.off+0,none⟩)] encStr (fun ss=>ss.Perm (strKeys D)) (Maps.size D) w:=
    AnyZ.keysAt_gives (ρ:=Tryz.keys85_ren) {Tryz.keys85 with} Fence.wide _ trivial rfl (by omega) lb.blk (lb.off+0) lm.blk nn D w hbl hcell own
  have hmax:Maps.size D≤maxLen:=by rw[hsz];exact kG h1 (by decide)
  have hby:Maps.size D*16≤140737488355328:=by rw[hsz];omega
  have hcall:=AnyZ.sorted_in Tryz.sorted65 Fence.wide 5 trivial trivial trivial trivial rfl (by omega) (aKm _) (enters_of Tryz.func84 (by kernel_rfl) rfl) 85 #[.pointer (some ⟨lb.blk,lb.off+0,none⟩)] trivial (enters_of Tryz.func85 (by kernel_rfl) rfl) _ _ hmax hby _ hseq;refine(callsIn_wide.1 hcall).mono ?_;rintro e w' ⟨v,ss,rfl,hS,hrow,hnil,hB⟩;have hss:ss.mergeSort (fun x y=>decide (x≤y))=ks:=by
    rw[hks];exact mergeSort_of_perm (hS.trans hp)
  rw[hss]at hrow;have hln:ss.length=ks.length:=by rw[←hss,List.length_mergeSort]
  unfold iP at hf⊢;by_cases hk:ks=[]
  ·rw[kB hk];rw[hk]at hln;have:ss=[]:=List.eq_nil_of_length_eq_zero hln;rw[hnil.2 this];exact⟨_,μ,rfl,Step.ofBelow r hB,.sliceNil⟩
  ·rw[kA hk]at hf⊢;have hn:ks.length≠0:=fun e=>hk (List.eq_nil_of_length_eq_zero e);rw[hln]at hrow;obtain⟨μ',st,hv⟩:=aKn (size:=1) r (hf h.next (kF _) (Nat.lt_succ_self _)) hB hrow hn (cs:=ks.map str) (by simp) fun i a b ha hb=>by
     rw[kX]at ha hb;obtain⟨k,hk,rfl⟩:=Option.map_eq_some_iff.1 ha;rw[hk]at hb;obtain rfl:=kP hb;exact⟨.string _,rfl⟩
   exact⟨_,μ',rfl,st,hv⟩
end Go.Proofs.YtpanfoafajepcaaGreatDoor.Ra
