import Derived.Test.YtpanfoafajepcaaGreatDoorGa
import Derived.Laws.Strings
import Derived.Laws.StructEq
import Derived.Laws.Small
import Derived.RangeFuncLeaves
import Derived.RangeFuncRecord
import Derived.OrdersIn
import Derived.LoopNIn
namespace Go.AM
open Go
variable (P:Program){NG:Nat}{μ:Mu}{h:H}{w:World}
theorem aBt {NG:Nat}(r:RH NG μ h w){h':H}{t t2 e:TypeId}{n:Nat}(hu:P.underlying t=some (.slice e))(hn:szP P e=some n)
 {d x v cd cx:Value} (hv:A.yQ n d x h=some (v,h')) (rd:VR μ d cd) (rx:VR μ x cx) (ty:TypeId):
 ∃cv w',(Builtin.copy_ #[t,t2] ty #[cd,cx]).run P w=.ok cv w'∧Step NG μ h w μ h' w'∧VR μ v cv:=by
 unfold A.yQ at hv;split at hv
 ·simp at hv
 ·rename_i new hnew;obtain⟨ds,hds,hlr,hcl,hnl⟩:=jL P r hnew rx;have hdl:ds.length=A.zD x*n:=by rw[←hlr.1];exact hnl
  have hlx:=oN P (w:=w) hnew rx;have htake:∀k,k≤A.zD x→(Builtin.firstCells n k cx).run P w=.ok ⟨ds.take (k*n)⟩ w:=by
   intro k hk;have hkn:k*n≤A.zD x*n:=Nat.mul_le_mul_right n hk;unfold A.elems at hnew;split at hnew
   ·have:=rx.nilslice_inv;subst this;simp only[A.zD,Nat.zero_mul]at hdl;have:=List.length_eq_zero_iff.1 hdl;subst this;simp[Builtin.firstCells]
   ·rename_i id off m c;obtain⟨l,a',c',hl,rfl,hcap,hle,ha⟩:=rx.slice_inv;by_cases hk0:k=0
    ·subst hk0;simp[Builtin.firstCells,loadCells,loadCellsFrom]
    ·simp only[A.zD]at hk hkn hdl;have hm0:Nat.beq m 0=false:=by
      cases hb:Nat.beq m 0 with
      |false=>rfl
      |true=>have:=beq_iff.1 hb;omega
     rw[hm0]at hnew;simp only[cond_false]at hnew;have hc0:c'≠0:=by unfold dD at hcap;split at hcap<;>omega
     split at hnew
     ·rename_i cs own hg;obtain⟨hc,hnew⟩:=aA hnew;have hc:=ble_iff.1 hc;obtain⟨ccs,cty,fz,h1,h2,h3,h4,h5,_⟩:=r.cells hg hl;have e0:=hds w rfl;simp only[A.zD,Builtin.firstCells,ha hc0]at e0⊢;rw[gS P w l.blk (l.off+off) ccs cty fz h1 (m*n) (by omega)]at e0;rw[gS P w l.blk (l.off+off) ccs cty fz h1 (k*n) (by omega)];simp only[Result.ok.injEq,Array.mk.injEq,and_true]at e0;rw[←e0,List.take_take,Nat.min_eq_left hkn]
     ·simp at hnew
   ·rename_i s;obtain⟨hc,hnew⟩:=aA hnew;have hc:=beq_iff.1 hc;subst hc;rw[rx.string_inv]at hds⊢;have e0:=hds w rfl;simp only[A.zD,Builtin.firstCells,kS,Result.ok.injEq,and_true]at e0⊢;simp only[A.zD]at hk;apply Array.ext';have e1:=congrArg Array.toList e0;simp at e1⊢;rw[←e1,←List.map_take]
   ·simp at hnew
  split at hv
  ·simp only[kE,kK]at hv;obtain⟨rfl,rfl⟩:=hv;rw[rd.nilslice_inv];refine⟨.int .i64 0,w,?_,Step.refl r,.int .i64 0⟩;have:=htake 0 (pR _);simp only[Builtin.copy_,pH,kY,kZ,kR,run_underlying hu,kQ,bD P hn,hlx,Nat.min_def,Nat.le_zero_eq];rw[show(if A.zD x=0 then A.zD x else 0)=0 by split<;>omega,this]
   simp[goInt]
  ·rename_i id off len c;obtain⟨l,a',c',hl,rfl,hcap,hle,ha⟩:=rd.slice_inv;have hmin:Nat.min (A.zD x) len≤A.zD x:=Nat.min_le_left _ _;have hmin2:Nat.min (A.zD x) len≤len:=Nat.min_le_right _ _;have htk:=htake _ hmin;have hrun:∀w',(storeCells a' (ds.take (Nat.min (A.zD x) len*n))).run P w=.ok () w'→(Builtin.copy_ #[t,t2] ty #[.slice (some a') len c',cx]).run P w=.ok (goInt (Nat.min (A.zD x) len:Nat)) w':=by
    intro w' hst;simp only[Builtin.copy_,pH,kY,kZ,kR,run_underlying hu,kQ,bD P hn,hlx,htk,hst,kS]
   cases h0:Nat.beq (Nat.min (A.zD x) len) 0 with
   |true=>
    rw[h0]at hv;simp only[cond_true,kE,kK]at hv;obtain⟨rfl,rfl⟩:=hv;have h0:=beq_iff.1 h0;refine⟨_,w,hrun w (by rw[h0];simp[storeCells]),Step.refl r,?_⟩;rw[h0];exact .int .i64 0
   |false=>
    rw[h0]at hv;simp only[cond_false]at hv;have h0:Nat.min (A.zD x) len≠0:=fun e=>by rw[e]at h0;simp at h0
    have hc0:c'≠0:=by unfold dD at hcap;split at hcap<;>omega
    split at hv
    ·rename_i cs es hg;obtain⟨hfit,hv⟩:=aA hv;simp only[kE,kK]at hv;obtain⟨rfl,rfl⟩:=hv;have hfit:=ble_iff.1 hfit;obtain⟨ccs,cty,fz,h1,h2,h3,h4,h5,h6,h7⟩:=r.cells hg hl;have hkn:Nat.min (A.zD x) len*n≤A.zD x*n:=Nat.mul_le_mul_right n hmin;have htl:(ds.take (Nat.min (A.zD x) len*n)).length=Nat.min (A.zD x) len*n:=by simp[hdl]
     have htl2:(new.take (Nat.min (A.zD x) len*n)).length=Nat.min (A.zD x) len*n:=by simp[hnl]
     have hlr':=hlr.take (Nat.min (A.zD x) len*n);have hcl':∀a∈new.take (Nat.min (A.zD x) len*n),cellish a=true:=fun a ha=>hcl a (List.mem_of_mem_take ha);generalize hT:ds.take (Nat.min (A.zD x) len*n)=T at*;generalize hN:new.take (Nat.min (A.zD x) len*n)=N at*;have hst:=fI P T w l.blk (l.off+off) 0 ccs cty fz h1 (by omega) (by rw[h2];exact h6 rfl) (hlr'.cell_all hcl');refine⟨_,_,hrun _ (by rw[ha hc0];simpa using hst),Step.write r hg rfl rfl hl ?_,.int .i64 _⟩;have hsl:(splice ccs.toList (l.off+off) T).length=ccs.size:=by rw[aT _ _ _ (by simp;omega)];simp
     have hsl2:(splice cs off N).length=cs.length:=aT _ _ _ (by omega);refine BR.mk_cells (bA (BR.lt (r.br _ _ _ hg hl))) (by omega) (by omega) ?_ ?_ h6 h7
     ·have e:((splice ccs.toList (l.off+off) T).drop l.off).take cs.length=splice ((ccs.toList.drop l.off).take cs.length) off T:=by
       apply List.ext_getElem?;intro i;rw[pX];by_cases hi:i<cs.length
       ·rw[kB hi,pY,bZ _ _ _ (by simp;omega),bZ _ _ _ (by simp;omega)];by_cases h8:i<off
        ·rw[kB (by omega),kB h8,pX,kB hi,pY]
        ·rw[kA (by omega),kA h8];by_cases h9:i<off+T.length
         ·rw[kB (by omega),kB h9];congr 1;omega
         ·rw[kA (by omega),kA h9,pX,kB hi,pY]
       ·rw[kA hi,List.getElem?_eq_none];rw[aT _ _ _ (by simp;omega)];simp;omega
      rw[hsl2,e];exact h4.splice hlr' off
     ·intro a ha;unfold splice at ha;simp only[List.mem_append]at ha;rcases ha with(ha|ha)|ha
      ·exact h5 a (List.mem_of_mem_take ha)
      ·exact hcl' a ha
      ·exact h5 a (List.mem_of_mem_drop ha)
    ·simp at hv
  ·simp at hv
theorem xC {NG:Nat}(r:RH NG μ h w){h':H}{t e:TypeId}{n:Nat}{z:Value}{zs:List Value}(hu:P.underlying t=some (.slice e))(hz:fG P e=some z)(hzs:aN z=some zs)
 (hzp:bS zs=true) (hzl:zs.length=n) (hn0:0<n) {x cx:Value} (hv:A.clear n zs x h=some h') (rx:VR μ x cx) (ty:TypeId):
 ∃w',(Builtin.clear_ #[t] ty #[cx]).run P w=.ok (.tuple #[]) w'∧Step NG μ h w μ h' w':=by
 unfold A.clear at hv;split at hv
 ·simp only[kE]at hv;subst hv;rw[rx.nilslice_inv];refine⟨w,?_,Step.refl r⟩;simp[Builtin.clear_,run_underlying hu]
 ·rename_i id off len c;obtain⟨l,a',c',hl,rfl,hcap,hle,ha⟩:=rx.slice_inv
  cases h0:Nat.beq len 0 with
  |true=>
   rw[h0]at hv;simp only[cond_true,kE]at hv;subst hv;have h0:=beq_iff.1 h0;subst h0;refine⟨w,?_,Step.refl r⟩;simp[Builtin.clear_,run_underlying hu]
  |false=>
   rw[h0]at hv;simp only[cond_false]at hv;have hne:len≠0:=fun e=>by rw[e]at h0;simp at h0
   have hc0:c'≠0:=by unfold dD at hcap;split at hcap<;>omega
   split at hv
   ·rename_i cs es hg;obtain⟨hfit,hv⟩:=aA hv;simp only[kE]at hv;subst hv;have hfit:=ble_iff.1 hfit;obtain⟨ccs,cty,fz,h1,h2,h3,h4,h5,h6,h7⟩:=r.cells hg hl;have hzm:=jE hzp;have hcells:=fF hzs;have e1:(Builtin.zeroCells z.cells len).toList=A.zeros zs len:=by
     rw[hcells];have e2:=mV zs (by omega) len;simp only[Builtin.zeroCells,Array.toList_map,Array.toList_range];exact e2
    have hzlen:(A.zeros zs len).length=len*n:=by rw[gZ,hzl]
    have hcl:∀a∈A.zeros zs len,cellish a=true:=fun a ha=>(hzm a (eP zs len a ha)).2;have hlr:LR μ (A.zeros zs len) (A.zeros zs len):=LR.of_plain_mem μ (fun a ha=>(hzm a (eP zs len a ha)).1);generalize hT:A.zeros zs len=T at*;have hst:=fI P T w l.blk (l.off+off) 0 ccs cty fz h1 (by omega) (by rw[h2];exact h6 rfl) hcl;refine⟨_,?_,Step.write r hg rfl rfl hl (o:=.cells ⟨splice ccs.toList (l.off+off) T⟩ cty fz) ?_⟩
    ·simp only[Builtin.clear_,pH,kY,kR,run_underlying hu,kQ];rw[ha hc0];have hst':(storeCells ⟨l.blk,l.off+off,none⟩ T).run P w=.ok () (setObj w l.blk (.cells ⟨splice ccs.toList (l.off+off) T⟩ cty fz)):=by simpa using hst
     cases len with
     |zero=>exact absurd rfl hne
     |succ m=>simp only[kR,eH P hz,kQ,e1,hst',kS]
    ·have hsl:(splice ccs.toList (l.off+off) T).length=ccs.size:=by rw[aT _ _ _ (by simp;omega)];simp
     have hsl2:(splice cs off T).length=cs.length:=aT _ _ _ (by omega);refine BR.mk_cells (bA (BR.lt (r.br _ _ _ hg hl))) (by omega) (by omega) ?_ ?_ h6 h7
     ·have e:((splice ccs.toList (l.off+off) T).drop l.off).take cs.length=splice ((ccs.toList.drop l.off).take cs.length) off T:=by
       apply List.ext_getElem?;intro i;rw[pX];by_cases hi:i<cs.length
       ·rw[kB hi,pY,bZ _ _ _ (by simp;omega),bZ _ _ _ (by simp;omega)];by_cases h8:i<off
        ·rw[kB (by omega),kB h8,pX,kB hi,pY]
        ·rw[kA (by omega),kA h8];by_cases h9:i<off+T.length
         ·rw[kB (by omega),kB h9];congr 1;omega
         ·rw[kA (by omega),kA h9,pX,kB hi,pY]
       ·rw[kA hi,List.getElem?_eq_none];rw[aT _ _ _ (by simp;omega)];simp;omega
      rw[hsl2,e];exact h4.splice hlr off
     ·intro a ha;unfold splice at ha;simp only[List.mem_append]at ha;rcases ha with(ha|ha)|ha
      ·exact h5 a (List.mem_of_mem_take ha)
      ·exact hcl a ha
      ·exact h5 a (List.mem_of_mem_drop ha)
   ·simp at hv
 ·simp at hv
theorem aBj {t e:TypeId}(hu:P.underlying t=some (.slice e)){x v cx:Value}(hv:A.zH x=some v)(rx:VR μ x cx)(ty:TypeId):
 (Builtin.len_ #[t] ty #[cx]).run P w=.ok v w∧VR μ v v:=by
 unfold A.zH at hv;split at hv
 ·rename_i a n c;simp only[kE]at hv;subst hv;refine⟨?_,.int .i64 n⟩;have:∃a' c',cx=.slice a' n c':=by
   cases rx with
   |sliceNil=>exact⟨_,_,rfl⟩
   |slice=>exact⟨_,_,rfl⟩
  obtain⟨a',c',rfl⟩:=this;simp[Builtin.len_,run_underlying hu,goInt]
 ·simp at hv
theorem uU {t:TypeId}(hu:P.underlying t=some .string){x v cx:Value}(hv:A.zG x=some v)(rx:VR μ x cx)(ty:TypeId):
 (Builtin.len_ #[t] ty #[cx]).run P w=.ok v w∧VR μ v v:=by
 unfold A.zG at hv;split at hv
 ·rename_i s;simp only[kE]at hv;subst hv;rw[rx.string_inv];exact⟨by simp[Builtin.len_,run_underlying hu,goInt],.int .i64 s.size⟩
 ·simp at hv
theorem aBk {NG:Nat}(r:RH NG μ h w){t k e:TypeId}(hu:P.underlying t=some (.map k e)){x v cx:Value}(hv:A.lenM x h=some v)(rx:VR μ x cx)(ty:TypeId):
 (Builtin.len_ #[t] ty #[cx]).run P w=.ok v w∧VR μ v v:=by
 unfold A.lenM at hv;split at hv
 ·simp only[kE]at hv;subst hv;have:cx=.map none:=by cases rx;rfl
  subst this;exact⟨by simp[Builtin.len_,run_underlying hu,goInt],.int .i64 0⟩
 ·rename_i id;have:∃l,μ id=some l∧cx=.map (some l.blk):=by cases rx with|map hl=>exact⟨_,hl,rfl⟩
  obtain⟨l,hl,rfl⟩:=this;split at hv
  ·rename_i es clock hg;simp only[kE]at hv;subst hv;obtain⟨ces,h1,h2,_⟩:=r.br _ _ _ hg hl;refine⟨?_,.int .i64 _⟩;have hgo:(getObj l.blk).run P w=.ok (.map ces clock) w:=by simp only[getObj,Sem.run,h1]
   simp only[Builtin.len_,pH,kY,kR,run_underlying hu,kQ,hgo,kS,goInt,h2]
  ·simp at hv
 ·simp at hv
theorem oD (f:Value→ByteArray→Sem (ForInStep ByteArray))(hf:∀n s,f (.int .u8 n) s=pure (.yield (s.push (UInt8.ofNat n.toNat)))):
 ∀(vs:List Value) (l:List UInt8) (acc:ByteArray) (w:World),A.zV vs=some l→
 (forIn (m:=Sem) vs acc f).run P w=.ok (⟨⟨acc.data.toList++l⟩⟩:ByteArray) w
 |[],l,acc,w,h=>by
  simp only[A.zV,kE]at h;subst h;simp[forIn,kS]
 |v::vs,l,acc,w,h=>by
  cases v with
  |int k n=>
   cases k with
   |u8=>
    simp only[A.zV]at h;obtain⟨l',hl',rfl⟩:=Option.map_eq_some_iff.1 h;have ih:=oD f hf vs l' (acc.push (UInt8.ofNat n.toNat)) w hl';simp only[List.forIn_cons,hf,kR,kS,kQ];rw[ih];congr 3;simp[ByteArray.push]
   |_=>simp[A.zV]at h
  |_=>simp[A.zV]at h
theorem aEj {NG:Nat}(r:RH NG μ h w){src dst e:TypeId}(hu:P.underlying src=some (.slice e))(hd:P.underlying dst=some .string)(he:P.underlying e=some (.int .u8))
 {x v cx:Value} (hv:A.b2s x h=some v) (rx:VR μ x cx):∃cv,(convert src dst cx).run P w=.ok cv w∧VR μ v cv:=by
 unfold A.b2s at hv;split at hv
 ·simp only[kE]at hv;subst hv;rw[rx.nilslice_inv];refine⟨.string .empty,?_,.string _⟩;simp only[convert,kR,run_underlying hu,run_underlying hd,kQ,run_underlying he,Conv.bytesToString,kS]
 ·rename_i a n c;split at hv
  ·rename_i vs hvs;obtain⟨l,hl,rfl⟩:=Option.map_eq_some_iff.1 hv;obtain⟨ds,hds,hlr,hcl,hnl⟩:=jL P r hvs rx;have:∃a' c',cx=.slice (some a') n c':=by cases rx with|slice=>exact⟨_,_,rfl⟩
   obtain⟨a',c',rfl⟩:=this;have hpl:cS vs=true:=by
    clear hds hlr hcl hnl hvs hv
    induction vs generalizing l with
    |nil=>rfl
    |cons v vs ih=>
     cases v with
     |int k m=>
      cases k with
      |u8=>
       simp only[A.zV]at hl;obtain⟨l',hl',_⟩:=Option.map_eq_some_iff.1 hl;simp only[cS,aJ,Bool.true_and];exact ih l' hl'
      |_=>simp[A.zV]at hl
     |_=>simp[A.zV]at hl
   have hdv:ds=vs:=by
    apply List.ext_getElem?;intro i
    cases hi:vs[i]? with
    |none=>rw[List.getElem?_eq_none_iff]at hi⊢;rw[←hlr.1];exact hi
    |some b=>
     obtain⟨b',hb',hr'⟩:=hlr.get hi;rw[hb',hr'.eq_of_plain (cY vs hpl i b hi)]
   subst hdv;have hload:=hds w rfl;simp only[A.zD,Builtin.firstCells,Nat.mul_one]at hload;refine⟨_,?_,.string _⟩;simp only[convert,kR,run_underlying hu,run_underlying hd,kQ,run_underlying he,Conv.bytesToString,hload];rw[←Array.forIn_toList,oD P _ (fun n s=>rfl) ds l .empty w hl];simp
  ·simp at hv
 ·simp at hv
theorem aDu {NG:Nat}(r:RH NG μ h w)(hfr:μ h.next=none){src dst e:TypeId}(hu:P.underlying src=some .string)(hd:P.underlying dst=some (.slice e))(he:P.underlying e=some (.int .u8))
 {x v cx:Value} {h':H} (hv:A.s2b x h=some (v,h')) (rx:VR μ x cx):∃cv w' μ',(convert src dst cx).run P w=.ok cv w'∧Step NG μ h w μ' h' w'∧VR μ' v cv:=by
 unfold A.s2b at hv;split at hv
 ·rename_i s;obtain⟨hc,hv⟩:=aA hv;simp only[kE,kK]at hv;obtain⟨rfl,rfl⟩:=hv;have hc:=ble_iff.1 hc;rw[rx.string_inv];have hq:∃q,q=(Question.appendCap s.size 0 e).cut (w.tape w.drawn (.appendCap s.size 0 e)):=⟨_,rfl⟩;obtain⟨q,hq⟩:=hq;have hqle:s.size≤q:=by rw[hq];simp only[Question.cut];omega
  have hsz:s.data.size=s.size:=rfl;let ds:List Value:=(s.data.toList.map fun b=>Value.int .u8 b.toNat)++List.replicate (q-s.size) (.int .u8 0);have hdl:ds.length=q:=by simp[ds,hsz];omega
  let w':World:=(w.drew.alloc (.cells ⟨ds⟩ e)).freeze ⟨w.heap.size,q,none⟩ 1;have hw':w'.heap=w.heap.push (.cells ⟨ds⟩ e (q,q+1)):=by
   simp only[w',World.freeze,World.alloc,World.drew];rw[kA (by omega)];apply Array.ext_getElem?;intro i;rw[Array.getElem?_modify,Array.getElem?_push,Array.getElem?_push];by_cases hi:w.heap.size=i
   ·subst hi;simp
   ·rw[kA hi,kA (Ne.symm hi),kA (Ne.symm hi)]
  refine⟨.slice (some ⟨w.heap.size,0,none⟩) s.size q,w',_,?_,Step.push (l:=⟨w.heap.size,0,1,q⟩) (o:=.cells ⟨ds⟩ e (q,q+1)) r hfr rfl hw' ?_ ?_ ?_ rfl ?_,?_⟩
  ·have hcells:(s.data.map (fun b=>Value.int .u8 b.toNat)++Array.replicate (q-s.size) (.int .u8 0))=(⟨ds⟩:Array Value):=by
    apply Array.ext';simp[ds]
   simp only[convert,kR,run_underlying hu,run_underlying hd,kQ,run_underlying he,Conv.stringToBytes,run_choose,Question.forced,pB,if_false,←hq,World.drew_eq,newRow,run_newObj,kS,hcells,markStringish,run_shape];have hsh:({w.drew with heap:=w.drew.heap.push (.cells ⟨ds⟩ e)}:World).shape? w.drew.heap.size=some (e,q):=by
    show(match(w.heap.push (.cells ⟨ds⟩ e))[w.heap.size]? with|some (.cells c elem _)=>some (elem,c.size)|_=>none)=_
    rw[show(w.heap.push (.cells ⟨ds⟩ e))[w.heap.size]?=some (.cells ⟨ds⟩ e)from by simp];simp[hdl]
   rw[hsh];simp only[run_freeze,kQ];rfl
  ·simp only[w',World.freeze];rfl
  ·simp only[w',World.freeze];rfl
  ·simp only[w',World.freeze];rfl
  ·refine BR.mk_cells (ds:=ds) (ty:=e) (fz:=(q,q+1)) (by rw[hw'];simp) hdl (by simp[hsz];omega) ?_ (by simp[cellish]) (fun _ i hi=>by simp only at hi⊢;omega) (fun _ e=>by simpa using e);have:(ds.drop 0).take (s.data.toList.map fun b=>Value.int .u8 b.toNat).length=s.data.toList.map fun b=>Value.int .u8 b.toNat:=by
    simp[ds]
   rw[this];exact LR.of_plain_mem _ (by simp[aJ])
  ·refine .slice (l:=⟨w.heap.size,0,1,q⟩) (Mu.set_same _ _ _) ?_ (by omega) (fun _=>rfl);unfold dD;rw[kA (by omega)];simp only;exact⟨by omega,by omega⟩
 ·simp at hv
theorem wZ {t:TypeId}{a b ca cb:Value}{x:Bool}(he:A.yG P t a b=some x)(ra:VR μ a ca)(rb:VR μ b cb)(w:World):
 (Op.equal t ca cb).run P w=.ok x w:=by
 suffices key:∀d,(Op.equalIn (d+1) t ca cb).run P w=.ok x w from key 9999
 intro d;unfold A.yG at he;split at he
 ·rename_i e p q hu
  cases ra with
  |ptrNil=>
   simp only[Option.isNone_none,cond_true,kE]at he
   cases rb with
   |ptrNil=>subst he;simp[Op.equalIn,run_underlying hu]
   |ptr hl=>subst he;simp[Op.equalIn,run_underlying hu]
  |ptr hl=>
   simp only[Option.isNone_some,cond_false]at he
   cases rb with
   |ptrNil=>simp only[Option.isNone_none,cond_true,kE]at he;subst he;simp[Op.equalIn,run_underlying hu]
   |ptr hl=>simp at he
 ·rename_i e p l1 c1 q l2 c2 hu
  cases ra with
  |sliceNil=>
   simp only[Option.isNone_none,cond_true,kE]at he
   cases rb with
   |sliceNil=>subst he;simp[Op.equalIn,run_underlying hu]
   |slice hl=>subst he;simp[Op.equalIn,run_underlying hu]
  |slice hl=>
   simp only[Option.isNone_some,cond_false]at he
   cases rb with
   |sliceNil=>simp only[Option.isNone_none,cond_true,kE]at he;subst he;simp[Op.equalIn,run_underlying hu]
   |slice hl=>simp at he
 ·rename_i k e p q hu
  cases ra with
  |mapNil=>
   simp only[Option.isNone_none,cond_true,kE]at he
   cases rb with
   |mapNil=>subst he;simp[Op.equalIn,run_underlying hu]
   |map hl=>subst he;simp[Op.equalIn,run_underlying hu]
  |map hl=>
   simp only[Option.isNone_some,cond_false]at he
   cases rb with
   |mapNil=>simp only[Option.isNone_none,cond_true,kE]at he;subst he;simp[Op.equalIn,run_underlying hu]
   |map hl=>simp at he
 ·rename_i hu;simp only[kE]at he;subst he;cases rb
  cases ra with
  |func=>simp[Op.equalIn,run_underlying hu]
  |yield=>simp[Op.equalIn,run_underlying hu]
  |methOf=>simp[Op.equalIn,run_underlying hu]
 ·rename_i hu;simp only[kE]at he;subst he;cases ra
  cases rb with
  |func=>simp[Op.equalIn,run_underlying hu]
  |yield=>simp[Op.equalIn,run_underlying hu]
  |methOf=>simp[Op.equalIn,run_underlying hu]
 ·simp at he
end Go.AM

namespace Go.AM
open Go
variable (P:Program){NG:Nat}{μ:Mu}{h:H}{w:World}
theorem aKy {α β:Type}(P:Program):∀(s:Sem α) (f:α→Sem β) (b:β),ev P (s>>=f)=some b→∃a,ev P s=some a∧ev P (f a)=some b:=by
 intro s
 induction s with
 |pure a=>intro f b h;exact⟨a,rfl,h⟩
 |program k ih=>intro f b h;exact ih P f b h
 |mark m k ih=>intro f b h;exact ih f b h
 |_=>intro f b h;simp[ev,Bind.bind,Sem.bind]at h
theorem jK {op:BinOp}{t:TypeId}{x y:Operand}{a b:Value}{w:World}(hg:(eqGuard op t (.tmp 0) (.tmp 0) a b).run P w=.ok () w):
 (eqGuard op t x y a b).run P w=.ok () w:=by
 by_cases hni:a=.nilIface∧b=.nilIface
 ·obtain⟨rfl,rfl⟩:=hni;cases op<;>cases x<;>cases y<;>first|exact hg|rfl
 ·cases a<;>cases b<;>first|exact hg|exact absurd ⟨rfl,rfl⟩ hni
theorem vB {op:BinOp}{t:TypeId}{x y:Operand}{a b v ca cb:Value}(hv:A.yP P op t a b=some v)(ra:VR μ a ca)(rb:VR μ b cb):
 ∃cv,(do eqGuard op t x y ca cb;binOp op t ca cb:Sem Value).run P w=.ok cv w∧VR μ v cv:=by
 unfold A.yP at hv
 cases hp:(aJ a&&aJ b)with
 |true=>
  rw[hp]at hv;simp only[cond_true]at hv;simp only[kO]at hp;rw[ra.eq_of_plain hp.1,rb.eq_of_plain hp.2];split at hv
  ·rename_i u hu;obtain⟨hpu,hv⟩:=aA hv;simp only[kE]at hv;subst hv;obtain⟨_,e1,e2⟩:=aKy P _ _ _ hu;have r1:=jK P (x:=x) (y:=y) (sX P _ _ e1 w);have r2:=sX P _ _ e2 w;exact⟨u,by simp only[kR,r1,kQ,r2],VR.of_plain μ u hpu⟩
  ·simp at hv
 |false=>
  rw[hp]at hv;simp only[cond_false]at hv;have guard0:∀(x:Bool),A.yG P t a b=some x→(eqGuard op t (.tmp 0) (.tmp 0) ca cb).run P w=.ok () w:=by
   intro x he;unfold A.yG at he;split at he
   ·cases ra<;>cases rb<;>cases op<;>rfl
   ·cases ra<;>cases rb<;>cases op<;>rfl
   ·cases ra<;>cases rb<;>cases op<;>rfl
   ·cases ra<;>cases rb<;>cases op<;>rfl
   ·cases ra<;>cases rb<;>cases op<;>rfl
   ·simp at he
  have bin0:∀(x:Bool),A.yG P t a b=some x→(binOp .eql t ca cb).run P w=.ok (.bool x) w∧(binOp .neq t ca cb).run P w=.ok (.bool (!x)) w:=by
   intro x he;have hq:=wZ P he ra rb w;have e1:binOp .eql t ca cb=(do pure (.bool (←Op.equal t ca cb)):Sem Value)∧binOp .neq t ca cb=(do pure (.bool (!(←Op.equal t ca cb))):Sem Value):=by
    unfold A.yG at he;split at he
    ·cases ra<;>cases rb<;>exact⟨rfl,rfl⟩
    ·cases ra<;>cases rb<;>exact⟨rfl,rfl⟩
    ·cases ra<;>cases rb<;>exact⟨rfl,rfl⟩
    ·cases ra<;>cases rb<;>exact⟨rfl,rfl⟩
    ·cases ra<;>cases rb<;>exact⟨rfl,rfl⟩
    ·simp at he
   rw[e1.1,e1.2];simp[hq]
  cases op with
  |eql=>
   simp only at hv;obtain⟨x,he,rfl⟩:=Option.map_eq_some_iff.1 hv;exact⟨.bool x,by simp only[kR,jK P (guard0 x he),kQ,(bin0 x he).1],.bool x⟩
  |neq=>
   simp only at hv;obtain⟨x,he,rfl⟩:=Option.map_eq_some_iff.1 hv;exact⟨.bool (!x),by simp only[kR,jK P (guard0 x he),kQ,(bin0 x he).2],.bool (!x)⟩
  |_=>simp at hv
theorem aBs {rec:TypeId→Value→Value→Option Bool}{d:Nat}(hrec:∀t a b r,aJ a=true→aJ b=true→rec t a b=some r→∀w,(Op.equalIn d t a b).run P w=.ok r w){xs ys:List Value}
 (hx:aJ (.agg ⟨xs⟩)=true) (hy:aJ (.agg ⟨ys⟩)=true):∀(fs:List Field) (r:Bool),A.eqFs P rec (.agg ⟨xs⟩) (.agg ⟨ys⟩) fs=some r→∀w,(Op.eqFields d ⟨xs⟩ ⟨ys⟩ fs).run P w=.ok r w:=by
 have hx':bS xs=true:=by simpa[aJ,lV]using hx
 have hy':bS ys=true:=by simpa[aJ,lV]using hy
 have self:∀l:List Value,bS l=true→LR (fun _=>none) l l∧∀a∈l,cellish a=true:=fun l hl=>
  ⟨⟨rfl,fun i a b ha hb=>iJ _ l hl i a b ha hb⟩,fun a ha=>by
   obtain⟨i,hi⟩:=List.mem_iff_getElem?.1 ha;exact(cC l hl i a hi).2⟩
 have plainPart:∀(l:List Value),bS l=true→∀g n off v,A.part g n off (.agg ⟨l⟩)=some v→aJ v=true:=by
  intro l hl g n off v hv;simp only[A.part]at hv
  cases g with
  |false=>exact(cC l hl _ _ hv).1
  |true=>
   simp only[cond_true]at hv;obtain⟨_,hv⟩:=aA hv;simp only[kE]at hv;subst hv;simp only[aJ,lV];have:∀(m:List Value),(∀a∈m,aJ a=true∧cellish a=true)→bS m=true:=by
    intro m;induction m with
    |nil=>intro _;rfl
    |cons a m ih=>intro h;simp only[bS,kO];exact⟨h a (by simp),ih fun b hb=>h b (by simp[hb])⟩
   refine this _ fun a ha=>?_;have ha:=List.mem_of_mem_drop (List.mem_of_mem_take ha);obtain⟨i,hi⟩:=List.mem_iff_getElem?.1 ha;exact cC l hl i a hi
 intro fs
 induction fs with
 |nil=>intro r h w;simp only[A.eqFs,kE]at h;subst h;rfl
 |cons f fs ih=>
  intro r h w;simp only[A.eqFs]at h;simp only[Op.eqFields]
  cases hn:(f.name== "_")with
  |true=>
   rw[hn]at h;simp only[cond_true]at h;rw[kA (by simpa using hn)];exact ih r h w
  |false=>
   rw[hn]at h;simp only[cond_false]at h;rw[kB (by simpa using hn)];split at h
   ·rename_i g n hg hsz;split at h
    ·rename_i a b ha hb;obtain⟨ca,e1,v1⟩:=iI P (w:=w) hg hsz ha (self xs hx').1 (self xs hx').2;obtain⟨cb,e2,v2⟩:=iI P (w:=w) hg hsz hb (self ys hy').1 (self ys hy').2;have pa:=plainPart xs hx' _ _ _ _ ha;have pb:=plainPart ys hy' _ _ _ _ hb;have:=v1.eq_of_plain pa;subst this;have:=v2.eq_of_plain pb;subst this;split at h
     ·rename_i q hq;have e3:=hrec _ _ _ _ pa pb hq w;simp only[kR,e1,e2,e3,kQ]
      cases q with
      |true=>simp only[cond_true]at h;simpa using ih r h w
      |false=>simp only[cond_false,kE]at h;subst h;simp
     ·simp at h
    ·simp at h
   ·simp at h
theorem tT:∀(d D:Nat),d≤D→∀(t:TypeId) (a b:Value) (r:Bool),aJ a=true→aJ b=true→A.eqV P d t a b=some r→∀w,(Op.equalIn D t a b).run P w=.ok r w:=by
 intro d
 induction d with
 |zero=>intro D _ t a b r _ _ h;simp[A.eqV]at h
 |succ d ih=>
  intro D hD t a b r pa pb h w;obtain⟨D,rfl⟩:∃D',D=D'+1:=⟨D-1,by omega⟩;simp only[A.eqV]at h;split at h
  ·rename_i hu;split at h
   ·simp only[kE]at h;subst h;exact run_equalIn_bool' w D t _ _ hu
   ·simp at h
  ·rename_i hu;split at h
   ·obtain⟨hk,h2⟩:=aA h;clear h;replace hk:=eq_of_beq hk;subst hk;simp only[kE]at h2;subst h2;exact run_equalIn_int w D t _ _ _ _ hu
   ·simp at h
  ·rename_i hu;split at h
   ·simp only[kE]at h;subst h;have:=run_equalIn_string w D t ‹ByteArray› ‹ByteArray› hu;rw[run_equalIn_string w D t _ _ hu,Go.ByteArray.toList_eq,Go.ByteArray.toList_eq]
   ·simp at h
  ·rename_i fs hu;split at h
   ·rename_i x y;obtain⟨xs⟩:=x;obtain⟨ys⟩:=y
    cases hs:P.stoodInHeld t with
    |true=>rw[hs]at h;simp at h
    |false=>
     rw[hs]at h;simp only[cond_false]at h;have hf:P.fieldsOf t=fs:=by simp[Program.fieldsOf,hu]
     rw[run_equalIn_struct w D t _ _ (by rw[hf];exact hu) hs,hf];exact aBs P (fun t a b r p q hq w=>ih D (by omega) t a b r p q hq w) pa pb fs.toList r h w
   ·simp at h
  ·simp at h
theorem aEb {op:BinOp}{t:TypeId}{x y:Operand}{k j:IntKind}{a b:Int}:(eqGuard op t x y (.int k a) (.int j b)).run P w=.ok () w:=by
 cases op<;>rfl
theorem aEa {op:BinOp}{t:TypeId}{x y:Operand}{a b:ByteArray}:(eqGuard op t x y (.string a) (.string b)).run P w=.ok () w:=by
 cases op<;>rfl
theorem aEi {op:BinOp}{t:TypeId}{x y:Operand}{a b v ca cb:Value}(hv:A.zA P op t a b=some v)(ra:VR μ a ca)(rb:VR μ b cb):
 ∃cv,(do eqGuard op t x y ca cb;binOp op t ca cb:Sem Value).run P w=.ok cv w∧VR μ v cv:=by
 unfold A.zA at hv;split at hv
 ·rename_i x' y';unfold A.eqA at hv;obtain⟨hp,hv⟩:=aA hv;simp only[kO]at hp;rw[ra.eq_of_plain hp.1,rb.eq_of_plain hp.2]
  cases hg:P.eqGuardType P.depth t with
  |true=>rw[hg]at hv;simp at hv
  |false=>
   rw[hg]at hv;simp only[cond_false]at hv;simp only[kR,run_eqGuard_agg w _ _ _ _ _ _ hg,kQ];split at hv
   ·split at hv
    ·rename_i q hq;simp only[kE]at hv;subst hv;rw[run_eql_struct,tT P 20 10000 (by omega) t _ _ _ hp.1 hp.2 hq w];exact⟨_,rfl,.bool _⟩
    ·simp at hv
   ·split at hv
    ·rename_i q hq;simp only[kE]at hv;subst hv;rw[run_neq_struct,tT P 20 10000 (by omega) t _ _ _ hp.1 hp.2 hq w];exact⟨_,rfl,.bool _⟩
    ·simp at hv
   ·simp at hv
 ·rename_i x' y';have e1:=ra.bool_inv;have e2:=rb.bool_inv;subst e1;subst e2;have hg:(eqGuard op t x y (.bool x') (.bool y')).run P w=.ok () w:=by cases op<;>rfl
  simp only[kR,hg,kQ];split at hv
  ·split at hv
   ·rename_i hu;simp only[kE]at hv;subst hv;refine⟨_,?_,.bool _⟩;have:=run_equal_bool w t x' y' hu;simp only[binOp,kR,this,kQ];rfl
   ·simp at hv
  ·split at hv
   ·rename_i hu;simp only[kE]at hv;subst hv;refine⟨_,?_,.bool _⟩;have:=run_equal_bool w t x' y' hu;simp only[binOp,kR,this,kQ];rfl
   ·simp at hv
  ·simp at hv
 ·rename_i k m j n;have e1:=ra.int_inv;have e2:=rb.int_inv;subst e1;subst e2;simp only[kR,aEb P,kQ];have shift:∀u,A.shI op k m n=some u→(Op.shift op k m j n).run P w=.ok u w∧aJ u=true:=by
   intro u hu;unfold A.shI at hu;unfold Op.shift;by_cases hn:n<0
   ·simp[hn]at hu
   ·simp only[hn,decide_false,cond_false]at hu;simp only[hn,if_false];cases op<;>simp only[kE,reduceCtorEq]at hu<;>subst hu<;>exact⟨rfl,rfl⟩
  have norm:∀u,A.binI op k m n=some u→(op≠.shl)→(op≠.shr)→(binOp op t (.int k m) (.int k n)).run P w=.ok u w∧aJ u=true:=by
   intro u hu h1 h2;unfold A.binI at hu;cases op<;>simp only[kE,reduceCtorEq]at hu
   all_goals first|exact absurd rfl h1|exact absurd rfl h2|skip
   all_goals first
    |(subst hu;refine⟨?_,rfl⟩;simp only[binOp,ne_eq,not_true_eq_false,if_false,Op.intArith,Op.intBits,Op.intCmp];rfl)
    |skip
   all_goals
    by_cases hn:n=0
    ·subst hn;simp at hu
    ·have hn':(n==0)=false:=by simpa using hn
     rw[hn']at hu;simp only[cond_false,kE]at hu;subst hu;refine⟨?_,rfl⟩;simp only[binOp,ne_eq,not_true_eq_false,if_false,Op.intDiv,hn];rfl
  by_cases hs1:op=.shl
  ·subst hs1;obtain⟨q1,q2⟩:=shift v hv;exact⟨v,q1,VR.of_plain μ v q2⟩
  ·by_cases hs2:op=.shr
   ·subst hs2;obtain⟨q1,q2⟩:=shift v hv;exact⟨v,q1,VR.of_plain μ v q2⟩
   ·have hv':(bif k==j then A.binI op k m n else none)=some v:=by
     cases op<;>first|exact hv|exact absurd rfl hs1|exact absurd rfl hs2
    cases hkj:k==j with
    |false=>rw[hkj]at hv';simp at hv'
    |true=>
     rw[hkj]at hv';have hkj:=eq_of_beq hkj;subst hkj;obtain⟨q1,q2⟩:=norm v hv' hs1 hs2;exact⟨v,q1,VR.of_plain μ v q2⟩
 ·rename_i m n;have e1:=ra.string_inv;have e2:=rb.string_inv;subst e1;subst e2;simp only[kR,aEa P,kQ];have hb:binOp op t (.string m) (.string n)=Op.stringOp op m n:=by cases op<;>rfl
  rw[hb];have key:(Op.stringOp op m n).run P w=.ok v w∧aJ v=true:=by
   unfold A.binS at hv;unfold Op.stringOp;simp only[Go.ByteArray.toList_eq];cases op<;>simp only[kE,reduceCtorEq]at hv
   all_goals first
    |(subst hv;exact⟨rfl,rfl⟩)
    |skip
   obtain⟨hle,hv⟩:=aA hv;have hle:=ble_iff.1 hle;simp only[kE]at hv;subst hv;refine⟨?_,rfl⟩;have hmax:IntKind.i64.max=9223372036854775807:=by decide
   simp only[hmax];rw[kA (by omega)];have:(m++n:ByteArray)=⟨⟨m.data.toList++n.data.toList⟩⟩:=by
    apply fK;simp[ByteArray.data_append]
   rw[this];rfl
  exact⟨v,key.1,VR.of_plain μ v key.2⟩
 ·exact vB P hv ra rb
theorem aGu {op:UnOp}{a v ca:Value}(hv:A.un P op a=some v)(ra:VR μ a ca):∃cv,(Op.unary op ca).run P w=.ok cv w∧VR μ v cv:=by
 unfold A.un at hv;split at hv
 ·have e1:=ra.bool_inv;subst e1;simp only[kE]at hv;subst hv;exact⟨_,rfl,.bool _⟩
 obtain⟨hp,hv⟩:=aA hv;rw[ra.eq_of_plain hp];split at hv
 ·rename_i u hu;obtain⟨hpu,hv⟩:=aA hv;simp only[kE]at hv;subst hv;exact⟨u,sX P _ _ hu w,VR.of_plain μ u hpu⟩
 ·simp at hv
theorem aBu {s d:TypeId}{a v ca:Value}(hv:A.conv P s d a=some v)(ra:VR μ a ca):∃cv,(convert s d ca).run P w=.ok cv w∧VR μ v cv:=by
 unfold A.conv at hv;split at hv
 ·rename_i hs hd;have e1:=ra.int_inv;subst e1;simp only[kE]at hv;subst hv;refine⟨_,?_,.int _ _⟩;simp only[convert,kR,run_underlying hs,run_underlying hd,kQ];rfl
 obtain⟨hp,hv⟩:=aA hv;rw[ra.eq_of_plain hp];split at hv
 ·rename_i u hu;obtain⟨hpu,hv⟩:=aA hv;simp only[kE]at hv;subst hv;exact⟨u,sX P _ _ hu w,VR.of_plain μ u hpu⟩
 ·simp at hv
theorem LR.eq_of_plain {vs cs:List Value}(r:LR μ vs cs)(hp:cS vs=true):cs=vs:=by
 apply List.ext_getElem?;intro i
 cases hi:vs[i]? with
 |none=>rw[List.getElem?_eq_none_iff]at hi⊢;rw[←r.1];exact hi
 |some b=>
  obtain⟨b',hb',hr'⟩:=r.get hi;rw[hb',hr'.eq_of_plain (cY vs hp i b hi)]
theorem wL {b:Builtin}{argTypes:Array TypeId}{type:TypeId}{consts:Array Bool}{vs cs:List Value}{v:Value}(hv:A.zS P b argTypes type vs=some v)(r:LR μ vs cs):
 ∃cv,(builtin b argTypes type consts ⟨cs⟩).run P w=.ok (.value cv) w∧VR μ v cv:=by
 unfold A.zS at hv;obtain⟨hp,hv⟩:=aA hv;rw[r.eq_of_plain hp];split at hv
 ·rename_i u hu;obtain⟨hpu,hv⟩:=aA hv;simp only[kE]at hv;subst hv;refine⟨u,?_,VR.of_plain μ u hpu⟩;cases b<;>simp only at hu<;>first
   |(simp at hu;done)
   |(simp only[builtin,kR,sX P _ _ hu w,kQ,kS])
 ·simp at hv
end Go.AM

namespace Go.AM
open Go
variable {P:Program}{NG:Nat}{μ:Mu}{h:H}{w:World}
theorem aDd (a b:ByteArray):(a==b)=(a.data.toList==b.data.toList):=by
  cases a with|mk a=>cases b with|mk b=>
  show(a==b)=_;rw[Bool.eq_iff_iff,beq_iff_eq,beq_iff_eq];exact⟨fun e=>by rw[e],fun e=>Array.toList_inj.1 e⟩
theorem cZ {kt:TypeId}{k:Value}(hk:A.yB P kt k=true):∃d,P.underlying kt=some d∧((∃j,d=.int j∧∃n i,k=.int n i)∨(d=.string∧∃s,k=.string s)):=by
  unfold A.yB at hk;split at hk
  ·rename_i j a x hu;exact⟨_,hu,.inl ⟨_,rfl,_,_,rfl⟩⟩
  ·rename_i x hu;exact⟨_,hu,.inr ⟨rfl,_,rfl⟩⟩
  ·simp at hk
theorem aCx {kt:TypeId}{k:Value}{s:Bool}(ht:A.keyT P kt=some s)(hs:A.keyS s k=true):A.yB P kt k=true:=by
  unfold A.keyT at ht;unfold A.yB;split at ht
  ·rename_i j hu;simp only[kE]at ht;subst ht;cases k<;>simp_all [A.keyS]
  ·rename_i hu;simp only[kE]at ht;subst ht;cases k<;>simp_all [A.keyS]
  ·simp at ht
theorem wS {kt:TypeId}{k e:Value}(hk:A.yB P kt k=true){b:Bool}(he:A.yD k e=some b):
    ∃d,P.underlying kt=some d∧Instr.sameNow d k e=some b∧(b=true→k=e):=by
  obtain⟨d,hu,h⟩:=cZ hk;refine⟨d,hu,?_⟩;rcases h with⟨j,rfl,n,i,rfl⟩|⟨rfl,s,rfl⟩
  ·cases e with
   |int m z=>
     simp only[A.yD]at he;obtain⟨hj,h2⟩:=aA he;have hj:n=m:=by simpa using hj
     subst hj;have h3:=kP h2;subst h3;exact⟨by simp[Instr.sameNow],fun hb=>by rw[eq_of_beq hb]⟩
   |_=>simp[A.yD]at he
  ·cases e with
   |string z=>
     simp only[A.yD,kE]at he;subst he;exact⟨by rw[Instr.sameNow,aDd],fun hb=>by rw[fK (eq_of_beq hb)]⟩
   |_=>simp[A.yD]at he
theorem aBl {kt:TypeId}{k:Value}(hk:A.yB P kt k=true):aJ k=true:=by
  obtain⟨d,_,h⟩:=cZ hk;rcases h with⟨_,_,_,_,rfl⟩|⟨_,_,rfl⟩<;>rfl
theorem sH {kt:TypeId}{k ck:Value}(hk:A.yB P kt k=true)(r:VR μ k ck):ck=k:=by
  obtain⟨d,_,h⟩:=cZ hk;rcases h with⟨_,_,_,_,rfl⟩|⟨_,_,rfl⟩<;>cases r<;>rfl
theorem sP {kt:TypeId}{k:Value}(hk:A.yB P kt k=true)(b:Bool)(n:Nat):(Instr.checkKey b (n+1) kt k).run P w=.ok () w:=by
  obtain⟨d,hu,h⟩:=cZ hk;rcases h with⟨_,rfl,_,_,rfl⟩|⟨rfl,_,rfl⟩<;>simp[Instr.checkKey,run_underlying hu]
theorem cB {kt:TypeId}{k:Value}(hk:A.yB P kt k=true)(b:Bool):(Instr.checkKey b 10000 kt k).run P w=.ok () w:=sP hk b 9999
def EsR (μ:Mu)(es:List Ent)(cl:List MapEntry):Prop:=
  cl.length=es.length∧∀(i:Nat) (e:Ent),es[i]?=some e→aJ e.key=true∧∃c,cl[i]?=some c∧ER μ e c
theorem EsR.tail {e:Ent}{es:List Ent}{c:MapEntry}{cl:List MapEntry}(r:EsR μ (e::es) (c::cl)):EsR μ es cl:=
  ⟨by have:=r.1;simpa using this,fun i e' he=>by simpa using r.2 (i+1) e' (by simpa using he)⟩
theorem dW {kt:TypeId}{k:Value}(hk:A.yB P kt k=true){d:TypeDesc}(hd:P.underlying kt=some d):∀(es:List Ent) (cl:List MapEntry) (i:Nat) (r:Option (Nat×Value)),EsR μ es cl→A.findE k es i=some r→
    (match r with
     |none=>Instr.findNow d k cl i=some none
     |some (j,v)=>∃n cv,j=i+n∧n<es.length∧Instr.findNow d k cl i=some (some (j,cv))∧VR μ v cv∧(∃e,es[n]?=some e∧e.key=k∧e.val=v)∧∃c,cl[n]?=some c∧c.key=k):=by
  intro es
  induction es with
  |nil=>
    intro cl i r hr he;have:cl=[]:=List.length_eq_zero_iff.1 hr.1;subst this;simp only[A.findE,kE]at he;subst he;rfl
  |cons e es ih=>
    intro cl i r hr he
    cases cl with
    |nil=>have:=hr.1;simp at this
    |cons c cl=>
      obtain⟨hp,c',hc,hk1,hb1,hv1⟩:=hr.2 0 e rfl;simp only[kY,kE]at hc;subst hc;simp only[A.findE]at he
      cases hq:A.yD k e.key with
      |none=>rw[hq]at he;simp at he
      |some b=>
        rw[hq]at he;simp only at he;obtain⟨d',hd',hs,hke⟩:=wS hk hq;rw[hd]at hd';simp only[kE]at hd';subst hd';rw[←hk1]at hs
        cases b with
        |true=>
          simp only[cond_true,kE]at he;subst he;refine⟨0,c.val,by simp,by simp,?_,hv1,⟨e,rfl,(hke rfl).symm,rfl⟩,c,rfl,?_⟩
          ·simp only[Instr.findNow,hs]
          ·rw[hk1,hke rfl]
        |false=>
          simp only[cond_false]at he;have:=ih cl (i+1) r hr.tail he
          cases r with
          |none=>simp only at this⊢;simp only[Instr.findNow,hs,this]
          |some q=>
            obtain⟨j,v⟩:=q;simp only at this⊢;obtain⟨n,cv,e1,e2,e3,e4,e5,e6⟩:=this;exact⟨n+1,cv,by omega,by simp;omega,by simp only[Instr.findNow,hs,e3],e4,by simpa using e5,by simpa using e6⟩
theorem cW {kt:TypeId}{k:Value}{d:TypeDesc}(hd:P.underlying kt=some d){cl:List MapEntry}{r:Option (Nat×Value)}(hf:Instr.findNow d k cl 0=some r):
    (Instr.findKey kt k cl).run P w=.ok r w:=by
  simp only[Instr.findKey,kR,run_underlying hd,kQ,hf,kS]
theorem RH.map (r:RH NG μ h w){id:Nat}{es:List Ent}{c:Nat}{l:Loc}(hg:h.get id=some (.map es c))(hl:μ id=some l):
    ∃ces,w.heap[l.blk]?=some (.map ces c)∧EsR μ es ces.toList:=by
  obtain⟨ces,h1,h2,h3⟩:=r.br _ _ _ hg hl;exact⟨ces,h1,by simpa using h2,fun i e he=>let⟨p,c,hc,hr⟩:=h3 i e he;⟨p,c,by simpa using hc,hr⟩⟩
theorem BR.mk_map {es:List Ent}{c:Nat}{l:Loc}{cl:List MapEntry}(hb:w.heap[l.blk]?=some (.map ⟨cl⟩ c))(hr:EsR μ es cl):BR μ (.map es c) l w:=
  ⟨⟨cl⟩,hb,by simpa using hr.1,fun i e he=>let⟨p,c,hc,hr⟩:=hr.2 i e he;⟨p,c,by simpa using hc,hr⟩⟩
theorem VR.map_inv {id:Nat}{c:Value}(r:VR μ (.map (some id)) c):∃l,μ id=some l∧c=.map (some l.blk):=by
  cases r with|map hl=>exact⟨_,hl,rfl⟩
theorem vK {co ok:Bool}{v cv:Value}(r:VR μ v cv):VR μ (A.yR co v ok) (if co then .tuple #[cv,.bool ok]else cv):=by
  cases co with
  |false=>exact r
  |true=>
    refine .tuple [v,.bool ok] [cv,.bool ok] rfl fun i a b ha hb=>?_
    match i with
    |0=>simp at ha hb;subst ha;subst hb;exact r
    |1=>simp at ha hb;subst ha;subst hb;exact .bool ok
    |n+2=>simp at ha
theorem uT (r:RH NG μ h w){t kt et:TypeId}(hu:P.underlying t=some (.map kt et)){z:Value}(hz:fG P et=some z)(hzp:aJ z=true){co:Bool}{k x v ck cx:Value}
    (hk:A.yB P kt k=true) (hv:A.yA z co k x h=some v) (rx:VR μ x cx) (rk:VR μ k ck):∃cv,(Instr.lookup t cx ck co).run P w=.ok cv w∧VR μ v cv:=by
  rw[sH hk rk];obtain⟨d,hd,_⟩:=cZ hk;unfold A.yA at hv;split at hv
  ·simp only[kE]at hv;subst hv;have:cx=.map none:=by cases rx;rfl
   subst this;refine⟨_,?_,vK (VR.of_plain μ z hzp)⟩;have hf:Instr.findNow d k ([]:List MapEntry) 0=some none:=rfl;simp only[Instr.lookup,kR,run_underlying hu,kQ,kS,cB hk,cW hd hf,eH P hz]
  ·rename_i id;obtain⟨l,hl,rfl⟩:=rx.map_inv;split at hv
   ·rename_i es c hg;obtain⟨ces,hb,hes⟩:=r.map hg hl;have hgo:(getObj l.blk).run P w=.ok (.map ces c) w:=by simp only[getObj,Sem.run,hb]
    split at hv
    ·rename_i j u hf;simp only[kE]at hv;subst hv;obtain⟨n,cv,_,_,hfn,hvr,_⟩:=dW hk hd es ces.toList 0 _ hes hf;refine⟨_,?_,vK hvr⟩;simp only[Instr.lookup,kR,run_underlying hu,kQ,hgo,kS,cB hk,cW hd hfn]
    ·rename_i hf;simp only[kE]at hv;subst hv;have hfn:=dW hk hd es ces.toList 0 _ hes hf;refine⟨_,?_,vK (VR.of_plain μ z hzp)⟩;simp only[Instr.lookup,kR,run_underlying hu,kQ,hgo,kS,cB hk,cW hd hfn,eH P hz]
    ·simp at hv
   ·simp at hv
  ·simp at hv
theorem aAb (v:Value):∀(es:List Ent) (n i:Nat),(A.yE v es n)[i]?=if i=n then(es[i]?).map (fun e=>⟨e.key,v,e.born⟩)else es[i]?
  |[],n,i=>by cases n<;>simp[A.yE]
  |e::es,0,0=>by simp[A.yE]
  |e::es,0,i+1=>by simp[A.yE]
  |e::es,n+1,0=>by simp[A.yE]
  |e::es,n+1,i+1=>by simp[A.yE,aAb v es n i]
theorem oL (v:Value):∀(es:List Ent) (n:Nat),(A.yE v es n).length=es.length
  |[],n=>by cases n<;>rfl
  |e::es,0=>rfl
  |e::es,n+1=>by simp[A.yE,oL v es n]
theorem uM {kt:TypeId}{k:Value}(hk:A.yB P kt k=true):Instr.sameBits 10000 k k=true:=by
  obtain⟨d,_,h⟩:=cZ hk;rcases h with⟨_,_,_,_,rfl⟩|⟨_,_,rfl⟩
  ·simp[Instr.sameBits]
  ·simp[Instr.sameBits,aDd]
theorem oT (r:RH NG μ h w){t kt et:TypeId}(hu:P.underlying t=some (.map kt et)){k v x ck cv cx:Value}{h':H}
    (hk:A.yB P kt k=true) (hv:A.zU k v x h=some h') (rx:VR μ x cx) (rk:VR μ k ck) (rv:VR μ v cv):
    ∃w',(Instr.mapUpdate t cx ck cv).run P w=.ok () w'∧Step NG μ h w μ h' w':=by
  rw[sH hk rk];obtain⟨d,hd,_⟩:=cZ hk;unfold A.zU at hv;split at hv
  ·rename_i id;obtain⟨l,hl,rfl⟩:=rx.map_inv;split at hv
   ·rename_i es c hg;obtain⟨ces,hb,hes⟩:=r.map hg hl;have hlt:l.blk<w.heap.size:=(Array.getElem?_eq_some_iff.1 hb).1;have hgo:(getObj l.blk).run P w=.ok (.map ces c) w:=by simp only[getObj,Sem.run,hb]
    have hso:∀o,(Go.setObj l.blk o).run P w=.ok () (setObj w l.blk o):=fun o=>by simp[Go.setObj,Sem.run,hb,setObj]
    split at hv
    ·rename_i j u hf;simp only[kE]at hv;subst hv;obtain⟨n,cu,e1,hn,hfn,hvr,⟨e,he,hek,_⟩,c0,hc0,hck⟩:=dW hk hd es ces.toList 0 _ hes hf;have e1:j=n:=by omega
     subst e1;have hkey:(((ces[j]?).map (·.key)).getD k)=k:=by
       have:ces[j]?=some c0:=by simpa using hc0
       simp[this,hck]
     have hfin:ces.modify j (fun e=>{e with key:=k,val:=cv})=⟨ces.toList.modify j (fun e=>{e with key:=k,val:=cv})⟩:=by
       apply Array.ext';simp
     refine⟨setObj w l.blk (.map ⟨ces.toList.modify j (fun e=>{e with key:=k,val:=cv})⟩ c),?_,Step.write r hg rfl rfl hl ?_⟩
     ·simp only[Instr.mapUpdate,kR,run_underlying hu,kQ,hgo,cB hk,cW hd hfn,hkey,Instr.keyThatStays,uM hk,if_true,kS,hso,hfin]
     ·refine BR.mk_map (bA hlt) ⟨?_,fun i e' he'=>?_⟩
      ·rw[oL,List.length_modify];exact hes.1
      ·rw[aAb]at he';split at he'
       ·rename_i hij;subst hij;rw[he]at he';simp only[Option.map_some,kE]at he';subst he';obtain⟨hp,c1,hc1,r1,r2,r3⟩:=hes.2 i e he;refine⟨hp,{c1 with key:=k,val:=cv},by simp[hc1],?_,r2,rv⟩;exact hek.symm
       ·rename_i hij;obtain⟨hp,c1,hc1,hr⟩:=hes.2 i e' he';exact⟨hp,c1,by rw[List.getElem?_modify,hc1];simp[Ne.symm hij],hr⟩
    ·rename_i hf;simp only[kE]at hv;subst hv;have hfn:=dW hk hd es ces.toList 0 _ hes hf;have hfin:ces.push {key:=k,val:=cv,born:=c}=⟨ces.toList++[{key:=k,val:=cv,born:=c}]⟩:=by
       apply Array.ext';simp
     refine⟨setObj w l.blk (.map ⟨ces.toList++[{key:=k,val:=cv,born:=c}]⟩ (c+1)),?_,Step.write r hg rfl rfl hl ?_⟩
     ·simp only[Instr.mapUpdate,kR,run_underlying hu,kQ,hgo,cB hk,cW hd hfn,hso,hfin]
     ·refine BR.mk_map (bA hlt) ⟨by simpa using hes.1,fun i e' he'=>?_⟩;have hlen:ces.toList.length=es.length:=hes.1;rw[List.getElem?_append]at he';split at he'
      ·obtain⟨hp,c1,hc1,hr⟩:=hes.2 i e' he';exact⟨hp,c1,by rw[kV (by omega)];exact hc1,hr⟩
      ·rename_i hi;have hi0:i=es.length:=by
         have:=(List.getElem?_eq_some_iff.1 he').1;simp at this;omega
       subst hi0;simp only[Nat.sub_self,kY,kE]at he';subst he';refine⟨aBl hk,_,by rw[kW (by omega),hlen,Nat.sub_self];rfl,rfl,rfl,rv⟩
    ·simp at hv
   ·simp at hv
  ·simp at hv
theorem Step.push_at (r:RH NG μ h w)(hf:μ h.next=none){b:Blk}(ho:b.owned=true){o:Obj}(hb:BR (μ.set h.next ⟨w.heap.size,0,0,0⟩) b ⟨w.heap.size,0,0,0⟩ (w.alloc o)):
    Step NG μ h w (μ.set h.next ⟨w.heap.size,0,0,0⟩) (h.push b) (w.alloc o):=
  Step.push r hf ho (o:=o) rfl rfl rfl rfl rfl hb
theorem gW (w:World)(o:Obj):(w.alloc o).heap[w.heap.size]?=some o:=Array.getElem?_push_size
theorem sR (r:RH NG μ h w)(hf:μ h.next=none)(t:TypeId):
    ∃cv w' μ',(Instr.makeMap t none).run P w=.ok cv w'∧Step NG μ h w μ' (h.push (.map [] 0)) w'∧VR μ' (.map (some h.next)) cv:=by
  refine⟨.map (some w.heap.size),w.alloc (.map #[] 0),_,rfl,Step.push_at r hf rfl (BR.mk_map (cl:=[]) (gW _ _) ⟨rfl,fun i e he=>by simp at he⟩),?_⟩;exact VR.map (Mu.set_same μ h.next ⟨w.heap.size,0,0,0⟩)
theorem wH {b:Nat}{o:Obj}(hb:w.heap[b]?=some o):setObj w b o=w:=by
  have:w.heap.setIfInBounds b o=w.heap:=by
    apply Array.ext_getElem?;intro i;by_cases e:i=b
    ·subst e;have hlt:=(Array.getElem?_eq_some_iff.1 hb).1;rw[hb];simp[hlt]
    ·rw[Array.getElem?_setIfInBounds_ne (Ne.symm e)]
  unfold setObj;rw[this]
theorem mA {l:Nat}{ces:Array MapEntry}{c:Nat}(hb:w.heap[l]?=some (.map ces c))(o:Obj):(Go.setObj l o).run P w=.ok () (setObj w l o):=by
  simp[Go.setObj,Sem.run,hb,setObj]
theorem uV (r:RH NG μ h w){ats:Array TypeId}{t kt et:TypeId}(h0:ats[0]?=some t)(hu:P.underlying t=some (.map kt et)){k x ck cx:Value}{h':H}
    (hk:A.yB P kt k=true) (hv:A.yI k x h=some h') (rx:VR μ x cx) (rk:VR μ k ck) (ty:TypeId):
    ∃w',(Builtin.delete_ ats ty #[cx,ck]).run P w=.ok (.tuple #[]) w'∧Step NG μ h w μ h' w':=by
  rw[sH hk rk];obtain⟨d,hd,_⟩:=cZ hk;unfold A.yI at hv;split at hv
  ·simp only[kE]at hv;subst hv;have:cx=.map none:=by cases rx;rfl
   subst this;refine⟨w,?_,Step.refl r⟩;simp only[Builtin.delete_,h0,pH,kY,kZ,kR,run_underlying hu,kQ,cB hk,kS]
  ·rename_i id;obtain⟨l,hl,rfl⟩:=rx.map_inv;split at hv
   ·rename_i es c hg;obtain⟨ces,hb,hes⟩:=r.map hg hl;have hlt:l.blk<w.heap.size:=(Array.getElem?_eq_some_iff.1 hb).1;have hgo:(getObj l.blk).run P w=.ok (.map ces c) w:=by simp only[getObj,Sem.run,hb]
    split at hv
    ·rename_i j u hf;simp only[kE]at hv;subst hv;obtain⟨n,cu,e1,hn,hfn,_⟩:=dW hk hd es ces.toList 0 _ hes hf;have e1:j=n:=by omega
     subst e1;have hfin:ces.eraseIdxIfInBounds j=⟨ces.toList.eraseIdx j⟩:=by
       apply Array.ext';simp
     refine⟨setObj w l.blk (.map ⟨ces.toList.eraseIdx j⟩ c),?_,Step.write r hg rfl rfl hl ?_⟩
     ·simp only[Builtin.delete_,h0,pH,kY,kZ,kR,run_underlying hu,kQ,hgo,cB hk,cW hd hfn,mA hb,kS,hfin]
     ·refine BR.mk_map (bA hlt) ⟨?_,fun i e' he'=>?_⟩
      ·have hlen:ces.toList.length=es.length:=hes.1;rw[List.length_eraseIdx,List.length_eraseIdx,hlen]
      ·rw[List.getElem?_eraseIdx]at he'⊢;split at he'
       ·rename_i hij;rw[kB hij];exact hes.2 i e' he'
       ·rename_i hij;rw[kA hij];exact hes.2 (i+1) e' he'
    ·rename_i hf;simp only[kE]at hv;subst hv;have hfn:=dW hk hd es ces.toList 0 _ hes hf;refine⟨w,?_,Step.refl r⟩;simp only[Builtin.delete_,h0,pH,kY,kZ,kR,run_underlying hu,kQ,hgo,cB hk,cW hd hfn,mA hb,kS,wH hb]
    ·simp at hv
   ·simp at hv
  ·simp at hv
theorem uY (r:RH NG μ h w){ats:Array TypeId}{t kt et:TypeId}(h0:ats[0]?=some t)(hu:P.underlying t=some (.map kt et)){x cx:Value}{h':H}
    (hv:A.yO x h=some h') (rx:VR μ x cx) (ty:TypeId):
    ∃w',(Builtin.clear_ ats ty #[cx]).run P w=.ok (.tuple #[]) w'∧Step NG μ h w μ h' w':=by
  unfold A.yO at hv;split at hv
  ·simp only[kE]at hv;subst hv;have:cx=.map none:=by cases rx;rfl
   subst this;refine⟨w,?_,Step.refl r⟩;simp only[Builtin.clear_,h0,pH,kY,kR,run_underlying hu,kQ,kS]
  ·rename_i id;obtain⟨l,hl,rfl⟩:=rx.map_inv;split at hv
   ·rename_i es c hg;simp only[kE]at hv;subst hv;obtain⟨ces,hb,hes⟩:=r.map hg hl;have hlt:l.blk<w.heap.size:=(Array.getElem?_eq_some_iff.1 hb).1;have hgo:(getObj l.blk).run P w=.ok (.map ces c) w:=by simp only[getObj,Sem.run,hb]
    refine⟨setObj w l.blk (.map #[] c),?_,Step.write r hg rfl rfl hl (BR.mk_map (cl:=[]) (bA hlt) ⟨rfl,fun i e he=>by simp at he⟩)⟩;simp only[Builtin.clear_,h0,pH,kY,kR,run_underlying hu,kQ,hgo,mA hb,kS]
   ·simp at hv
  ·simp at hv
theorem uQ (r:RH NG μ h w)(hf:μ h.next=none){t:TypeId}(hu:P.underlying t=some .string){s:ByteArray}{cx v:Value}{h':H}(hv:A.yF (.string s) h=some (v,h'))(rx:VR μ (.string s) cx):
    ∃cv w' μ',(Instr.range t cx).run P w=.ok cv w'∧Step NG μ h w μ' h' w'∧VR μ' v cv:=by
  simp only[A.yF,kE,kK]at hv;obtain⟨rfl,rfl⟩:=hv;rw[rx.string_inv];refine⟨.pointer (some ⟨w.heap.size,0,none⟩),w.alloc (.stringIter s 0),_,?_,Step.push_at r hf rfl ⟨rfl,gW _ _⟩,?_⟩
  ·simp only[Instr.range,kR,run_underlying hu,kQ,kS,run_newObj];rfl
  ·exact VR.ptr (off:=0) (Mu.set_same μ h.next ⟨w.heap.size,0,0,0⟩)
theorem uR (r:RH NG μ h w)(hf:μ h.next=none){t kt et:TypeId}(hu:P.underlying t=some (.map kt et)){m:Option Nat}{cx v:Value}{h':H}(hv:A.yF (.map m) h=some (v,h'))(rx:VR μ (.map m) cx):
    ∃cv w' μ',(Instr.range t cx).run P w=.ok cv w'∧Step NG μ h w μ' h' w'∧VR μ' v cv:=by
  cases m with
  |none=>
    simp only[A.yF,kE,kK]at hv;obtain⟨rfl,rfl⟩:=hv;have:cx=.map none:=by cases rx;rfl
    subst this;refine⟨.pointer (some ⟨w.heap.size,0,none⟩),w.alloc (.mapIter none 0 #[] 0),_,?_,Step.push_at r hf rfl ⟨rfl,none,trivial,gW _ _⟩,?_⟩
    ·simp only[Instr.range,kR,run_underlying hu,kQ,kS,run_newObj];rfl
    ·exact VR.ptr (off:=0) (Mu.set_same μ h.next ⟨w.heap.size,0,0,0⟩)
  |some id=>
    simp only[A.yF]at hv;obtain⟨l,hl,rfl⟩:=rx.map_inv;split at hv
    ·rename_i es c hg;simp only[kE,kK]at hv;obtain⟨rfl,rfl⟩:=hv;obtain⟨ces,hb,hes⟩:=r.map hg hl;have hgo:(getObj l.blk).run P w=.ok (.map ces c) w:=by simp only[getObj,Sem.run,hb]
     refine⟨.pointer (some ⟨w.heap.size,0,none⟩),w.alloc (.mapIter (some l.blk) c #[] c),_,?_,Step.push_at r hf rfl ⟨rfl,some l.blk,⟨l,Mu.le_set hf _ _ hl,rfl⟩,gW _ _⟩,?_⟩
     ·simp only[Instr.range,kR,run_underlying hu,kQ,hgo,kS,run_newObj];rfl
     ·exact VR.ptr (off:=0) (Mu.set_same μ h.next ⟨w.heap.size,0,0,0⟩)
    ·simp at hv
theorem oP {s:ByteArray}{pos c n:Nat}(hc:A.zQ s pos=some (c,n)):pos<s.size∧Utf8.decode s pos=(c,n):=by
  unfold A.zQ at hc;split at hc
  ·rename_i b hb;have hlt:pos<s.data.toList.length:=(List.getElem?_eq_some_iff.1 hb).1;have hlt':pos<s.size:=by simpa using hlt
   refine⟨hlt',?_⟩
   cases hq:Nat.blt b.toNat 128 with
   |true=>
     rw[hq]at hc;simp only[cond_true,kE,kK]at hc;obtain⟨rfl,rfl⟩:=hc;have hb':s.get! pos=b:=by
       show s.data[pos]! =b;have e:s.data[pos]?=some b:=by simpa using hb
       rw[getElem!_def,e]
     have hlt8:b.toNat<0x80:=blt_iff.1 hq;simp only[Utf8.decode,Nat.add_zero,hb',hlt8,if_true]
   |false=>
     rw[hq]at hc;simpa using hc
  ·simp at hc
theorem xE {s:ByteArray}{pos:Nat}(hc:A.zQ s pos=none):¬pos<s.size:=by
  unfold A.zQ at hc;split at hc
  ·rename_i b hb;cases hq:Nat.blt b.toNat 128<;>(rw[hq]at hc;exact absurd hc (by simp))
  ·rename_i hn;have:=List.getElem?_eq_none_iff.1 hn;simp at this;exact Nat.not_lt.2 this
theorem VR.iter_inv {id:Nat}{c:Value}{l:Loc}(r:VR μ (.pointer (some ⟨id,0,none⟩)) c)(hl:μ id=some l)(h0:l.off=0):c=.pointer (some ⟨l.blk,0,none⟩):=by
  obtain⟨l',hl',rfl⟩:=r.ptr_inv;rw[hl]at hl';simp only[kE]at hl';subst hl';rw[h0]
theorem wN (r:RH NG μ h w){x cx v:Value}{h':H}(hv:A.yC x h=some (v,h'))(rx:VR μ x cx)(ty:TypeId):
    ∃cv w',(Instr.next cx true ty).run P w=.ok cv w'∧Step NG μ h w μ h' w'∧VR μ v cv:=by
  unfold A.yC at hv;split at hv
  ·rename_i id;obtain⟨l,hl,_⟩:=rx.ptr_inv;split at hv
   ·rename_i s pos hg;obtain⟨h0,hb⟩:=r.br _ _ _ hg hl;rw[rx.iter_inv hl h0];have hlt:l.blk<w.heap.size:=(Array.getElem?_eq_some_iff.1 hb).1;have hgo:(getObj l.blk).run P w=.ok (.stringIter s pos) w:=by simp only[getObj,Sem.run,hb]
    have hso:∀o,(Go.setObj l.blk o).run P w=.ok () (setObj w l.blk o):=fun o=>by simp[Go.setObj,Sem.run,hb,setObj]
    split at hv
    ·rename_i c n hc;simp only[kE,kK]at hv;obtain⟨rfl,rfl⟩:=hv;obtain⟨hp,hdec⟩:=oP hc;refine⟨.tuple #[.bool true,.int .i64 pos,.int .i32 c],setObj w l.blk (.stringIter s (pos+n)),?_,Step.write r hg rfl rfl hl ⟨h0,bA hlt⟩,VR.of_plain _ _ rfl⟩;simp only[Instr.next,kR,hgo,kQ,hp,if_true,hdec,hso,kS,goInt]
    ·rename_i hc;simp only[kE,kK]at hv;obtain⟨rfl,rfl⟩:=hv;refine⟨.tuple #[.bool false],w,?_,Step.refl r,VR.of_plain _ _ rfl⟩;simp only[Instr.next,kR,hgo,kQ,xE hc,if_false,kS]
   ·simp at hv
  ·simp at hv
theorem EsR.cons_inv {e:Ent}{es:List Ent}{cl:List MapEntry}(r:EsR μ (e::es) cl):∃c cl',cl=c::cl'∧aJ e.key=true∧ER μ e c∧EsR μ es cl':=by
  cases cl with
  |nil=>have:=r.1;simp at this
  |cons c cl=>
    obtain⟨hp,c',hc,hr⟩:=r.2 0 e rfl;simp only[kY,kE]at hc;subst hc;exact⟨c,cl,rfl,hp,hr,r.tail⟩
theorem EsR.nil_inv {cl:List MapEntry}(r:EsR μ [] cl):cl=[]:=List.length_eq_zero_iff.1 r.1
theorem EsR.nil:EsR μ [] []:=⟨rfl,fun i e he=>by simp at he⟩
theorem EsR.cons {e:Ent}{es:List Ent}{c:MapEntry}{cl:List MapEntry}(hp:aJ e.key=true)(hr:ER μ e c)(r:EsR μ es cl):EsR μ (e::es) (c::cl):=
  ⟨by simpa using r.1,fun i e' he=>by
    cases i with
    |zero=>simp only[kY,kE]at he;subst he;exact⟨hp,c,rfl,hr⟩
    |succ i=>simpa using r.2 i e' (by simpa using he)⟩
theorem EsR.filter {p:Ent→Bool}{q:MapEntry→Bool}(hpq:∀e c,c.born=e.born→q c=p e):∀{es:List Ent} {cl:List MapEntry},EsR μ es cl→EsR μ (es.filter p) (cl.filter q)
  |[],cl,r=>by rw[r.nil_inv];exact .nil
  |e::es,cl,r=>by
    obtain⟨c,cl',rfl,hp,hr,ht⟩:=r.cons_inv;have:=EsR.filter hpq ht;rw[List.filter_cons,List.filter_cons,hpq e c hr.2.1];split
    ·exact .cons hp hr this
    ·exact this
theorem EsR.all {p:Ent→Bool}{q:MapEntry→Bool}(hpq:∀e c,c.born=e.born→q c=p e):∀{es:List Ent} {cl:List MapEntry},EsR μ es cl→cl.all q=es.all p
  |[],cl,r=>by rw[r.nil_inv];rfl
  |e::es,cl,r=>by
    obtain⟨c,cl',rfl,hp,hr,ht⟩:=r.cons_inv;simp only[List.all_cons,hpq e c hr.2.1,EsR.all hpq ht]
theorem EsR.isEmpty {es:List Ent}{cl:List MapEntry}(r:EsR μ es cl):cl.isEmpty=es.isEmpty:=by
  cases es with
  |nil=>rw[r.nil_inv];rfl
  |cons e es=>obtain⟨c,cl',rfl,_⟩:=r.cons_inv;rfl
theorem uA (seen:List Nat)(e:Ent)(c:MapEntry)(hb:c.born=e.born):(!(⟨seen⟩:Array Nat).contains c.born)=!A.zW seen e:=by
  congr 1;rw[Bool.eq_iff_iff,hb];simp[A.zW,List.any_eq_true,beq_iff]
theorem wO (r:RH NG μ h w){x cx v:Value}{h':H}(hv:A.yJ x h=some (v,h'))(rx:VR μ x cx)(ty:TypeId):
    ∃cv w',(Instr.next cx false ty).run P w=.ok cv w'∧Step NG μ h w μ h' w'∧VR μ v cv:=by
  unfold A.yJ at hv;split at hv
  ·rename_i id;obtain⟨l,hl,_⟩:=rx.ptr_inv;split at hv
   ·rename_i since seen last hg;obtain⟨h0,m',hm,hb⟩:=r.br _ _ _ hg hl;have hm':m'=none:=by cases m' with
      |none=>rfl
      |some _=>exact hm.elim
    subst hm';rw[rx.iter_inv hl h0];have hgo:(getObj l.blk).run P w=.ok (.mapIter none since ⟨seen⟩ last) w:=by simp only[getObj,Sem.run,hb]
    simp only[kE,kK]at hv;obtain⟨rfl,rfl⟩:=hv;refine⟨.tuple #[.bool false],w,?_,Step.refl r,VR.of_plain _ _ rfl⟩;simp only[Instr.next,kR,hgo,kQ,kS]
   ·rename_i m since seen last hg;obtain⟨h0,m',hm,hb⟩:=r.br _ _ _ hg hl;obtain⟨bm,rfl⟩:∃bm,m'=some bm:=by cases m' with
      |none=>exact hm.elim
      |some b=>exact⟨b,rfl⟩
    obtain⟨lm,hlm,rfl⟩:=hm;rw[rx.iter_inv hl h0];have hlt:l.blk<w.heap.size:=(Array.getElem?_eq_some_iff.1 hb).1;have hgo:(getObj l.blk).run P w=.ok (.mapIter (some lm.blk) since ⟨seen⟩ last) w:=by simp only[getObj,Sem.run,hb]
    have hso:∀o,(Go.setObj l.blk o).run P w=.ok () (setObj w l.blk o):=fun o=>by simp[Go.setObj,Sem.run,hb,setObj]
    split at hv
    ·rename_i es clock hgm;obtain⟨⟨cl⟩,hbm,hes⟩:=r.map hgm hlm;have hes:EsR μ es cl:=hes;have hgm':(getObj lm.blk).run P w=.ok (.map ⟨cl⟩ clock) w:=by simp only[getObj,Sem.run,hbm]
     have hall:((⟨cl⟩:Array MapEntry).all fun e=>decide (e.born≥last))=es.all fun e=>Nat.ble last e.born:=by
       rw[show(⟨cl⟩:Array MapEntry)=cl.toArray from rfl,List.all_toArray];exact hes.all fun e c hb=>by rw[hb,Bool.eq_iff_iff,pJ,ble_iff]
     have hemp:(⟨cl⟩:Array MapEntry).isEmpty=es.isEmpty:=by rw[←hes.isEmpty];cases cl<;>rfl
     have hemp2:(⟨seen⟩:Array Nat).isEmpty=seen.isEmpty:=by cases seen<;>rfl
     have hleft:(⟨cl⟩:Array MapEntry).filter (fun e=>!(⟨seen⟩:Array Nat).contains e.born)=⟨cl.filter fun e=>!(⟨seen⟩:Array Nat).contains e.born⟩:=by
       rw[show(⟨cl⟩:Array MapEntry)=cl.toArray from rfl,List.filter_toArray]
     have hfl:=hes.filter (q:=fun c=>!(⟨seen⟩:Array Nat).contains c.born) (p:=fun e=>!A.zW seen e) fun e c hb=>uA seen e c hb
     cases hcnd:(!seen.isEmpty&&!es.isEmpty&&es.all fun e=>Nat.ble last e.born)with
     |true=>rw[hcnd]at hv;simp at hv
     |false=>
       rw[hcnd]at hv;simp only[cond_false]at hv;split at hv
       ·rename_i hnil;rw[hnil]at hfl;rw[hfl.nil_inv]at hleft;simp only[kE,kK]at hv;obtain⟨rfl,rfl⟩:=hv;refine⟨.tuple #[.bool false],w,?_,Step.refl r,VR.of_plain _ _ rfl⟩;simp only[Instr.next,kR,hgo,kQ,hgm',hemp,hemp2,hall,hcnd,hleft,pB,if_false,kS];simp[choose,Sem.run,Question.forced]
       ·rename_i e hone;rw[hone]at hfl;obtain⟨c,cl',hcl,hp,hr,ht⟩:=hfl.cons_inv;rw[ht.nil_inv]at hcl;rw[hcl]at hleft;obtain⟨hlt2,hv⟩:=aA hv;have hlt2:=blt_iff.1 hlt2;simp only[kE,kK]at hv;obtain⟨rfl,rfl⟩:=hv;have hcb:c.born<since:=by rw[hr.2.1];exact hlt2
        have hold:(⟨[c]⟩:Array MapEntry).filter (fun e=>decide (e.born<since))=#[c]:=by simp[hcb]
        have hnew:(⟨[c]⟩:Array MapEntry).filter (fun e=>decide (e.born≥since))=#[]:=by simp[hcb]
        refine⟨.tuple #[.bool true,c.key,c.val],setObj w l.blk (.mapIter (some lm.blk) since ⟨seen++[e.born]⟩ clock),?_,Step.write r hg rfl rfl hl ⟨h0,some lm.blk,⟨lm,hlm,rfl⟩,bA hlt⟩,?_⟩
        ·have aJz:(⟨seen⟩:Array Nat).push c.born=⟨seen++[e.born]⟩:=by rw[hr.2.1];apply Array.ext';simp
         simp only[Instr.next,kR,hgo,kQ,hgm',hemp,hemp2,hall,hcnd,hleft,hold,hnew,pB,if_false,kS];simp[choose,Sem.run,Question.forced,hso,Array.isEmpty,hr.2.1]
        ·refine .tuple [.bool true,e.key,e.val] [.bool true,c.key,c.val] rfl fun i a b ha hb=>?_
         match i with
         |0=>simp at ha hb;subst ha;subst hb;exact .bool true
         |1=>simp at ha hb;subst ha;subst hb;rw[hr.1];exact VR.of_plain _ _ hp
         |2=>simp at ha hb;subst ha;subst hb;exact hr.2.2
         |n+3=>simp at ha
       ·simp at hv
    ·simp at hv
   ·simp at hv
  ·simp at hv
theorem rK:∀(l:List Nat),(⟨l⟩:Array Nat).back?=A.lastL l
  |[]=>rfl
  |[a]=>rfl
  |a::b::r=>by
    have:=rK (b::r);simp only[A.lastL];rw[←this];simp
theorem oO {b:Nat}:∀{es:List Ent} {cl:List MapEntry} {e:Ent},EsR μ es cl→A.findB b es=some e→∃c,cl.find? (fun c=>c.born==b)=some c∧ER μ e c∧aJ e.key=true
  |[],cl,e,r,hf=>by simp[A.findB]at hf
  |e0::es,cl,e,r,hf=>by
    obtain⟨c,cl',rfl,hp,hr,ht⟩:=r.cons_inv;simp only[A.findB]at hf
    cases hq:Nat.beq e0.born b with
    |true=>
      rw[hq]at hf;simp only[cond_true,kE]at hf;subst hf;exact⟨c,by rw[List.find?_cons_of_pos];simpa[hr.2.1]using beq_iff.1 hq,hr,hp⟩
    |false=>
      rw[hq]at hf;simp only[cond_false]at hf;obtain⟨c',h1,h2⟩:=oO ht hf;refine⟨c',?_,h2⟩;rw[List.find?_cons_of_neg]
      ·exact h1
      ·rw[hr.2.1];intro e;rw[beq_iff.2 (eq_of_beq e)]at hq;simp at hq
theorem xA (r:RH NG μ h w){x cx v:Value}(hv:A.zT x h=some v)(rx:VR μ x cx):∃cv,(Instr.entry cx).run P w=.ok cv w∧VR μ v cv:=by
  unfold A.zT at hv;split at hv
  ·rename_i id;obtain⟨l,hl,_⟩:=rx.ptr_inv;split at hv
   ·rename_i m since seen last hg;obtain⟨h0,m',hm,hb⟩:=r.br _ _ _ hg hl;obtain⟨bm,rfl⟩:∃bm,m'=some bm:=by cases m' with
      |none=>exact hm.elim
      |some b=>exact⟨b,rfl⟩
    obtain⟨lm,hlm,rfl⟩:=hm;rw[rx.iter_inv hl h0];have hgo:(getObj l.blk).run P w=.ok (.mapIter (some lm.blk) since ⟨seen⟩ last) w:=by simp only[getObj,Sem.run,hb]
    split at hv
    ·rename_i b es clock hb1 hgm;obtain⟨⟨cl⟩,hbm,hes⟩:=r.map hgm hlm;have hgm':(getObj lm.blk).run P w=.ok (.map ⟨cl⟩ clock) w:=by simp only[getObj,Sem.run,hbm]
     obtain⟨hck,hv2⟩:=aA hv;have hck:=beq_iff.1 hck;clear hv;subst hck;split at hv2
     ·rename_i e he;have hv3:=(kP hv2).symm;subst hv3;obtain⟨c,hc,hr,hp⟩:=oO hes he;have hc':(⟨cl⟩:Array MapEntry).find? (fun c=>c.born==b)=some c:=by
        rw[←Array.find?_toList];exact hc
      refine⟨.tuple #[c.key,c.val],?_,?_⟩
      ·simp only[Instr.entry,kR,hgo,kQ,rK,hb1,hgm',bne_self_eq_false,pB,if_false,hc',kS]
      ·refine .tuple [e.key,e.val] [c.key,c.val] rfl fun i a b ha hb=>?_
       match i with
       |0=>simp at ha hb;subst ha;subst hb;rw[hr.1];exact VR.of_plain _ _ hp
       |1=>simp at ha hb;subst ha;subst hb;exact hr.2.2
       |n+2=>simp at ha
     ·simp at hv2
    ·simp at hv
   ·simp at hv
  ·simp at hv
end Go.AM

namespace Go.AM
open Go
variable (P:Program){NG:Nat}
def RV (μ:Mu)(r:Option Value)(cv:Value):Prop:=match r with|some v=>VR μ v cv|none=>True
def EvR (μ:Mu)(ρ:Operand→Option Value)(a:Act):Prop:=∀x v,ρ x=some v→VR μ v (a.eval x)
def Fr (ro:Option Nat):Fence:={Fence.wide with round:=ro}
theorem callsIn_Fr {ro:Option Nat}{n:Nat}{P:Program}{f:FuncId}{args:Array Value}{w:World}{R:Ending→World→Prop}:CallsIn (Fr ro) n P f args w R↔Calls P f args w R:=
  (show CallsIn Fence.wide n P f args w R↔Calls P f args w R from callsIn_wide)
theorem bV {ρ:Operand→Value}{o:Oper}{x:Next}{w w':World}(h:(execOp ρ o).run P w=.ok x w')(hx:∀d,x≠.defer d)(ro:Option Nat):(o.semAt ro ρ).run P w=.ok x w':=by
  rw[Oper.semAt_eq]
  ·exact h
  ·intro c hc;have e:execOp ρ o=(do pure (.defer (←resolve ρ c o.type))):=by unfold execOp;rw[hc]
   rw[e]at h;simp only[kR]at h
   cases hr:(resolve ρ c o.type).run P w with
   |ok d w2=>
     rw[hr]at h;simp only[kQ,kS,Result.ok.injEq]at h;exact hx d h.1.symm
   |halt e w2=>rw[hr]at h;simp[Result.andThen]at h
def Snd (P:Program)(NG:Nat)(ρ:Operand→Option Value)(h:H)(o:Oper)(rv:Option Value)(h':H):Prop:=
  h.next≤h'.next∧∀(μ:Mu) (a:Act) (w:World),RH NG μ h w→Fresh μ h.next h'.next→EvR μ ρ a→
    ∀(ro:Option Nat) (next:Act→World→Prop) (Q:Exit→Act→World→Prop),(∀μ' w' cv,Step NG μ h w μ' h' w'→RV μ' rv cv→next (a.put o.dst cv) w')→o.wpIn (Fr ro) 0 P a w next Q
def fX (NG:Nat)(μ:Mu)(h:H)(w:World)(v:Value)(h':H)(e:Ending)(w':World):Prop:=∃cv μ',e=.returned cv∧Step NG μ h w μ' h' w'∧VR μ' v cv
def aM (P:Program)(NG:Nat)(C:CF):Prop:=
  ∀f args h v h',C f args h=some (v,h')→h.next≤h'.next∧
    (f<Y0→∃fn,P.funcs[f]?=some fn∧fn.name≠ "runtime.NumGoroutine" ∧
      (((∃c,fn.body=some c)∧∀μ w cargs,RH NG μ h w→Fresh μ h.next h'.next→LR μ args cargs→Calls P f ⟨cargs⟩ w (fX NG μ h w v h'))∨
       (fn.body=none∧∀μ w cargs,RH NG μ h w→Fresh μ h.next h'.next→LR μ args cargs→∃cv w' μ',(callFunc f ⟨cargs⟩).run P w=.ok (.value cv) w'∧Step NG μ h w μ' h' w'∧VR μ' v cv)))∧
    (∀id vs,f=Y0→args=.int .i64 (.ofNat id)::vs→∀μ w cargs l,RH NG μ h w→Fresh μ h.next h'.next→LR μ vs cargs→μ id=some l→
      ∃g tm a b,(Instr.yield l.blk ⟨cargs⟩).run P w=.ok (.round l.blk g tm a b) w∧RoundIn Fence.wide 0 P l.blk g tm a b w (fX NG μ h w v h'))
variable {P}
variable {ρ:Operand→Option Value}{h:H}{o:Oper}
theorem Snd.pure {v:Value}(hs:∀μ a w,RH NG μ h w→EvR μ ρ a→∃cv,(execOp a.eval o).run P w=.ok (.value cv) w∧VR μ v cv):Snd P NG ρ h o (some v) h:=
  ⟨kF _,fun μ a w r _ hρ ro next Q hn=>by
    obtain⟨cv,hrun,hr⟩:=hs μ a w r hρ;refine⟨fun _ _=>trivial,?_⟩;show o.uponIn (Fr ro) 0 P a next Q ((o.semAt ro a.eval).run P w)
    rw[bV P hrun (fun d=>by simp) ro];exact hn μ w cv (Step.refl r) hr⟩
theorem Snd.val {v:Value}{h':H}(hle:h.next≤h'.next)(hs:∀μ a w,RH NG μ h w→Fresh μ h.next h'.next→EvR μ ρ a→∃cv w' μ',(execOp a.eval o).run P w=.ok (.value cv) w'∧Step NG μ h w μ' h' w'∧VR μ' v cv):Snd P NG ρ h o (some v) h':=
  ⟨hle,fun μ a w r hf hρ ro next Q hn=>by
    obtain⟨cv,w',μ',hrun,hst,hr⟩:=hs μ a w r hf hρ;refine⟨fun _ _=>trivial,?_⟩;show o.uponIn (Fr ro) 0 P a next Q ((o.semAt ro a.eval).run P w)
    rw[bV P hrun (fun d=>by simp) ro];exact hn μ' w' cv hst hr⟩
theorem Snd.skip {h':H}(hle:h.next≤h'.next)(hs:∀μ a w,RH NG μ h w→Fresh μ h.next h'.next→EvR μ ρ a→∃w' μ',(execOp a.eval o).run P w=.ok .skip w'∧Step NG μ h w μ' h' w'):Snd P NG ρ h o none h':=
  ⟨hle,fun μ a w r hf hρ ro next Q hn=>by
    obtain⟨w',μ',hrun,hst⟩:=hs μ a w r hf hρ;refine⟨fun _ _=>trivial,?_⟩;show o.uponIn (Fr ro) 0 P a next Q ((o.semAt ro a.eval).run P w)
    rw[bV P hrun (fun d=>by simp) ro];exact hn μ' w' undef hst trivial⟩
theorem fJ {μ:Mu}{a:Act}(hρ:EvR μ ρ a):∀(xs:List Operand) (vs:List Value),cQ ρ xs=some vs→LR μ vs (xs.map a.eval)
  |[],vs,he=>by simp only[cQ,kE]at he;subst he;exact .nil
  |x::xs,vs,he=>by
    simp only[cQ]at he;split at he
    ·rename_i v hv;split at he
     ·rename_i vs' hvs;simp only[kE]at he;subst he;exact .cons (hρ x v hv) (fJ hρ xs vs' hvs)
     ·simp at he
    ·simp at he
theorem eC {μ:Mu}{a:Act}(hρ:EvR μ ρ a){x:Option Operand}{v:Option Value}(he:iZ ρ x=some v):OR μ v (x.map a.eval):=by
  cases x with
  |none=>simp only[iZ,kE]at he;subst he;exact trivial
  |some x=>
    simp only[iZ]at he;split at he
    ·rename_i u hu;simp only[kE]at he;subst he;exact hρ x u hu
    ·simp at he
theorem fS {a:Act}{c:Call}{f:Operand}{dst:Option Tmp}{type:TypeId}{pos:String}{after:Array Edge}{guard:Option (Nat×Bool)}(hc:c.callee=.value f)
    {g:FuncId} {first cap:Array Value} (hf:a.eval f=.func (.func g) first cap) {fn:Func} (hfn:P.funcs[g]?=some fn) {b:Code} (hb:fn.body=some b) (hn:fn.name≠ "runtime.NumGoroutine") (w:World):
    (execOp a.eval ⟨dst,.call c,type,pos,after,guard⟩).run P w=.ok (.enter g (first++c.args.map a.eval++cap)) w:=by
  have:(fn.name== "runtime.NumGoroutine")=false:=by simpa using hn
  simp only[execOp,resolve,hc,hf,Deferred.ofValue,kR,kS,kQ,invoke,callFunc,run_program,hfn,this,pB,if_false,hb,Option.isNone_some]
theorem lQ {a:Act}{c:Call}{f:Operand}{dst:Option Tmp}{type:TypeId}{pos:String}{after:Array Edge}{guard:Option (Nat×Bool)}(hc:c.callee=.value f)
    {g:FuncId} {first cap:Array Value} (hf:a.eval f=.func (.func g) first cap) {cv:Value} {w w':World} (h:(callFunc g (first++c.args.map a.eval++cap)).run P w=.ok (.value cv) w'):
    (execOp a.eval ⟨dst,.call c,type,pos,after,guard⟩).run P w=.ok (.value cv) w':=by
  simp only[execOp,resolve,hc,hf,Deferred.ofValue,kR,kS,kQ,invoke,h]
theorem wM {NG:Nat}{μ:Mu}{h:H}{w:World}(r:RH NG μ h w){t:TypeId}{name:String}{g off:Nat}(hp:aJq P t name=some (g,off)){x p v cx:Value}
    (h1:A.u off x=some p) (h2:A.load false 1 p h=some v) (rx:VR μ x cx):
    ∃u cv,P.underlying t=some (.pointer u)∧(Go.method (P.types.size+Made.depth) t cx name).run P w=.ok (g,cv) w∧VR μ v cv:=by
  unfold aJq at hp;split at hp
  ·rename_i u ti hu hti;split at hp
   ·rename_i m hm;split at hp
    ·rename_i st g' hpath hfun;obtain⟨hd,hp⟩:=aA hp;split at hp
     ·rename_i f hf;split at hp
      ·rename_i e hn hg hue;simp only[kE,kK]at hp;obtain⟨rfl,rfl⟩:=hp;unfold A.u at h1;split at h1
       ·rename_i id o;simp only[kE]at h1;subst h1;obtain⟨l,hl,rfl⟩:=rx.ptr_inv;have rp:VR μ (.pointer (some ⟨id,o+f.offset,none⟩)) (.pointer (some ⟨l.blk,l.off+(o+f.offset),none⟩)):=.ptr hl;obtain⟨cv,hload,rv⟩:=mE (P:=P) r hg hn h2 rp;refine⟨u,cv,hu,?_,rv⟩;have hti':(typeInfo t).run P w=.ok ti w:=by simp only[typeInfo,kR,run_program,kQ,hti,kS]
        have hl':(loadVar f.type ⟨l.blk,l.off+o+f.offset,none⟩).run P w=.ok cv w:=by
          simp only[Instr.loadAt,Instr.sureAddr,kR,kS,kQ]at hload;rw[Nat.add_assoc];exact hload
        unfold lX at hf;split at hf
        ·rename_i fs hus;show(Go.method (P.types.size+99+1) t _ name).run P w=_;rw[Go.method];simp only[kR,hti',kQ,hm,hpath,follow,run_underlying hus,hf,hd,if_true,Place.get,kS,asAddr,fieldPlace,bD P hn,Nat.one_ne_zero,if_false,cI,hfun,receiverAt,run_underlying hue,hl']
        ·simp at hf
       ·simp at h1
      ·simp at hp
     ·simp at hp
    ·simp at hp
   ·simp at hp
  ·simp at hp
theorem nC {a:Act}{c:Call}{f:Operand}{dst:Option Tmp}{type:TypeId}{pos:String}{after:Array Edge}{guard:Option (Nat×Bool)}(hc:c.callee=.value f)
    {t u:TypeId} {name:String} (hf:a.eval f=.func (.methodOf t name) #[] #[]) {cx cr:Value} {rest:List Value} (ha:c.args.map a.eval=⟨cx::rest⟩) (hu:P.underlying t=some (.pointer u)) {g:FuncId} {w:World}
    (hm:(Go.method (P.types.size+Made.depth) t cx name).run P w=.ok (g,cr) w) {x:Next} {w':World} (h:(callFunc g ⟨cr::rest⟩).run P w=.ok x w'):
    (execOp a.eval ⟨dst,.call c,type,pos,after,guard⟩).run P w=.ok x w':=by
  have e1:(⟨cx::rest⟩:Array Value).extract 1 (⟨cx::rest⟩:Array Value).size=⟨rest⟩:=by apply Array.ext';simp
  have e2:#[cr]++(⟨rest⟩:Array Value)=⟨cr::rest⟩:=by apply Array.ext';simp
  have e3:(⟨cx::rest⟩:Array Value)[0]?=some cx:=rfl;simp only[execOp,resolve,hc,hf,ha,Deferred.ofValue,kR,kS,kQ,Go.invoke,Array.empty_append,e3,run_underlying hu,e1,callMethod,run_program,hm,e2,h]
theorem mK {a:Act}{c:Call}{f:Operand}{dst:Option Tmp}{type:TypeId}{pos:String}{after:Array Edge}{guard:Option (Nat×Bool)}(hc:c.callee=.value f)
    {l:Nat} (hf:a.eval f=.func (.yield l) #[] #[]) {x:Next} {w w':World} (h:(Instr.yield l (c.args.map a.eval)).run P w=.ok x w'):
    (execOp a.eval ⟨dst,.call c,type,pos,after,guard⟩).run P w=.ok x w':=by
  simp only[execOp,resolve,hc,hf,Deferred.ofValue,kR,kS,kQ,invoke,Array.empty_append,h]
theorem bN {a:Act}{c:Call}{b:Builtin}{dst:Option Tmp}{type:TypeId}{pos:String}{after:Array Edge}{guard:Option (Nat×Bool)}(hc:c.callee=.builtin b)(w:World):
    (execOp a.eval ⟨dst,.call c,type,pos,after,guard⟩).run P w=(builtin b c.argTypes type (c.args.map fun| .const _=>true|_=>false) (c.args.map a.eval)).run P w:=by
  simp only[execOp,resolve,hc,kR,kS,kQ,invoke];rfl
theorem iR {α:Type}{c:Bool}{x y:Option α}{a:α}(h:(bif c then x else y)=some a):x=some a∨y=some a:=by
  cases c with
  |false=>exact .inr h
  |true=>exact .inl h
theorem xL {n bs:Nat}{s x v:Value}{h h':H}(hv:A.zI n bs s x h=some (v,h')):h.next≤h'.next:=by
  have e1:∀(a b:Value) (k:H),(some (a,k):Option (Value×H))=some (b,h')→h.next≤k.next→h.next≤h'.next:=by
    intro a b k e hle;simp only[kE,kK]at e;rw[←e.2];exact hle
  unfold A.zI at hv;split at hv
  ·simp at hv
  ·split at hv
   ·rcases iR hv with hv|hv
    ·exact e1 _ _ _ hv (kF _)
    ·exact e1 _ _ _ (aA hv).2 (by simp)
   ·rcases iR hv with hv|hv
    ·exact e1 _ _ _ hv (kF _)
    ·split at hv
     ·rcases iR hv with hv|hv
      ·exact e1 _ _ _ (aA hv).2 (by simp)
      ·rcases iR (aA hv).2 with hv|hv
       ·exact e1 _ _ _ hv (by simp)
       ·exact e1 _ _ _ (aA hv).2 (by simp)
     ·exact e1 _ _ _ (aA hv).2 (by simp)
     ·simp at hv
   ·simp at hv
theorem aEg {n:Nat}{d x v:Value}{h h':H}(hv:A.yQ n d x h=some (v,h')):h.next≤h'.next:=by
  have e1:∀(a b:Value) (k:H),(some (a,k):Option (Value×H))=some (b,h')→h.next≤k.next→h.next≤h'.next:=by
    intro a b k e hle;simp only[kE,kK]at e;rw[←e.2];exact hle
  unfold A.yQ at hv;split at hv
  ·simp at hv
  ·split at hv
   ·exact e1 _ _ _ hv (kF _)
   ·rcases iR hv with hv|hv
    ·exact e1 _ _ _ hv (kF _)
    ·split at hv
     ·exact e1 _ _ _ (aA hv).2 (by simp)
     ·simp at hv
   ·simp at hv
theorem bind_some {α β:Type}{x:Option α}{f:α→Option β}{b:β}(h:x.bind f=some b):∃a,x=some a∧f a=some b:=by
  cases x with
  |none=>simp at h
  |some a=>exact⟨a,rfl,h⟩
theorem vL {t k e:TypeId}(h:aNu P t=some (k,e)):P.underlying t=some (.map k e):=by
  unfold aNu at h;split at h
  ·rename_i k' e' hu';simp only[kE,kK]at h;rw[hu',h.1,h.2]
  ·simp at h
theorem qM {k v x:Value}{h h':H}(hv:A.zU k v x h=some h'):h'.next=h.next:=by
  unfold A.zU at hv
  repeat' split at hv
  all_goals (first|(simp only[kE]at hv;rw[←hv];simp)|simp at hv)
theorem xB {k x:Value}{h h':H}(hv:A.yI k x h=some h'):h'.next=h.next:=by
  unfold A.yI at hv
  repeat' split at hv
  all_goals (first|(simp only[kE]at hv;rw[←hv];try simp)|simp at hv)
theorem xD {x:Value}{h h':H}(hv:A.yO x h=some h'):h'.next=h.next:=by
  unfold A.yO at hv
  repeat' split at hv
  all_goals (first|(simp only[kE]at hv;rw[←hv];try simp)|simp at hv)
theorem rE {x v:Value}{h h':H}(hv:A.yF x h=some (v,h')):h'.next=h.next+1:=by
  unfold A.yF at hv
  repeat' split at hv
  all_goals (first|(simp only[kE,kK]at hv;rw[←hv.2];simp)|simp at hv)
theorem aBh {x v:Value}{h h':H}(hv:A.yC x h=some (v,h')):h'.next=h.next:=by
  unfold A.yC at hv
  repeat' split at hv
  all_goals (first|(simp only[kE,kK]at hv;rw[←hv.2];try simp)|simp at hv)
theorem aBi {x v:Value}{h h':H}(hv:A.yJ x h=some (v,h')):h'.next=h.next:=by
  unfold A.yJ at hv;split at hv
  ·split at hv
   ·simp only[kE,kK]at hv;rw[←hv.2]
   ·split at hv
    ·rcases iR hv with hv|hv
     ·simp at hv
     ·split at hv
      ·simp only[kE,kK]at hv;rw[←hv.2]
      ·have:=(aA hv).2;simp only[kE,kK]at this;rw[←this.2];simp
      ·simp at hv
    ·simp at hv
   ·simp at hv
  ·simp at hv
theorem aAj {t e:TypeId}(h:nI P t=some e):P.underlying t=some (.slice e):=by
  unfold nI at h;split at h
  ·rename_i e' hu';simp only[kE]at h;subst h;exact hu'
  ·simp at h
set_option maxHeartbeats 1000000 in
theorem eD {β:Type}(hzp:aK P=true){C:CF}(hC:aM P NG C){K:Option Value→H→Option β}{r:β}(hr:aop P C ρ h o K=some r):
    ∃rv h',K rv h'=some r∧Snd P NG ρ h o rv h':=by
  obtain⟨dst,op,type,pos,after,guard⟩:=o
  cases op with
  |move x=>
    obtain⟨v,hv,hk⟩:=bind_some hr;exact⟨_,_,hk,.pure fun μ a w _ hρ=>⟨_,rfl,hρ x v hv⟩⟩
  |assign x=>
    obtain⟨v,hv,hk⟩:=bind_some hr;exact⟨_,_,hk,.pure fun μ a w _ hρ=>⟨_,rfl,hρ x v hv⟩⟩
  |pick c x y=>
    simp only[aop]at hr;split at hr
    ·rename_i t hc;have hrun:∀(μ:Mu) (a:Act) (w:World),EvR μ ρ a→(execOp a.eval ⟨dst,.pick c x y,type,pos,after,guard⟩).run P w=.ok (.value (if t then a.eval x else a.eval y)) w:=by
       intro μ a w hρ;have:=(hρ c _ hc).bool_inv;simp only[execOp,this,asBool,kR,kS,kQ]
     split at hr
     ·rename_i va vb ha hb;refine⟨_,_,hr,.pure fun μ a w _ hρ=>⟨_,hrun μ a w hρ,?_⟩⟩;cases t
      ·exact hρ y vb hb
      ·exact hρ x va ha
     ·rename_i va ha hb
      cases t with
      |false=>simp at hr
      |true=>exact⟨_,_,hr,.pure fun μ a w _ hρ=>⟨_,hrun μ a w hρ,hρ x va ha⟩⟩
     ·rename_i vb ha hb
      cases t with
      |true=>simp at hr
      |false=>exact⟨_,_,hr,.pure fun μ a w _ hρ=>⟨_,hrun μ a w hρ,hρ y vb hb⟩⟩
     ·simp at hr
    ·simp at hr
  |alloc t=>
    simp only[aop]at hr;split at hr
    ·rename_i z n hz hn;obtain⟨⟨v,h'⟩,hb,hk⟩:=bind_some hr;refine⟨_,_,hk,.val ?_ fun μ a w r hf _=>?_⟩
     ·unfold A.box at hb;split at hb
      ·obtain⟨_,hb⟩:=aA hb;simp only[kE,kK]at hb;rw[←hb.2];simp
      ·simp at hb
     ·have hfr:μ h.next=none:=hf _ (kF _) (by
        unfold A.box at hb;split at hb
        ·obtain⟨_,hb⟩:=aA hb;simp only[kE,kK]at hb;rw[←hb.2];simp
        ·simp at hb)
      obtain⟨ad,hrun,μ',hst,hv⟩:=tZ P r hfr (t:=t) hb (VR.of_plain μ z (dU P hzp hz));refine⟨_,_,μ',?_,hst,hv⟩;simp only[execOp,Instr.alloc,kR,eH P hz,kQ,hrun,kS]
    ·simp at hr
  |box t x=>
    simp only[aop]at hr;split at hr
    ·rename_i n v hn hx;obtain⟨⟨p,h'⟩,hb,hk⟩:=bind_some hr;have hnx:h'.next=h.next+1:=by
       unfold A.box at hb;split at hb
       ·obtain⟨_,hb⟩:=aA hb;simp only[kE,kK]at hb;rw[←hb.2];simp
       ·simp at hb
     refine⟨_,_,hk,.val (by show h.next≤h'.next;omega) fun μ a w r hf hρ=>?_⟩;obtain⟨ad,hrun,μ',hst,hv⟩:=tZ P r (hf _ (kF _) (by show h.next<h'.next;omega)) (t:=t) hb (hρ x v hx);refine⟨_,_,μ',?_,hst,hv⟩;simp only[execOp,Instr.box,kR,kQ,hrun,kS]
    ·simp at hr
  |build t ps=>
    simp only[aop]at hr;split at hr
    ·rename_i z l hz hl;obtain⟨hk0,hr⟩:=aA hr;obtain⟨v,hv,hk⟩:=bind_some hr;refine⟨_,_,hk,.pure fun μ a w _ hρ=>?_⟩;have hzpl:=dU P hzp hz;obtain⟨cv,hrun,hr'⟩:=xI P (μ:=μ) (w:=w) hρ hz (by simpa[aJ,lV]using hzpl) hl hk0 hv;exact⟨cv,by simp only[execOp,kR,hrun,kQ,kS],hr'⟩
    ·simp at hr
  |buildSlice t len ps=>
    simp only[aop]at hr;split at hr
    ·simp at hr
    ·rename_i e he;split at hr
     ·rename_i n z hn hz;split at hr
      ·rename_i zs l hzs hl;obtain⟨hc,hr⟩:=aA hr;simp only[kO,beq_iff,blt_iff,ble_iff]at hc;obtain⟨⟨v,h'⟩,hb,hk⟩:=bind_some hr;have hnx:h'.next=h.next+1:=by
         unfold A.zF at hb;obtain⟨_,_,hb⟩:=Option.map_eq_some_iff.1 hb;simp only[kK]at hb;rw[←hb.2];simp
       refine⟨_,_,hk,.val (by show h.next≤h'.next;omega) fun μ a w r hf hρ=>?_⟩;obtain⟨cv,w',μ',hrun,hst,hv⟩:=nD P r (hf _ (kF _) (by show h.next<h'.next;omega)) (t:=t) hρ he hn hz hzs (iD (dU P hzp hz) hzs) hc.1.1 hc.1.2 hc.2 hl hb;exact⟨cv,w',μ',by simp only[execOp,kR,hrun,kQ,kS],hst,hv⟩
      ·simp at hr
     ·simp at hr
  |load t x=>
    simp only[aop]at hr;split at hr
    ·rename_i g n p hg hn hp;obtain⟨v,hv,hk⟩:=bind_some hr;refine⟨_,_,hk,.pure fun μ a w r hρ=>?_⟩;obtain⟨cv,hrun,hr'⟩:=mE P r hg hn hv (hρ x p hp);exact⟨cv,by simp only[execOp,kR,hrun,kQ,kS],hr'⟩
    ·simp at hr
  |store t x y=>
    simp only[aop]at hr;split at hr
    ·rename_i n p v hn hp hv;obtain⟨h',hs,hk⟩:=bind_some hr;have hnx:h'.next=h.next:=by
       unfold A.store at hs;split at hs
       ·split at hs
        ·obtain⟨_,hs⟩:=aA hs;simp only[kE]at hs;rw[←hs];simp
        ·simp at hs
       ·simp at hs
     refine⟨_,_,hk,.skip (by show h.next≤h'.next;omega) fun μ a w r hf hρ=>?_⟩;obtain⟨w',hrun,hst⟩:=wF P r hn hs (hρ x p hp) (hρ y v hv);exact⟨w',μ,by simp only[execOp,kR,hrun,kQ,kS],hst⟩
    ·simp at hr
  |nilCheck x=>
    simp only[aop]at hr;obtain⟨v,hv,hr⟩:=bind_some hr;obtain⟨u,hu,hk⟩:=bind_some hr;refine⟨_,_,hk,.pure fun μ a w r hρ=>?_⟩;have hx:=hρ x v hv;unfold A.z at hu;split at hu
    ·simp only[kE]at hu;subst hu;refine⟨_,?_,hx⟩;have:∃b,a.eval x=.pointer (some b):=by
       generalize a.eval x=u at hx;cases hx;exact⟨_,rfl⟩
     obtain⟨b,hb⟩:=this;simp only[execOp,hb,kS]
    ·simp at hu
  |binOp op t x y t2=>
    simp only[aop]at hr;split at hr
    ·rename_i va vb ha hb;obtain⟨v,hv,hk⟩:=bind_some hr;refine⟨_,_,hk,.pure fun μ a w r hρ=>?_⟩;obtain⟨cv,hrun,hr'⟩:=aEi P (w:=w) (x:=x) (y:=y) hv (hρ x va ha) (hρ y vb hb);refine⟨cv,?_,hr'⟩;simp only[execOp];rw[kR,hrun];rfl
    ·simp at hr
  |unOp op t x=>
    simp only[aop]at hr;obtain⟨va,ha,hr⟩:=bind_some hr;obtain⟨v,hv,hk⟩:=bind_some hr;refine⟨_,_,hk,.pure fun μ a w r hρ=>?_⟩;obtain⟨cv,hrun,hr'⟩:=aGu P (w:=w) hv (hρ x va ha);exact⟨cv,by simp only[execOp,kR,hrun,kQ,kS],hr'⟩
  |convert s d x=>
    simp only[aop]at hr;split at hr
    ·simp at hr
    ·rename_i va ha;split at hr
     ·rename_i e hs hd;split at hr
      ·rename_i he;obtain⟨⟨v,h'⟩,hb,hk⟩:=bind_some hr;have hnx:h'.next=h.next+1:=by
         unfold A.s2b at hb;split at hb
         ·obtain⟨_,hb⟩:=aA hb;simp only[kE,kK]at hb;rw[←hb.2];simp
         ·simp at hb
       refine⟨_,_,hk,.val (by show h.next≤h'.next;omega) fun μ a w r hf hρ=>?_⟩;obtain⟨cv,w',μ',hrun,hst,hv⟩:=aDu P r (hf _ (kF _) (by show h.next<h'.next;omega)) hs hd he hb (hρ x va ha);exact⟨cv,w',μ',by simp only[execOp,kR,hrun,kQ,kS],hst,hv⟩
      ·simp at hr
     ·rename_i e hs hd;split at hr
      ·rename_i he;obtain⟨v,hv,hk⟩:=bind_some hr;refine⟨_,_,hk,.pure fun μ a w r hρ=>?_⟩;obtain⟨cv,hrun,hr'⟩:=aEj P r hs hd he hv (hρ x va ha);exact⟨cv,by simp only[execOp,kR,hrun,kQ,kS],hr'⟩
      ·simp at hr
     ·obtain⟨v,hv,hk⟩:=bind_some hr;refine⟨_,_,hk,.pure fun μ a w r hρ=>?_⟩;obtain⟨cv,hrun,hr'⟩:=aBu P (w:=w) hv (hρ x va ha);exact⟨cv,by simp only[execOp,kR,hrun,kQ,kS],hr'⟩
  |makeFunc f first captured=>
    cases f with
    |func f=>
      simp only[aop]at hr;split at hr
      ·rename_i va vb ha hb;refine⟨_,_,hr,.pure fun μ a w r hρ=>?_⟩;have r1:=fJ hρ _ _ ha;have r2:=fJ hρ _ _ hb;refine⟨.func (.func f) ⟨first.toList.map a.eval⟩ ⟨captured.toList.map a.eval⟩,?_,.func f _ _ _ _ r1.1 r2.1 r1.2 r2.2⟩;have e1:first.map a.eval=⟨first.toList.map a.eval⟩:=by apply Array.ext';simp
       have e2:captured.map a.eval=⟨captured.toList.map a.eval⟩:=by apply Array.ext';simp
       simp only[execOp,Instr.makeFunc,kR,kS,kQ,e1,e2]
      ·simp at hr
    |methodOf t m=>
      simp only[aop]at hr;split at hr
      ·rename_i ha hb;refine⟨_,_,hr,.pure fun μ a w r hρ=>⟨.func (.methodOf t m) #[] #[],?_,.methOf t m⟩⟩;have e1:first.map a.eval=#[]:=by apply Array.ext';simp[ha]
       have e2:captured.map a.eval=#[]:=by apply Array.ext';simp[hb]
       simp only[execOp,Instr.makeFunc,kR,kS,kQ,e1,e2]
      ·simp at hr
    |_=>simp[aop]at hr
  |makeSlice t l c=>
    simp only[aop]at hr;split at hr
    ·rename_i e vl vc he hl hc;split at hr
     ·rename_i n bs z hn hb hz;split at hr
      ·rename_i zs hzs;obtain⟨hcond,hr⟩:=aA hr;simp only[kO,beq_iff,blt_iff]at hcond;obtain⟨⟨v,h'⟩,hm,hk⟩:=bind_some hr;have hnx:h'.next=h.next+1:=by
         unfold A.zP at hm;split at hm
         ·obtain⟨_,hm⟩:=aA hm;simp only[kE,kK]at hm;rw[←hm.2];simp
         ·simp at hm
       refine⟨_,_,hk,.val (by show h.next≤h'.next;omega) fun μ a w r hf hρ=>?_⟩;obtain⟨cv,w',μ',hrun,hst,hv⟩:=oU P r (hf _ (kF _) (by show h.next<h'.next;omega)) (t:=t) he hn hb hz hzs (iD (dU P hzp hz) hzs) hcond.1 hcond.2 hm (hρ l vl hl) (hρ c vc hc);exact⟨cv,w',μ',by simp only[execOp,kR,hrun,kQ,kS],hst,hv⟩
      ·simp at hr
     ·simp at hr
    ·simp at hr
  |slice t x lo hi mx=>
    simp only[aop]at hr;split at hr
    ·rename_i v l q m hx hl hq hm;split at hr
     ·rename_i hu;split at hr
      ·obtain⟨u,hv,hk⟩:=bind_some hr;refine⟨_,_,hk,.pure fun μ a w r hρ=>?_⟩;obtain⟨cv,hrun,hr'⟩:=qI P (w:=w) hu hv (hρ x v hx) (eC hρ hl) (eC hρ hq);have:mx=none:=by
         cases mx with
         |none=>rfl
         |some mx=>simp only[iZ]at hm;split at hm<;>simp at hm
       subst this;exact⟨cv,by simp only[execOp,Option.map_none,kR,hrun,kQ,kS],hr'⟩
      ·simp at hr
     ·rename_i e hu;split at hr
      ·rename_i n hn;obtain⟨u,hv,hk⟩:=bind_some hr;refine⟨_,_,hk,.pure fun μ a w r hρ=>?_⟩;obtain⟨cv,hrun,hr'⟩:=wG P r hu hn hv (hρ x v hx) (eC hρ hl) (eC hρ hq) (eC hρ hm);exact⟨cv,by simp only[execOp,kR,hrun,kQ,kS],hr'⟩
      ·simp at hr
     ·rename_i len e hu;split at hr
      ·rename_i n hn;obtain⟨u,hv,hk⟩:=bind_some hr;refine⟨_,_,hk,.pure fun μ a w r hρ=>?_⟩;obtain⟨cv,hrun,hr'⟩:=qL P r hu hn hv (hρ x v hx) (eC hρ hl) (eC hρ hq) (eC hρ hm);exact⟨cv,by simp only[execOp,kR,hrun,kQ,kS],hr'⟩
      ·simp at hr
     ·simp at hr
    ·simp at hr
  |fieldAddr t x i=>
    simp only[aop]at hr;split at hr
    ·rename_i f v hf hx;split at hr
     ·rename_i n hn
      cases h0:Nat.beq n 0 with
      |true=>rw[h0]at hr;simp at hr
      |false=>
        rw[h0]at hr;simp only[cond_false]at hr;obtain⟨u,hv,hk⟩:=bind_some hr;refine⟨_,_,hk,.pure fun μ a w r hρ=>?_⟩;obtain⟨cv,hrun,hr'⟩:=oV P (w:=w) hf hn (fun e=>by rw[e]at h0;simp at h0) hv (hρ x v hx);exact⟨cv,by simp only[execOp,kR,hrun,kQ,kS],hr'⟩
     ·simp at hr
    ·simp at hr
  |field t x i=>
    simp only[aop]at hr;split at hr
    ·rename_i f v hf hx;split at hr
     ·rename_i g n hg hn;obtain⟨u,hv,hk⟩:=bind_some hr;refine⟨_,_,hk,.pure fun μ a w r hρ=>?_⟩;obtain⟨cv,hrun,hr'⟩:=wV P (w:=w) hf hg hn hv (hρ x v hx);exact⟨cv,by simp only[execOp,kR,hrun,kQ,kS],hr'⟩
     ·simp at hr
    ·simp at hr
  |indexAddr t x i=>
    simp only[aop]at hr;split at hr
    ·rename_i v iv hx hi;split at hr
     ·rename_i e hu;split at hr
      ·rename_i n hn;obtain⟨u,hv,hk⟩:=bind_some hr;refine⟨_,_,hk,.pure fun μ a w r hρ=>?_⟩;obtain⟨cv,hrun,hr'⟩:=aBm P (w:=w) hu hn hv (hρ x v hx) (hρ i iv hi);exact⟨cv,by simp only[execOp,kR,hrun,kQ,kS],hr'⟩
      ·simp at hr
     ·rename_i len e hu;split at hr
      ·rename_i n hn;obtain⟨u,hv,hk⟩:=bind_some hr;refine⟨_,_,hk,.pure fun μ a w r hρ=>?_⟩;obtain⟨cv,hrun,hr'⟩:=aBn P (w:=w) hu hn hv (hρ x v hx) (hρ i iv hi);exact⟨cv,by simp only[execOp,kR,hrun,kQ,kS],hr'⟩
      ·simp at hr
     ·simp at hr
    ·simp at hr
  |index t x i=>
    simp only[aop]at hr;split at hr
    ·rename_i v iv hx hi;split at hr
     ·rename_i hu;obtain⟨u,hv,hk⟩:=bind_some hr;refine⟨_,_,hk,.pure fun μ a w r hρ=>?_⟩;obtain⟨cv,hrun,hr'⟩:=qN P (w:=w) hu hv (hρ x v hx) (hρ i iv hi);exact⟨cv,by simp only[execOp,kR,hrun,kQ,kS],hr'⟩
     ·rename_i len e hu;split at hr
      ·rename_i g n hg hn;obtain⟨u,hv,hk⟩:=bind_some hr;refine⟨_,_,hk,.pure fun μ a w r hρ=>?_⟩;obtain⟨cv,hrun,hr'⟩:=wT P (w:=w) hu hg hn hv (hρ x v hx) (hρ i iv hi);exact⟨cv,by simp only[execOp,kR,hrun,kQ,kS],hr'⟩
      ·simp at hr
     ·simp at hr
    ·simp at hr
  |extract x i=>
    simp only[aop]at hr;obtain⟨v,hx,hr⟩:=bind_some hr;obtain⟨u,hv,hk⟩:=bind_some hr;refine⟨_,_,hk,.pure fun μ a w r hρ=>?_⟩;obtain⟨cv,hrun,hr'⟩:=sS P (w:=w) hv (hρ x v hx);exact⟨cv,by simp only[execOp,kR,hrun,kQ,kS],hr'⟩
  |makeMap t res=>
    cases res with
    |some x=>simp[aop]at hr
    |none=>
      simp only[aop,A.zJ,pD]at hr;refine⟨_,_,hr,.val (by simp) fun μ a w r hf hρ=>?_⟩;obtain⟨cv,w',μ',hrun,hst,hv⟩:=sR (P:=P) r (hf _ (kF _) (by simp)) t;exact⟨cv,w',μ',by simp only[execOp,Option.map_none,kR,hrun,kQ,kS],hst,hv⟩
  |lookup t x k co=>
    simp only[aop]at hr;split at hr
    ·rename_i kt et v kv ht hx hk;split at hr
     ·rename_i s z hs hz;obtain⟨u,hv,hk2⟩:=bind_some hr;obtain⟨hkk,hv⟩:=aA hv;have hkk:=aCx hs hkk;refine⟨_,_,hk2,.pure fun μ a w r hρ=>?_⟩;obtain⟨cv,hrun,hr'⟩:=uT r (vL ht) hz (dU P hzp hz) hkk hv (hρ x v hx) (hρ k kv hk);exact⟨cv,by simp only[execOp,kR,hrun,kQ,kS],hr'⟩
     ·simp at hr
    ·simp at hr
  |mapUpdate t x k y=>
    simp only[aop]at hr;split at hr
    ·rename_i kt et v kv yv ht hx hk hy;split at hr
     ·rename_i s hsk;obtain⟨h',hs,hk2⟩:=bind_some hr;obtain⟨hkk,hs⟩:=aA hs;have hkk:=aCx hsk hkk;have hnx:=qM hs;refine⟨_,_,hk2,.skip (by show h.next≤h'.next;omega) fun μ a w r hf hρ=>?_⟩;obtain⟨w',hrun,hst⟩:=oT r (vL ht) hkk hs (hρ x v hx) (hρ k kv hk) (hρ y yv hy);exact⟨w',μ,by simp only[execOp,kR,hrun,kQ,kS],hst⟩
     ·simp at hr
    ·simp at hr
  |range t x=>
    simp only[aop]at hr;split at hr
    ·rename_i xv hu hx;obtain⟨⟨v,h'⟩,hb,hk⟩:=bind_some hr;obtain⟨s,rfl⟩:∃s,xv=.string s:=by cases xv<;>first|exact⟨_,rfl⟩|simp[A.zZ]at hb
     simp only[A.zZ]at hb;have hnx:=rE hb;refine⟨_,_,hk,.val (by show h.next≤h'.next;omega) fun μ a w r hf hρ=>?_⟩;obtain⟨cv,w',μ',hrun,hst,hv⟩:=uQ r (hf _ (kF _) (by show h.next<h'.next;omega)) hu hb (hρ x _ hx);exact⟨cv,w',μ',by simp only[execOp,kR,hrun,kQ,kS],hst,hv⟩
    ·rename_i kt et xv hu hx;obtain⟨⟨v,h'⟩,hb,hk⟩:=bind_some hr;obtain⟨m,rfl⟩:∃m,xv=.map m:=by cases xv<;>first|exact⟨_,rfl⟩|simp[A.zX]at hb
     simp only[A.zX]at hb;have hnx:=rE hb;refine⟨_,_,hk,.val (by show h.next≤h'.next;omega) fun μ a w r hf hρ=>?_⟩;obtain⟨cv,w',μ',hrun,hst,hv⟩:=uR r (hf _ (kF _) (by show h.next<h'.next;omega)) hu hb (hρ x _ hx);exact⟨cv,w',μ',by simp only[execOp,kR,hrun,kQ,kS],hst,hv⟩
    ·simp at hr
  |next x str=>
    simp only[aop]at hr;split at hr
    ·rename_i xv hx
     cases str with
     |true=>
       simp only[cond_true]at hr;obtain⟨⟨v,h'⟩,hb,hk⟩:=bind_some hr;have hnx:=aBh hb;refine⟨_,_,hk,.val (by show h.next≤h'.next;omega) fun μ a w r hf hρ=>?_⟩;obtain⟨cv,w',hrun,hst,hv⟩:=wN (P:=P) r hb (hρ x _ hx) type;exact⟨cv,w',μ,by simp only[execOp,kR,hrun,kQ,kS],hst,hv⟩
     |false=>
       simp only[cond_false]at hr;obtain⟨⟨v,h'⟩,hb,hk⟩:=bind_some hr;have hnx:=aBi hb;refine⟨_,_,hk,.val (by show h.next≤h'.next;omega) fun μ a w r hf hρ=>?_⟩;obtain⟨cv,w',hrun,hst,hv⟩:=wO (P:=P) r hb (hρ x _ hx) type;exact⟨cv,w',μ,by simp only[execOp,kR,hrun,kQ,kS],hst,hv⟩
    ·simp at hr
  |entry x=>
    simp only[aop]at hr;obtain⟨xv,hx,hr⟩:=bind_some hr;obtain⟨u,hv,hk⟩:=bind_some hr;refine⟨_,_,hk,.pure fun μ a w r hρ=>?_⟩;obtain⟨cv,hrun,hr'⟩:=xA (P:=P) r hv (hρ x xv hx);exact⟨cv,by simp only[execOp,kR,hrun,kQ,kS],hr'⟩
  |call c=>
    obtain⟨callee,args,argTypes⟩:=c
    cases callee with
    |value f=>
      simp only[aop]at hr;split at hr
      ·rename_i fv vs hf hvs;obtain⟨⟨v,h'⟩,hb,hk⟩:=bind_some hr;have r3:∀(μ:Mu) (a:Act),EvR μ ρ a→LR μ vs (args.toList.map a.eval):=fun μ a hρ=>fJ hρ _ _ hvs;have eargs:∀a:Act,args.map a.eval=⟨args.toList.map a.eval⟩:=fun a=>by apply Array.ext';simp
       unfold callM at hb;split at hb
       ·rename_i t name fa fb;split at hb
        ·rename_i g off x xs hp;obtain⟨hg,hb⟩:=aA hb;have hg:=blt_iff.1 hg;obtain⟨p,hp1,hb⟩:=bind_some hb;obtain⟨v0,hp2,hb⟩:=bind_some hb;obtain⟨hle,hfun,_⟩:=hC _ _ _ _ _ hb;obtain⟨fn,hfn,hnm,hfun⟩:=hfun hg;refine⟨_,_,hk,hle,fun μ a w r hfr hρ ro next Q hn=>?_⟩
         have hfv:=hρ f _ hf;have hef:a.eval f=.func (.methodOf t name) #[] #[]:=by
           generalize he:a.eval f=u at hfv
           cases hfv with
           |methOf=>rfl
         have hl:=r3 μ a hρ;obtain⟨cx,rest,hcr,rx,rl⟩:∃cx rest,args.toList.map a.eval=cx::rest∧VR μ x cx∧LR μ xs rest:=by
           generalize args.toList.map a.eval=ds at hl
           cases ds with
           |nil=>have:=hl.1;simp at this
           |cons d ds=>exact⟨d,ds,rfl,hl.2 0 x d rfl rfl,⟨by have:=hl.1;simpa using this,fun i a b ha hb=>hl.2 (i+1) a b (by simpa using ha) (by simpa using hb)⟩⟩
         have hargs:args.map a.eval=⟨cx::rest⟩:=by rw[eargs a,hcr]
         obtain⟨u,cv0,hu,hm,rv0⟩:=wM r hp hp1 hp2 rx;have e:=fun{y:Next} {w':World} (hh:(callFunc g ⟨cv0::rest⟩).run P w=.ok y w')=>nC (dst:=dst) (type:=type) (pos:=pos) (after:=after) (guard:=guard) (c:=⟨.value f,args,argTypes⟩) rfl hef hargs hu hm hh;refine⟨fun _ _=>trivial,?_⟩;show Oper.uponIn (Fr ro) 0 P _ a next Q ((Oper.semAt ro a.eval _).run P w)
         rcases hfun with⟨⟨b,hbd⟩,hcall⟩|⟨hbd,hcall⟩
         ·have hne:(fn.name== "runtime.NumGoroutine")=false:=by simpa using hnm
          have hen:(callFunc g ⟨cv0::rest⟩).run P w=.ok (.enter g ⟨cv0::rest⟩) w:=by
            simp only[callFunc,kR,run_program,kQ,hfn,hne,pB,if_false,hbd,Option.isNone_some,kS]
          rw[bV P (e hen) (fun d=>by simp) ro];simp only[Oper.uponIn];exact⟨fun h=>by simp[Fr,Fence.wide]at h,callsIn_Fr.2 ((hcall μ w _ r hfr (rl.cons rv0)).mono fun e w' ⟨cv,μ',he,hst,hv⟩=>by
            subst he;exact hn μ' w' cv hst hv)⟩
         ·obtain⟨cv,w',μ',hrun,hst,hv⟩:=hcall μ w _ r hfr (rl.cons rv0);rw[bV P (e hrun) (fun d=>by simp) ro];exact hn μ' w' cv hst hv
        ·simp at hb
       unfold callV at hb;split at hb
       ·rename_i g first cap _
        obtain⟨hg,hb⟩:=aA hb;have hg:=blt_iff.1 hg;obtain⟨hle,hfun,_⟩:=hC _ _ _ _ _ hb;obtain⟨fn,hfn,hnm,hfun⟩:=hfun hg;refine⟨_,_,hk,hle,fun μ a w r hfr hρ ro next Q hn=>?_⟩
        have hfv:=hρ f _ hf;have:∃cf cc,a.eval f=.func (.func g) ⟨cf⟩ ⟨cc⟩∧LR μ first cf∧LR μ cap cc:=by
          generalize he:a.eval f=u at hfv
          cases hfv with
          |func _ _ _ cs' ds' h1 h2 g1 g2=>exact⟨cs',ds',rfl,⟨h1,g1⟩,⟨h2,g2⟩⟩
        obtain⟨cf,cc,hef,r1,r2⟩:=this;have e:((⟨cf⟩:Array Value)++args.map a.eval++(⟨cc⟩:Array Value))=⟨cf++args.toList.map a.eval++cc⟩:=by apply Array.ext';simp
        refine⟨fun _ _=>trivial,?_⟩;show Oper.uponIn (Fr ro) 0 P _ a next Q ((Oper.semAt ro a.eval _).run P w)
        rcases hfun with⟨⟨b,hbd⟩,hcall⟩|⟨hbd,hcall⟩
        ·rw[bV P (fS (c:=⟨.value f,args,argTypes⟩) rfl hef hfn hbd hnm w) (fun d=>by simp) ro];simp only[Oper.uponIn,e];exact⟨fun h=>by simp[Fr,Fence.wide]at h,callsIn_Fr.2 ((hcall μ w _ r hfr ((r1.append (r3 μ a hρ)).append r2)).mono fun e w' ⟨cv,μ',he,hst,hv⟩=>by
           subst he;exact hn μ' w' cv hst hv)⟩
        ·obtain⟨cv,w',μ',hrun,hst,hv⟩:=hcall μ w _ r hfr ((r1.append (r3 μ a hρ)).append r2);rw[←e]at hrun;rw[bV P (lQ (c:=⟨.value f,args,argTypes⟩) rfl hef hrun) (fun d=>by simp) ro];exact hn μ' w' cv hst hv
       ·rename_i id fa fb _;obtain⟨hle,_,hround⟩:=hC _ _ _ _ _ hb;refine⟨_,_,hk,hle,fun μ a w r hfr hρ ro next Q hn=>?_⟩
        have hfv:=hρ f _ hf;have:∃l,μ id=some l∧a.eval f=.func (.yield l.blk) #[] #[]:=by
          generalize he:a.eval f=u at hfv
          cases hfv with
          |yield hl=>exact⟨_,hl,rfl⟩
        obtain⟨l,hl,hef⟩:=this;obtain⟨g,tm,as,bd,hy,hro⟩:=hround id vs rfl rfl μ w _ l r hfr (r3 μ a hρ) hl;rw[←eargs a]at hy;refine⟨fun _ _=>trivial,?_⟩;show Oper.uponIn (Fr ro) 0 P _ a next Q ((Oper.semAt ro a.eval _).run P w)
        rw[bV P (mK (c:=⟨.value f,args,argTypes⟩) rfl hef hy) (fun d=>by simp) ro];refine⟨fun h=>by simp[Fr,Fence.wide]at h,?_⟩;have hro':RoundIn (Fr ro) 0 P l.blk g tm as bd w (fX NG μ h w v h'):=hro;exact hro'.mono fun e w' ⟨cv,μ',he,hst,hv⟩=>by
          subst he;exact hn μ' w' cv hst hv
       ·simp at hb
      ·simp at hr
    |invoke x m=>simp[aop]at hr
    |builtin b=>
      simp only[aop]at hr;split at hr
      ·simp at hr
      ·rename_i vs hvs;have hargs:∀(μ:Mu) (a:Act),EvR μ ρ a→LR μ vs (args.toList.map a.eval)∧args.map a.eval=⟨args.toList.map a.eval⟩:=fun μ a hρ=>
         ⟨fJ hρ _ _ hvs,by apply Array.ext';simp⟩
       have one:∀(μ:Mu) (v:Value) (cs:List Value),LR μ [v] cs→∃c,cs=[c]∧VR μ v c:=by
         intro μ v cs hl
         match cs,hl with
         |[c],hl=>exact⟨c,rfl,hl.2 0 v c rfl rfl⟩
         |[],hl=>have:=hl.1;simp at this
         |_::_::_,hl=>have:=hl.1;simp at this
       have two:∀(μ:Mu) (v u:Value) (cs:List Value),LR μ [v,u] cs→∃c d,cs=[c,d]∧VR μ v c∧VR μ u d:=by
         intro μ v u cs hl
         match cs,hl with
         |[c,d],hl=>exact⟨c,d,rfl,hl.2 0 v c rfl rfl,hl.2 1 u d rfl rfl⟩
         |[],hl=>have:=hl.1;simp at this
         |[_],hl=>have:=hl.1;simp at this
         |_::_::_::_,hl=>have:=hl.1;simp at this
       split at hr
       ·rename_i v;split at hr
        ·rename_i e hu;obtain⟨u,hv,hk⟩:=bind_some hr;refine⟨_,_,hk,.pure fun μ a w r hρ=>?_⟩;obtain⟨hl,hae⟩:=hargs μ a hρ;obtain⟨c,hc,hvc⟩:=one μ v _ hl;obtain⟨t,ht,hu⟩:=bind_some hu;have hrun:=aBj P (w:=w) hu hv hvc type;refine⟨u,?_,hrun.2⟩;have ea:∃ts:List TypeId,argTypes=⟨t::ts⟩:=by
           obtain⟨l⟩:=argTypes
           cases l with
           |nil=>simp at ht
           |cons t' ts=>simp at ht;subst ht;exact⟨ts,rfl⟩
         obtain⟨ts,rfl⟩:=ea;rw[bN rfl,hae,hc];have e2:Builtin.len_ ⟨t::ts⟩ type #[c]=Builtin.len_ #[t] type #[c]:=by simp[Builtin.len_]
         simp only[builtin,e2,kR,hrun.1,kQ,kS]
        ·rename_i hu;obtain⟨u,hv,hk⟩:=bind_some hr;refine⟨_,_,hk,.pure fun μ a w r hρ=>?_⟩;obtain⟨hl,hae⟩:=hargs μ a hρ;obtain⟨c,hc,hvc⟩:=one μ v _ hl;obtain⟨t,ht,hu⟩:=bind_some hu;have hrun:=uU P (w:=w) hu hv hvc type;refine⟨u,?_,hrun.2⟩;have ea:∃ts:List TypeId,argTypes=⟨t::ts⟩:=by
           obtain⟨l⟩:=argTypes
           cases l with
           |nil=>simp at ht
           |cons t' ts=>simp at ht;subst ht;exact⟨ts,rfl⟩
         obtain⟨ts,rfl⟩:=ea;rw[bN rfl,hae,hc];have e2:Builtin.len_ ⟨t::ts⟩ type #[c]=Builtin.len_ #[t] type #[c]:=by simp[Builtin.len_]
         simp only[builtin,e2,kR,hrun.1,kQ,kS]
        ·rename_i k e hu;obtain⟨u,hv,hk⟩:=bind_some hr;refine⟨_,_,hk,.pure fun μ a w r hρ=>?_⟩;obtain⟨hl,hae⟩:=hargs μ a hρ;obtain⟨c,hc,hvc⟩:=one μ v _ hl;obtain⟨t,ht,hu⟩:=bind_some hu;have hrun:=aBk P (w:=w) r hu hv hvc type;refine⟨u,?_,hrun.2⟩;have ea:∃ts:List TypeId,argTypes=⟨t::ts⟩:=by
           obtain⟨l⟩:=argTypes
           cases l with
           |nil=>simp at ht
           |cons t' ts=>simp at ht;subst ht;exact⟨ts,rfl⟩
         obtain⟨ts,rfl⟩:=ea;rw[bN rfl,hae,hc];have e2:Builtin.len_ ⟨t::ts⟩ type #[c]=Builtin.len_ #[t] type #[c]:=by simp[Builtin.len_]
         simp only[builtin,e2,kR,hrun.1,kQ,kS]
        ·simp at hr
       ·rename_i s x;split at hr
        ·rename_i e d he hd;split at hr
         ·simp at hr
         ·rename_i hnot;split at hr
          ·rename_i n bs zs hn hb hz;obtain⟨hc,hr⟩:=aA hr;simp only[kO,beq_iff,blt_iff]at hc;obtain⟨⟨v,h'⟩,hv,hk⟩:=bind_some hr;obtain⟨t,ht,he⟩:=bind_some he;obtain⟨t2,ht2,hd⟩:=bind_some hd;obtain⟨z,hz1,hz2⟩:=bind_some hz;refine⟨_,_,hk,.val (xL hv) fun μ a w r hf hρ=>?_⟩;obtain⟨hl,hae⟩:=hargs μ a hρ;obtain⟨c1,c2,hcs,r1,r2⟩:=two μ s x _ hl;obtain⟨cv,w',μ',hrun,hst,hv'⟩:=vD P r hf (aAj he) hn hb hz1 hz2 hc.1.2 hd (fun k e=>hnot k e) hc.2 hv r1 r2 type;refine⟨cv,w',μ',?_,hst,hv'⟩;rw[bN rfl,hae,hcs];have e2:Builtin.append_ argTypes type #[c1,c2]=Builtin.append_ #[t,t2] type #[c1,c2]:=by simp[Builtin.append_,ht,ht2]
           simp only[builtin];rw[show(⟨[c1,c2]⟩:Array Value)=#[c1,c2]from rfl,e2];simp only[kR,hrun,kQ,kS]
          ·simp at hr
        ·simp at hr
       ·rename_i d x;split at hr
        ·rename_i e he;split at hr
         ·rename_i n hn;obtain⟨⟨v,h'⟩,hv,hk⟩:=bind_some hr;obtain⟨t,ht,he⟩:=bind_some he;refine⟨_,_,hk,.val (aEg hv) fun μ a w r hf hρ=>?_⟩;obtain⟨hl,hae⟩:=hargs μ a hρ;obtain⟨c1,c2,hcs,r1,r2⟩:=two μ d x _ hl;obtain⟨cv,w',hrun,hst,hv'⟩:=aBt P (t2:=0) r (aAj he) hn hv r1 r2 type;refine⟨cv,w',μ,?_,hst,hv'⟩;rw[bN rfl,hae,hcs];have e2:Builtin.copy_ argTypes type #[c1,c2]=Builtin.copy_ #[t,0] type #[c1,c2]:=by simp[Builtin.copy_,ht]
          simp only[builtin];rw[show(⟨[c1,c2]⟩:Array Value)=#[c1,c2]from rfl,e2];simp only[kR,hrun,kQ,kS]
         ·simp at hr
        ·simp at hr
       ·rename_i m k;split at hr
        ·rename_i kt et he;split at hr
         ·rename_i s hsk;obtain⟨h',hv,hk⟩:=bind_some hr;obtain⟨hkk,hv⟩:=aA hv;have hkk:=aCx hsk hkk;obtain⟨t,ht,he⟩:=bind_some he;have hnx:=xB hv;refine⟨_,_,hk,.val (by show h.next≤h'.next;omega) fun μ a w r hf hρ=>?_⟩;obtain⟨hl,hae⟩:=hargs μ a hρ;obtain⟨c1,c2,hcs,r1,r2⟩:=two μ m k _ hl;obtain⟨w',hrun,hst⟩:=uV r ht (vL he) hkk hv r1 r2 type;refine⟨.tuple #[],w',μ,?_,hst,.tuple [] [] rfl (by simp)⟩;rw[bN rfl,hae,hcs];simp only[builtin];rw[show(⟨[c1,c2]⟩:Array Value)=#[c1,c2]from rfl];simp only[kR,hrun,kQ,kS]
         ·simp at hr
        ·simp at hr
       ·rename_i x;split at hr
        ·rename_i kt et he;obtain⟨h',hv,hk⟩:=bind_some hr;obtain⟨t,ht,he⟩:=bind_some he;have hnx:=xD hv;refine⟨_,_,hk,.val (by show h.next≤h'.next;omega) fun μ a w r hf hρ=>?_⟩;obtain⟨hl,hae⟩:=hargs μ a hρ;obtain⟨c1,hcs,r1⟩:=one μ x _ hl;obtain⟨w',hrun,hst⟩:=uY r ht he hv r1 type;refine⟨.tuple #[],w',μ,?_,hst,.tuple [] [] rfl (by simp)⟩;rw[bN rfl,hae,hcs];simp only[builtin];rw[show(⟨[c1]⟩:Array Value)=#[c1]from rfl];simp only[kR,hrun,kQ,kS]
        ·rename_i e he;split at hr
         ·rename_i n zs hn hz;obtain⟨hc,hr⟩:=aA hr;simp only[kO,beq_iff,blt_iff]at hc;obtain⟨h',hv,hk⟩:=bind_some hr;obtain⟨t,ht,he⟩:=bind_some he;obtain⟨z,hz1,hz2⟩:=bind_some hz;have hnx:h'.next=h.next:=by
            unfold A.clear at hv;split at hv
            ·simp only[kE]at hv;rw[hv]
            ·rcases iR hv with hv|hv
             ·simp only[kE]at hv;rw[hv]
             ·split at hv
              ·have:=(aA hv).2;simp only[kE]at this;rw[←this];simp
              ·simp at hv
            ·simp at hv
          refine⟨_,_,hk,.val (by show h.next≤h'.next;omega) fun μ a w r hf hρ=>?_⟩;obtain⟨hl,hae⟩:=hargs μ a hρ;obtain⟨c1,hcs,r1⟩:=one μ x _ hl;obtain⟨w',hrun,hst⟩:=xC P r he hz1 hz2 (iD (dU P hzp hz1) hz2) hc.1 hc.2 hv r1 type;refine⟨.tuple #[],w',μ,?_,hst,.tuple [] [] rfl (by simp)⟩;rw[bN rfl,hae,hcs];have e2:Builtin.clear_ argTypes type #[c1]=Builtin.clear_ #[t] type #[c1]:=by simp[Builtin.clear_,ht]
          simp only[builtin];rw[show(⟨[c1]⟩:Array Value)=#[c1]from rfl,e2];simp only[kR,hrun,kQ,kS]
         ·simp at hr
        ·simp at hr
       ·obtain⟨u,hv,hk⟩:=bind_some hr;refine⟨_,_,hk,.pure fun μ a w r hρ=>?_⟩;obtain⟨hl,hae⟩:=hargs μ a hρ;obtain⟨cv,hrun,hr'⟩:=wL P (w:=w) (consts:=args.map fun| .const _=>true|_=>false) hv hl;exact⟨cv,by rw[bN rfl,hae];exact hrun,hr'⟩
  |_=>simp[aop]at hr
end Go.AM

namespace Go.AM
open Go
def bU (fr:T Value)(dst:Option Tmp)(v:Option Value):T Value:=
  match dst with
  |some d=>fr.set d v
  |none=>fr
def dJ (nt:Nat)(ops:Array Oper):Bool:=ops.toList.all fun o=>match o.dst with|some d=>Nat.blt d nt|none=>true
def runOps {β:Type}(P:Program)(C:CF)(NG:Nat)(ops:Array Oper):List Oper→T Value→H→(T Value→H→Option β)→Option β
  |[],fr,h,K=>K fr h
  |o::rest,fr,h,K=>
    match o.guard with
    |none=>aop P C (aG NG fr h) h o (bE P o fun rv h'=>runOps P C NG ops rest (bU fr o.dst rv) h' K)
    |some (j,want)=>
      match(ops[j]?).bind (·.dst)with
      |none=>none
      |some d=>
        match fr.get d with
        |some (.bool b)=>
          bif b then
            (bif want then aop P C (aG NG (fr.set d (some (.bool true))) h) h o (bE P o fun rv h'=>runOps P C NG ops rest (bU (fr.set d (some (.bool true))) o.dst rv) h' K)
             else runOps P C NG ops rest (bU (fr.set d (some (.bool true))) o.dst (some undef)) h K)
          else
            (bif want then runOps P C NG ops rest (bU (fr.set d (some (.bool false))) o.dst (some undef)) h K
             else aop P C (aG NG (fr.set d (some (.bool false))) h) h o (bE P o fun rv h'=>runOps P C NG ops rest (bU (fr.set d (some (.bool false))) o.dst rv) h' K))
        |some (.tuple _)=>runOps P C NG ops rest (bU fr o.dst (some undef)) h K
        |_=>none
def bNu (t:Tmp)(s:List Tmp):List Tmp:=bif s.any (Nat.beq t)then s else t::s
def mS (a b:List Tmp):List Tmp:=a.foldl (fun s t=>bNu t s) b
def lU (o:Oper)(ops:Array Oper):List Tmp:=
  (o.op.operands.toList.filterMap fun| .tmp t=>some t|_=>none)++
  (match o.guard with
   |some (j,_)=>((ops[j]?).bind (·.dst)).toList
   |none=>[])
def vM (ops:Array Oper):List Oper→List Tmp→List Tmp
  |[],s=>s
  |o::r,s=>
    mS (lU o ops) (match o.dst with
      |some d=>(vM ops r s).filter fun t=>!Nat.beq t d
      |none=>vM ops r s)
def aCh (id:Nat):List (Nat×List Tmp)→List Tmp
  |[]=>[]
  |(j,s)::r=>bif Nat.beq j id then s else aCh id r
def live (RR:List Tmp):Code→List Tmp→List (Nat×List Tmp)→List Tmp
  | .region _ ops _,s,_=>vM ops ops.toList s
  | .seq a b,s,e=>live RR a (live RR b s e) e
  | .cond c a b,s,e=>mS (match c with| .tmp t=>[t]|_=>[]) (mS (live RR a s e) (live RR b s e))
  | .block id b,s,e=>live RR b s ((id,s)::e)
  | .loop b,_,e=>live RR b [] e
  | .scope b,s,e=>live RR b s e
  | .rangeFunc g _ as b,s,e=>mS (match g with| .tmp t=>[t]|_=>[]) (mS (e.foldl (fun a p=>mS a p.2) (mS RR s)) (live RR as (live RR b [] e) e))
  | .exit id,_,e=>aCh id e
  | .ret,_,_=>RR
  |_,s,_=>s
def bQ (fr:T Value):List Tmp→T Value
  |[]=>.nil
  |t::r=>match fr.get t with
    |some v=>(bQ fr r).set t (some v)
    |none=>bQ fr r
theorem eQ (fr:T Value):∀(s:List Tmp) (t:Tmp) (v:Value),(bQ fr s).get t=some v→fr.get t=some v
  |[],t,v,h=>by simp[bQ]at h
  |u::r,t,v,h=>by
    simp only[bQ]at h;split at h
    ·rename_i x hx;rw[T.get_set]at h;split at h
     ·rename_i e;subst e;rw[hx];exact h
     ·exact eQ fr r t v h
    ·exact eQ fr r t v h
def restrict (lv:Bool)(s:List Tmp)(fr:T Value):T Value:=bif lv then bQ fr s else fr
theorem uN {lv:Bool}{s:List Tmp}{fr:T Value}{t:Tmp}{v:Value}(h:(restrict lv s fr).get t=some v):fr.get t=some v:=by
  unfold restrict at h
  cases lv with
  |false=>exact h
  |true=>exact eQ fr s t v h
def FR (nt:Nat)(μ:Mu)(fr:T Value)(a:Act):Prop:=
  nt≤a.tmps.size∧∀(t:Tmp) (v:Value),fr.get t=some v→t<nt∧VR μ v (a.tmps.getD t undef)
theorem FR.mono {nt:Nat}{μ μ':Mu}(hle:μ.le μ'){fr:T Value}{a:Act}(f:FR nt μ fr a):FR nt μ' fr a:=
  ⟨f.1,fun t v h=>⟨(f.2 t v h).1,(f.2 t v h).2.mono hle⟩⟩
theorem FR.restrict {nt:Nat}{μ:Mu}{lv:Bool}{s:List Tmp}{fr:T Value}{a:Act}(f:FR nt μ fr a):FR nt μ (restrict lv s fr) a:=
  ⟨f.1,fun t v h=>f.2 t v (uN h)⟩
theorem FR.put {nt:Nat}{μ:Mu}{fr:T Value}{a:Act}(f:FR nt μ fr a){dst:Option Tmp}(hd:∀d,dst=some d→d<nt){rv:Option Value}{cv:Value}(hv:RV μ rv cv):
    FR nt μ (bU fr dst rv) (a.put dst cv):=by
  cases dst with
  |none=>exact f
  |some d=>
    refine⟨by simpa[Act.put]using f.1,fun t v h=>?_⟩;simp only[bU,T.get_set]at h;have hdn:=hd d rfl;have hds:d<a.tmps.size:=kH hdn f.1;split at h
    ·rename_i e;subst e;subst h;exact⟨hdn,by simpa[Act.put,hds,RV]using hv⟩
    ·rename_i e;obtain⟨h1,h2⟩:=f.2 t v h;refine⟨h1,?_⟩;simp only[Act.put,pG,Array.getElem?_setIfInBounds_ne (Ne.symm e)];simpa using h2
theorem FR.same {nt:Nat}{μ:Mu}{fr:T Value}{a:Act}(f:FR nt μ fr a){d:Tmp}{v:Value}(h:fr.get d=some v):FR nt μ (fr.set d (some v)) a:=
  ⟨f.1,fun t u hu=>by
    rw[T.get_set]at hu;split at hu
    ·rename_i e;subst e;exact f.2 t u (by rw[h];exact hu)
    ·exact f.2 t u hu⟩
theorem FR.ev {NG nt:Nat}{μ:Mu}{fr:T Value}{h:H}{w:World}{a:Act}(f:FR nt μ fr a)(r:RH NG μ h w):EvR μ (aG NG fr h) a:=by
  intro x v hv
  cases x with
  |tmp t=>exact(f.2 t v hv).2
  |const u=>
    simp only[aG]at hv;obtain⟨hp,hv⟩:=aA hv;simp only[kE]at hv;subst hv;exact VR.of_plain μ _ hp
  |global g=>
    simp only[aG]at hv;obtain⟨hg,hv⟩:=aA hv;simp only[kE]at hv;subst hv;obtain⟨l,hl,e1,e2⟩:=r.gl g (blt_iff.1 hg);have:=VR.ptr (off:=0) hl;rw[e1,e2]at this;exact this
  |func f=>
    simp only[aG,kE]at hv;subst hv;exact .func f [] [] [] [] rfl rfl (by simp) (by simp)
theorem FR.yielded {nt:Nat}{μ:Mu}{fr:T Value}{a:Act}(f:FR nt μ fr a){ops:Array Oper}{j:Nat}{d:Tmp}(hd:(ops[j]?).bind (·.dst)=some d){b:Bool}
    (hb:fr.get d=some (.bool b)):Go.yielded ops a.tmps j=some b:=by
  obtain⟨h1,h2⟩:=f.2 d _ hb;have hlt:d<a.tmps.size:=kH h1 f.1;have:=h2.bool_inv;have e:a.tmps[d]?=some (.bool b):=by
    rw[pI hlt];simp only[pG,pI hlt,pC]at this;rw[this]
  simp[Go.yielded,hd,e]
theorem FR.yielded_none {nt:Nat}{μ:Mu}{fr:T Value}{a:Act}(f:FR nt μ fr a){ops:Array Oper}{j:Nat}{d:Tmp}(hd:(ops[j]?).bind (·.dst)=some d){vs:Array Value}
    (hb:fr.get d=some (.tuple vs)):Go.yielded ops a.tmps j=none:=by
  obtain⟨h1,h2⟩:=f.2 d _ hb;have hlt:d<a.tmps.size:=kH h1 f.1;have e:a.tmps[d]?=some (a.tmps.getD d undef):=by
    rw[pI hlt];simp only[pG,pI hlt,pC]
  simp only[Go.yielded,hd,pD,e];generalize a.tmps.getD d undef=u at h2;cases h2;rfl
theorem mW (μ:Mu):RV μ (some undef) undef:=VR.tuple [] [] rfl (by simp)
theorem vT {nt:Nat}{ops:Array Oper}(hd:dJ nt ops=true){i:Nat}{o:Oper}(ho:ops[i]?=some o):∀d,o.dst=some d→d<nt:=by
  intro d hdd;have hm:o∈ops.toList:=by rw[Array.mem_toList_iff];exact Array.mem_of_getElem? ho
  have:=List.all_eq_true.1 hd o hm;simp only[hdd]at this;exact blt_iff.1 this
section
variable {P:Program}{NG nt:Nat}{C:CF}
def lP (NG nt:Nat)(μ:Mu)(h:H)(w:World)(a:Act)(fr':T Value)(h':H)(a':Act)(w':World):Prop:=
  ∃μ',Step NG μ h w μ' h' w'∧FR nt μ' fr' a'∧a'.defers=a.defers
theorem dS (a:Act)(dst:Option Tmp)(v:Value):(a.put dst v).defers=a.defers:=by cases dst<;>rfl
theorem eF {β:Type}(hzp:aK P=true)(hC:aM P NG C){ops:Array Oper}(hd:dJ nt ops=true){K:T Value→H→Option β}{r:β}:
    ∀(l:List Oper) (k:Nat) (fr:T Value) (h:H),ops.toList.drop k=l→runOps P C NG ops l fr h K=some r→
      ∃fr' h',K fr' h'=some r∧h.next≤h'.next∧∀(μ:Mu) (a:Act) (w:World),RH NG μ h w→Fresh μ h.next h'.next→FR nt μ fr a→
        ∀(ro:Option Nat) (Q:Exit→Act→World→Prop),(∀a' w',lP NG nt μ h w a fr' h' a' w'→Q .normal a' w')→wpOpsIn (Fr ro) 0 P ops Q (List.range' k (ops.size-k)) a w:=by
  intro l
  induction l with
  |nil=>
    intro k fr h hl hr;refine⟨fr,h,hr,kF _,fun μ a w rh _ f ro Q hQ=>?_⟩;have hk:ops.size≤k:=by
      have:=congrArg List.length hl;simp at this;omega
    rw[show ops.size-k=0 by omega];exact hQ a w ⟨μ,Step.refl rh,f,rfl⟩
  |cons o rest ih=>
    intro k fr h hl hr;have hlt:k<ops.size:=by
      have:=congrArg List.length hl;simp at this;omega
    have ho:ops[k]?=some o:=by
      have:(ops.toList.drop k)[0]?=some o:=by rw[hl];rfl
      simpa using this
    have hrest:ops.toList.drop (k+1)=rest:=by
      have:(ops.toList.drop k).drop 1=rest:=by rw[hl];rfl
      rw[pT]at this;exact this
    have hdo:=vT hd ho;have hrange:List.range' k (ops.size-k)=k::List.range' (k+1) (ops.size-(k+1)):=by
      rw[show ops.size-k=(ops.size-(k+1))+1 by omega,List.range'_succ]
    have run:∀(fr1:T Value),(∀μ a,FR nt μ fr a→FR nt μ fr1 a)→(∀μ a,FR nt μ fr a→Region.wanted o (yielded ops a.tmps)=true)→
        (aop P C (aG NG fr1 h) h o (bE P o fun rv h'=>runOps P C NG ops rest (bU fr1 o.dst rv) h' K))=some r→
        ∃fr' h',K fr' h'=some r∧h.next≤h'.next∧∀(μ:Mu) (a:Act) (w:World),RH NG μ h w→Fresh μ h.next h'.next→FR nt μ fr a→
        ∀(ro:Option Nat) (Q:Exit→Act→World→Prop),(∀a' w',lP NG nt μ h w a fr' h' a' w'→Q .normal a' w')→wpOpsIn (Fr ro) 0 P ops Q (List.range' k (ops.size-k)) a w:=by
      intro fr1 hfr hw hr;obtain⟨rv,h1,hk,hle,hs⟩:=eD hzp hC hr;have hk:=cJ hk;obtain⟨fr',h',hK,hle',hs'⟩:=ih (k+1) _ h1 hrest hk;refine⟨fr',h',hK,kG hle hle',fun μ a w rh hf f ro Q hQ=>?_⟩;rw[hrange,wpOpsIn_cons];unfold wpOpIn;simp only[ho,hw μ a f,if_true];refine hs μ a w rh (fun id h1 h2=>hf id h1 (kH h2 hle')) ((hfr μ a f).ev rh) ro _ _ fun μ1 w1 cv hst hv=>?_;refine hs' μ1 _ w1 hst.rh (fun id h2 h3=>?_) (((hfr μ a f).mono hst.le).put hdo hv) ro Q fun a' w' ⟨μ2,hst2,f2,e2⟩=>hQ a' w' ⟨μ2,hst.trans hst2,f2,e2.trans (dS _ _ _)⟩;rw[hst.out id h2];exact hf id (kG hle h2) h3
    have pass:∀(fr1:T Value),(∀μ a,FR nt μ fr a→FR nt μ fr1 a)→(∀μ a,FR nt μ fr a→Region.wanted o (yielded ops a.tmps)=false)→
        runOps P C NG ops rest (bU fr1 o.dst (some undef)) h K=some r→
        ∃fr' h',K fr' h'=some r∧h.next≤h'.next∧∀(μ:Mu) (a:Act) (w:World),RH NG μ h w→Fresh μ h.next h'.next→FR nt μ fr a→
        ∀(ro:Option Nat) (Q:Exit→Act→World→Prop),(∀a' w',lP NG nt μ h w a fr' h' a' w'→Q .normal a' w')→wpOpsIn (Fr ro) 0 P ops Q (List.range' k (ops.size-k)) a w:=by
      intro fr1 hfr hw hr;obtain⟨fr',h',hK,hle',hs'⟩:=ih (k+1) _ h hrest hr;refine⟨fr',h',hK,hle',fun μ a w rh hf f ro Q hQ=>?_⟩;rw[hrange,wpOpsIn_cons];unfold wpOpIn;simp only[ho,hw μ a f,pB,if_false];exact⟨fun _ _=>trivial,hs' μ _ w rh hf ((hfr μ a f).put hdo (mW μ)) ro Q fun a' w' ⟨μ2,hst2,f2,e2⟩=>hQ a' w' ⟨μ2,hst2,f2,e2.trans (dS _ _ _)⟩⟩
    simp only[runOps]at hr;split at hr
    ·rename_i hg;exact run fr (fun _ _ f=>f) (fun _ _ _=>by simp[Region.wanted,hg]) hr
    ·rename_i j want hg;split at hr
     ·simp at hr
     ·rename_i d hdj;split at hr
      ·rename_i b hb;have hy:∀μ a,FR nt μ fr a→Region.wanted o (yielded ops a.tmps)=(b==want):=fun μ a f=>by
         simp only[Region.wanted,hg,f.yielded hdj hb];cases b<;>cases want<;>rfl
       cases b with
       |true=>
         simp only[cond_true]at hr
         cases want with
         |true=>exact run _ (fun μ a f=>f.same hb) (fun μ a f=>(hy μ a f).trans rfl) hr
         |false=>exact pass _ (fun μ a f=>f.same hb) (fun μ a f=>(hy μ a f).trans rfl) hr
       |false=>
         simp only[cond_false]at hr
         cases want with
         |true=>exact pass _ (fun μ a f=>f.same hb) (fun μ a f=>(hy μ a f).trans rfl) hr
         |false=>exact run _ (fun μ a f=>f.same hb) (fun μ a f=>(hy μ a f).trans rfl) hr
      ·rename_i vs hb;exact pass fr (fun _ _ f=>f) (fun μ a f=>by simp[Region.wanted,hg,f.yielded_none hdj hb]) hr
      ·simp at hr
end
end Go.AM
