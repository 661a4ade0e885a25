import Derived.Test.YtpanfoafajepcaaGreatDoorRcO
import Derived.Test.YtpanfoafajepcaaGreatDoorRcQ
import Derived.Test.YtpanfoafajepcaaGreatDoorRcM
set_option maxRecDepth 100000
namespace Go.Proofs.YtpanfoafajepcaaGreatDoor.Ra
open Tryz (prog)
open Go Go.AM Go.RowKit
open _root_.Ra
def Good65 (args:List Value)(h:H)(r:Value×H):Prop:=∃(m box:Nat) (l:List (Bs×Value)),args=[.func (.func 85) ⟨[]⟩ ⟨[aB box]⟩]∧h.get box=some (.cells [aP m] (some 0))∧MapR h m bO l∧l.length≤2^40∧(∀y∈l,y.1.length≤maxLen)∧r=iP h (mL (l.map (·.1)))
def Good43 (args:List Value)(h:H)(r:Value×H):Prop:=∃(v:Value) (es:List (Bs×Bs)),args=[v,.func (.func 44) ⟨[]⟩ ⟨[]⟩]∧Vec 2 h v (bF es)∧es.length≤2^41∧r=(.tuple ⟨[]⟩,sK h v es)
def aRz:Value→Bs
 | .string s=>s.data.toList
 |_=>[]
theorem Good65.one {args:List Value}{h:H}{r r':Value×H}(a:Good65 args h r)(b:Good65 args h r'):r=r':=by
 obtain⟨m,box,l,e1,g1,x1,_,_,rfl⟩:=a;obtain⟨m',box',l',e2,g2,x2,_,_,rfl⟩:=b;have hb:box=box':=by rw[e1]at e2;simpa using e2
 subst hb;have hm:m=m':=by rw[g1]at g2;simpa using g2
 subst hm;obtain⟨es,c,hg,he,_⟩:=x1.at_;obtain⟨es',c',hg',he',_⟩:=x2.at_;have hes:es=es':=by rw[hg]at hg';injection kP hg'
 subst hes;have hll:l.map (fun x=>(bO x.1,x.2))=l'.map (fun x=>(bO x.1,x.2)):=he.symm.trans he';have hkk:l.map (fun x=>bO x.1)=l'.map (fun x=>bO x.1):=by have:=congrArg (List.map Prod.fst) hll;rw[List.map_map,List.map_map]at this;exact this
 have key:l.map (·.1)=l'.map (·.1):=by
  have:=congrArg (List.map aRz) hkk;rw[List.map_map,List.map_map]at this;exact this
 rw[key]
theorem Good43.one {args:List Value}{h:H}{r r':Value×H}(a:Good43 args h r)(b:Good43 args h r'):r=r':=by
 obtain⟨v,es,e1,x1,_,rfl⟩:=a;obtain⟨v',es',e2,x2,_,rfl⟩:=b;have hv:v=v':=by rw[e1]at e2;simpa using e2
 subst hv;have:es=es':=by
  refine aAf ?_;obtain⟨_,⟨hv1,h1⟩|⟨q,hv1,_,h1⟩⟩:=x1<;>obtain⟨_,⟨hv2,h2⟩|⟨q',hv2,_,h2⟩⟩:=x2
  ·rw[h1,h2]
  ·rw[hv1]at hv2;cases hv2
  ·rw[hv1]at hv2;cases hv2
  ·have hq:q=q':=by rw[hv1]at hv2;simp only[Value.slice.injEq,kE,Addr.mk.injEq]at hv2;exact hv2.1.1
   subst hq;rw[h1]at h2;simpa using h2
 rw[this]
open Classical in
noncomputable def Dx:CF:=fun f args h=>
 if hx:f=65∧∃r,Good65 args h r then some hx.2.choose else if hy:f=43∧∃r,Good43 args h r then some hy.2.choose else none
theorem bFw {args:List Value}{h:H}{r:Value×H}(g:Good65 args h r):Dx 65 args h=some r:=by
 have hx:(65:FuncId)=65∧∃r,Good65 args h r:=⟨rfl,r,g⟩;unfold Dx;rw[dif_pos hx];exact congrArg some (hx.2.choose_spec.one g)
theorem bFx {args:List Value}{h:H}{r:Value×H}(g:Good43 args h r):Dx 43 args h=some r:=by
 have hx:(43:FuncId)=43∧∃r,Good43 args h r:=⟨rfl,r,g⟩;unfold Dx;rw[dif_neg fun e=>absurd e.1 (by decide),dif_pos hx];exact congrArg some (hx.2.choose_spec.one g)
theorem bFv (f:FuncId)(args:List Value)(h:H)(h1:f≠65)(h2:f≠43):Dx f args h=none:=by
 unfold Dx;rw[dif_neg fun e=>h1 e.1,dif_neg fun e=>h2 e.1]
theorem bFu:aM prog 3 Dx:=by
 intro f args h v h' hr;unfold Dx at hr;split at hr
 ·rename_i hx;obtain⟨rfl,hx⟩:=hx;have hs:=hx.choose_spec;have hr:=kP hr;rw[hr]at hs;obtain⟨m,box,l,rfl,g,x,h1,h2,hv⟩:=hs;obtain⟨rfl,rfl⟩:v=(iP h (mL (l.map (·.1)))).1∧h'=(iP h (mL (l.map (·.1)))).2:=by rw[←hv];exact⟨rfl,rfl⟩
  exact⟨aBb _ _,fun _=>⟨_,Tryz.func65,(gQ (by kernel_rfl) Tryz.func65).1,.inl ⟨⟨_,rfl⟩,fun μ w cargs rh hf hl=>aLg rh hf g x h1 h2 rfl hl⟩⟩,fun _ _ e=>absurd e (by decide)⟩
 ·split at hr
  ·rename_i hx;obtain⟨rfl,hx⟩:=hx;have hs:=hx.choose_spec;have hr:=kP hr;rw[hr]at hs;obtain⟨v0,es,rfl,x,h1,hv⟩:=hs;obtain⟨rfl,rfl⟩:v=.tuple ⟨[]⟩∧h'=sK h v0 es:=by rw[kK]at hv;exact hv
   exact⟨Nat.le_of_eq (aBc _ _ _).symm,fun _=>⟨_,Tryz.func43,(gQ (by kernel_rfl) Tryz.func43).1,.inl ⟨⟨_,rfl⟩,fun μ w cargs rh hf hl=>aLh rh x h1 hl⟩⟩,fun _ _ e=>absurd e (by decide)⟩
  ·cases hr
theorem bFs:∀h m (l:List (Bs×Value)) box,h.get box=some (.cells [aP m] (some 0))→box<h.next→m<h.next→MapR h m bO l→l.length≤2^40→(∀x∈l,x.1.length≤maxLen)→∃h' v,Dx 65 [.func (.func 85) ⟨[]⟩ ⟨[aB box]⟩] h=some (v,h')∧SliceE 1 h' v ((mL (l.map (·.1))).map fun k=>[str k])∧Ext h h'∧∀i,sid v=some i→h.next≤i:=
 fun h m l box g _ _ x h1 h2=>⟨_,_,bFw ⟨m,box,l,rfl,g,x,h1,h2,rfl⟩,wJ⟩
theorem bFt:∀h v (es:List (Bs×Bs)),Vec 2 h v (bF es)→es.length≤2^41→∃h' u,Dx 43 [v,.func (.func 44) ⟨[]⟩ ⟨[]⟩] h=some (u,h')∧SliceE 2 h' v (bF (es.mergeSort hle))∧ExtBut (fun i=>sid v=some i) h h':=
 fun h v es x h1=>⟨_,_,bFx ⟨v,es,rfl,x,h1,rfl⟩,aGz x⟩
noncomputable abbrev D0 (T0:H):CF:=DD (D1 qTab.orc T0) Dx T0
theorem aYg {T0:H}{A':List Nat}(bt:aCj T0 A')(tab:aBa 3 T0):K4 (D0 T0) T0 (aWw (D1 qTab.orc T0) T0) (aWu (D1 qTab.orc T0) T0) (aTn (D1 qTab.orc T0) T0):=
 bLm (bLn aKr bt tab) bFv bFs bFt
theorem bGb {T0:H}(tab:aBa 3 T0):aM prog 3 (D0 T0):=bFy bFz (bGa yU tab) bFu tab
end Go.Proofs.YtpanfoafajepcaaGreatDoor.Ra
