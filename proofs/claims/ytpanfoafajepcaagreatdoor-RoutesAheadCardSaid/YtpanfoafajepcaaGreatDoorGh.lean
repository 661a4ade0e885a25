import Derived.Test.YtpanfoafajepcaaGreatDoorGg
set_option maxRecDepth 100000
namespace Go.Proofs.YtpanfoafajepcaaGreatDoor.Ra
open Tryz (prog)
open Go Go.AM
open _root_.Ra
def aCz:Option (Value×H)→Bool
 |some (.bool b,_)=>b
 |_=>false
noncomputable def aWw (D1:CF)(T0:H)(s:Bs):Bool:=aCz (CI D1 40 [str s] T0)
noncomputable def aWu (D1:CF)(T0:H)(s:Bs):Bool:=aCz (CI D1 61 [str s] T0)
noncomputable def aTn (D1:CF)(T0:H)(f n:Bs):Bool:=aCz (CI D1 47 [str f,str n] T0)
def pF (f:FuncId):Bool:=[40,61,47].any (Nat.beq f)
def D5:CF:=fun f args h=>bif Nat.beq f 5 then(match args with|[]=>some (.bool true,h)|_=>none)else none
noncomputable def DD (D1 Dx:CF)(T0:H):CF:=orD D5 (orD (lL pF (CI D1) T0) Dx)
theorem aOo {D1 Dx:CF}{T0:H}(hx:∀f args h,f≠65→f≠43→Dx f args h=none){f:FuncId}(args:List Value)(h:H)(h1:Nat.beq f 5=false)(h2:pF f=false)(h3:f≠65)(h4:f≠43):DD D1 Dx T0 f args h=none:=by
 unfold DD orD D5;rw[h1,cond_false];simp only;have:lL pF (CI D1) T0 f args h=none:=by
  unfold lL;rw[kA];rintro⟨h,_⟩;rw[h2]at h;cases h
 rw[this];exact hx f args h h3 h4
theorem vO {D1 Dx:CF}{T0:H}{f:FuncId}{args:List Value}{h h1:H}{v:Value}(h5:Nat.beq f 5=false)(hF:pF f=true)(ha:cS args=true)(ht:HasT T0 h)(hv:aJ v=true)(hc:CI D1 f args T0=some (v,h1)):DD D1 Dx T0 f args h=some (v,h):=by
 unfold DD orD D5;rw[h5,cond_false];simp only;rw[yX hF ha ht hv hc]
theorem bKo {D1 Dx:CF}{T0:H}{f:FuncId}{args:List Value}{h:H}(h5:Nat.beq f 5=false)(h2:pF f=false):DD D1 Dx T0 f args h=Dx f args h:=by
 unfold DD orD D5;rw[h5,cond_false];simp only;have:lL pF (CI D1) T0 f args h=none:=by
  unfold lL;rw[kA];rintro⟨h,_⟩;rw[h2]at h;cases h
 rw[this]
theorem bLm {D1 Dx:CF}{T0:H}{val:List UInt8→Bool}(k1:K1 D1 T0 val)(hx:∀f args h,f≠65→f≠43→Dx f args h=none)
 (so:∀h m (l:List (Bs×Value)) box,h.get box=some (.cells [aP m] (some 0))→box<h.next→m<h.next→MapR h m bO l→l.length≤2^40→(∀x∈l,x.1.length≤maxLen)→∃h' v,Dx 65 [.func (.func 85) ⟨[]⟩ ⟨[aB box]⟩] h=some (v,h')∧SliceE 1 h' v ((mL (l.map (·.1))).map fun k=>[str k])∧Ext h h'∧∀i,sid v=some i→h.next≤i)
 (sf:∀h v (es:List (Bs×Bs)),Vec 2 h v (bF es)→es.length≤2^41→∃h' u,Dx 43 [v,.func (.func 44) ⟨[]⟩ ⟨[]⟩] h=some (u,h')∧SliceE 2 h' v (bF (es.mergeSort hle))∧ExtBut (fun i=>sid v=some i) h h'):
 K4 (DD D1 Dx T0) T0 (aWw D1 T0) (aWu D1 T0) (aTn D1 T0):=by
 have hT:HasT T0 T0:=fun _ _ h=>h;have hn:3≤T0.next:=by rw[k1.tab.next];exact kF _
 refine⟨⟨⟨fun h s ht=>?_,fun h s ht=>?_,fun h f n ht=>?_,fun f args h hf=>?_,k1.tab⟩,fun h m l box g1 g2 g3 g4 g5 g6=>?_,fun id vs h=>aOo hx _ _ (by decide) (by decide) (by decide) (by decide)⟩,fun h v es g1 g2=>?_⟩
 ·obtain⟨b,h',e,_,_⟩:=N40 k1 hT hn s;refine vO (by decide) (by decide) rfl ht rfl (h1:=h') ?_;rw[e];unfold aWw;rw[e];rfl
 ·have e:=N61 k1 hT s;refine vO (by decide) (by decide) rfl ht rfl (h1:=T0) ?_;rw[e];unfold aWu;rw[e];rfl
 ·obtain⟨b,h',e,_⟩:=N47 k1 hT hn f n;refine vO (by decide) (by decide) rfl ht rfl (h1:=h') ?_;rw[e];unfold aTn;rw[e];rfl
 ·have all:∀f∈[4,6,7,14,15,16,17,18,19,20,21,22,23,24,25,26,27,28,29,30,31,32,33,34,35,36,37,38,39,41,42,44,45,46,48,49,50,51,55,56,57,60,63,64,66,70,89],Nat.beq f 5=false∧pF f=false∧f≠65∧f≠43:=by decide
  obtain⟨a1,a2,a3,a4⟩:=all f hf;exact aOo hx _ _ a1 a2 a3 a4
 ·obtain⟨h',v,e,r⟩:=so h m l box g1 g2 g3 g4 g5 g6;exact⟨h',v,by rw[bKo (by decide) (by decide)];exact e,r⟩
 ·obtain⟨h',u,e,r⟩:=sf h v es g1 g2;exact⟨h',u,by rw[bKo (by decide) (by decide)];exact e,r⟩
theorem aLn {D1 Dx:CF}{T0:H}(h:H):DD D1 Dx T0 5 [] h=some (.bool true,h):=rfl
theorem bFy {D1 Dx:CF}{T0:H}(h5:aM prog 3 D5)(h1:aM prog 3 D1)(hx:aM prog 3 Dx)(ht:aBa 3 T0):aM prog 3 (DD D1 Dx T0):=by
 refine aCw h5 (aCw (yW (aAn (by kernel_rfl) (by kernel_rfl) (by kernel_rfl) h1) (fun f hf=>?_) ht) hx);have all:([40,61,47].all fun f=>decide (f<Y0)&&(match prog.funcs[f]? with|some fn=>fn.body.isSome|none=>true))=true:=by kernel_rfl
 unfold pF at hf;obtain⟨g,hg,he⟩:=List.any_eq_true.1 hf;have:=beq_iff.1 he;subst this;have h:=List.all_eq_true.1 all f hg;rw[kO]at h;refine⟨of_decide_eq_true h.1,fun fn hfn=>?_⟩;have h2:=h.2;rw[hfn]at h2;exact h2
def tF (f:FuncId):Bool:=[52,69].any (Nat.beq f)
noncomputable def D1 (Q:Orc)(T0:H):CF:=orD (lL tF (aI prog 3 Q 2000000) T0) (aCf (fun f=>Nat.beq f 68) (aI prog 3 Q 2000000))
theorem aDo {Q:Orc}{T0:H}{f:FuncId}{args:List Value}{h h1:H}{v:Value}(hF:tF f=true)(ha:cS args=true)(ht:HasT T0 h)(hv:aJ v=true)(hc:aI prog 3 Q 2000000 f args T0=some (v,h1)):D1 Q T0 f args h=some (v,h):=by
 unfold D1 orD;rw[yX hF ha ht hv hc]
theorem aDn {Q:Orc}{T0:H}{f:FuncId}{args:List Value}{h:H}(h2:tF f=false):D1 Q T0 f args h=aCf (fun f=>Nat.beq f 68) (aI prog 3 Q 2000000) f args h:=by
 unfold D1 orD;have:lL tF (aI prog 3 Q 2000000) T0 f args h=none:=by
  unfold lL;rw[kA];rintro⟨h,_⟩;rw[h2]at h;cases h
 rw[this]
theorem bLn {Q:Orc}{T0:H}{A':List Nat}(kb:KnA Q)(bt:aCj T0 A')(tab:aBa 3 T0):K1 (D1 Q T0) T0 (aFl A'):=by
 refine⟨fun h s ht=>?_,fun h s ht hl=>?_,fun h s hl=>?_,fun s hs=>?_,fun f args h hf=>?_,tab⟩
 ·obtain⟨h',e,_⟩:=T77 kb bt (h:=T0) 999600 (s:=s) (Ext.refl T0);exact aDo rfl rfl ht rfl e
 ·obtain⟨h',e,_⟩:=bOh kb (h:=T0) 999679 (s:=s) hl;exact aDo rfl rfl ht rfl e
 ·obtain⟨h',v,e,r⟩:=bOg kb (h:=h) 999680 (s:=s) hl;exact⟨h',v,by rw[aDn rfl];exact e,r⟩
 ·unfold aFl at hs;split at hs
  ·cases hs
  ·omega
 ·have all:∀f∈[40,47,53,54,61,62,81,82,95],tF f=false∧Nat.beq f 68=false:=by decide
  obtain⟨a1,a2⟩:=all f hf;rw[aDn a1];unfold aCf;simp only[a2,cond_false]
theorem bGa {Q:Orc}{T0:H}(hQ:∀f args v,Q f args=some v→eR prog f args v)(tab:aBa 3 T0):aM prog 3 (D1 Q T0):=by
 have hc:=jN (P:=prog) (NG:=3) (by kernel_rfl) (by kernel_rfl) (by kernel_rfl) hQ 2000000;refine aCw (yW hc (fun f hf=>?_) tab) (aHe hc);have all:([52,69].all fun f=>decide (f<Y0)&&(match prog.funcs[f]? with|some fn=>fn.body.isSome|none=>true))=true:=by kernel_rfl
 unfold tF at hf;obtain⟨g,hg,he⟩:=List.any_eq_true.1 hf;have:=beq_iff.1 he;subst this;have h:=List.all_eq_true.1 all f hg;rw[kO]at h;refine⟨of_decide_eq_true h.1,fun fn hfn=>?_⟩;have h2:=h.2;rw[hfn]at h2;exact h2
end Go.Proofs.YtpanfoafajepcaaGreatDoor.Ra
