import Derived.Test.YtpanfoafajepcaaGreatDoorGf
import Derived.Test.YtpanfoafajepcaaGreatDoorGu
import Derived.Test.YtpanfoafajepcaaGreatDoorGk
set_option maxRecDepth 100000
namespace Go.Proofs.YtpanfoafajepcaaGreatDoor.Ra
open Tryz (prog)
open Go Go.AM RaA RaI RaW RaX RaY
open _root_.Ra
theorem gC {isR:FuncId→Bool}{dm:Pw.Dm}{rl:Pw.Rl}{C:CF}{φ:FuncId→List Value→H→Option (Value×H)}(hφ:Val isR dm rl φ){g:FuncId}{args:List Value}{h:H}(hg:isR g=true)(hd:dm g args h){k:Value→H→Option Unit}(hk:∀v h',rl g args h v h'→k v h'=some ()):
 aF (gY C isR φ g args h) k=some ():=by
 obtain⟨v,h',e,hr⟩:=(hφ g args h hg).1 hd;unfold gY;rw[hg,cond_true,e];exact hk v h' hr
section
variable {D:CF}{T0:H}{fil nam:Bs→Bool}{tak:Bs→Bs→Bool}(k4:K4 D T0 fil nam tak){B:H}{a:Nat}{dm:Pw.Dm}{rl:Pw.Rl}
include k4
theorem aLm {h:H}{v:Value}{l:List (Bs×Bs)}(x:SliceE 2 h v (bF l)){i:Nat}{y:Bs×Bs}(hy:l[i]?=some y):∃off q,A.zL 2 v (.int .i64 (i:Int))=some (.pointer (some ⟨q,off,none⟩))∧A.load true 2 (.pointer (some ⟨q,off,none⟩)) h=some (.agg ⟨[str y.1,str y.2]⟩):=by
 have _:=k4;have hx:(bF l)[i]?=some [str y.1,str y.2]:=by rw[bF,kX,hy];rfl
 obtain⟨id,off,cells,own,ei,_,g,h1,h2,hc⟩:=x.at hx .i64;refine⟨off,id,ei,?_⟩;rw[aV,g];simp only[ble_iff.2 h1,cond_true,h2]
theorem aHu {h:H}(y:Bs×Bs):∃h1 h2,A.box 2 RaW.Z86 h=some (aB h.next,h1)∧A.store 2 (aB h.next) (.agg ⟨[str y.1,str y.2]⟩) h1=some h2∧A.load false 1 (.pointer (some ⟨h.next,1,none⟩)) h2=some (str y.2)∧Ext h h2∧h2.next=h.next+1:=by
 have _:=k4;obtain⟨h1,hh1⟩:∃h1,h1=h.push (.cells RaW.Z86L (some 0)):=⟨_,rfl⟩;have g1:h1.get h.next=some (.cells RaW.Z86L (some 0)):=by rw[hh1,H.get_push,kB rfl]
 obtain⟨h2,hh2⟩:∃h2,h2=h1.put h.next (.cells [str y.1,str y.2] (some 0)):=⟨_,rfl⟩;have g2:h2.get h.next=some (.cells [str y.1,str y.2] (some 0)):=by rw[hh2,H.get_put,kB rfl]
 refine⟨h1,h2,by rw[hh1];rfl,by rw[qU,g1,hh2];rfl,by rw[qK,g2];rfl,?_,by rw[hh2,hh1];simp⟩;rw[hh2,hh1];exact(Ext.push h _).put _ _ (kF _)
theorem bLy (hT:HasT T0 B)(hB3:3≤B.next){h0:H}{nm:Col→Nat}{s:St}(r:Rep B h0 nm s a)(hB:Ext B h0){e:Nat→Value}{vn v:Value}{n:cU}{x3 p hm sm:Nat}{cs:List Value}(c7:cs[7]?=some (aP hm))(n3:h0.next≤x3)(np:h0.next≤p)(nh:h0.next≤hm)(d1:x3≠hm)(d2:p≠hm)(d3:sm≠hm)
 {l:List (Bs×Bs)} (hl:l.length≤2^41) (sv:sid v≠some hm) (kx:Pk.K3 Unit) (hs0:List Bs)
 (k1:∀h',Ext h0 h'→h'.get x3=some (.cells (bH e vn n) (some 0))→h'.get p=some (.cells cs (some 0))→MapR h' hm bO (dZ (l.foldl (fun h x=>if(cG tak s x.2 n.msg.topic).2 then lR h x.2 else h) hs0))→p<h'.next→hm<h'.next→MapR h' sm bO (dZ [])→sm<h'.next→kx (aB (nm .chk)) (aB x3) (aB p) h'=some ()) {L:Nat}:
 ∀(d i m:Nat) (h:H) (hs:List Bs),i+d=l.length→d<m→Ext h0 h→h.get x3=some (.cells (bH e vn n) (some 0))→h.get p=some (.cells cs (some 0))→MapR h hm bO (dZ hs)→x3<h.next→p<h.next→hm<h.next→SliceE 2 h v (bF l)→MapR h sm bO (dZ [])→sm<h.next→
  (l.drop i).foldl (fun h x=>if(cG tak s x.2 n.msg.topic).2 then lR h x.2 else h) hs=l.foldl (fun h x=>if(cG tak s x.2 n.msg.topic).2 then lR h x.2 else h) hs0→
  aGe (CI D) L dm rl kx m (.int .i64 (l.length:Int)) (.int .i64 (i:Int)) v (aB (nm .chk)) (aB x3) (aB p) h=some ():=by
 have k2:=k4.k3.k2;intro d
 induction d with
 |zero=>
  intro i m h hs hi hm' x g3 gp mh l3 lp lh sx ms ls hf;obtain⟨m,rfl⟩:∃r,m=r+1:=⟨m-1,by omega⟩;have hd:decide ((i:Int)<(l.length:Int))=false:=kD (by omega);rw[pM (by omega)]at hf;have hf:hs=_:=hf;rw[hf]at mh;simp only[aGe,aMp,zZ,hd,RaK.S];exact k1 h x g3 gp mh lp lh ms ls
 |succ d ih=>
  intro i m h hs hi hm' x g3 gp mh l3 lp lh sx ms ls hf;obtain⟨m,rfl⟩:∃r,m=r+1:=⟨m-1,by omega⟩;have hd:decide ((i:Int)<(l.length:Int))=true:=kC (by omega);obtain⟨y,hy⟩:∃y,l[i]?=some y:=⟨_,kN (by omega)⟩;rw[bT hy,List.foldl_cons]at hf;obtain⟨off,qq,ei,l2⟩:=aLm k4 sx hy;obtain⟨h1,h2,e1,e2,l1,x2,n2⟩:=aHu k4 (h:=h) y;have x02:=x.trans x2;have r2:=r.ext hB.next x02;have c0:=ld k2 (r2.ok .chk) 0 rfl;have g32:h2.get x3=some (.cells (bH e vn n) (some 0)):=by rw[x2.get _ l3];exact g3
  have n28:=ld k2 g32 28 rfl;obtain⟨h3,e27,x3'⟩:=T27 k2 hT hB3 (hB.trans x02) r2 y.2 n.msg.topic;have x23:=x2.trans x3';have nx3:=x23.next;have x03:=x.trans x23;have g33:h3.get x3=some (.cells (bH e vn n) (some 0)):=by rw[x23.get _ l3];exact g3
  have gp3:h3.get p=some (.cells cs (some 0)):=by rw[x23.get _ lp];exact gp
  have mh3:=mh.congr (x23.get _ lh);have sx3:=sx.ext x23;have w2:A.zA prog .add 3 (.int .i64 (i:Int)) (.int .i64 1)=some (.int .i64 ((i+1:Nat):Int)):=by rw[bG,aS (by omega)]
  have hlt:h.next<h2.next:=by omega
  have l1':A.load false 1 (.pointer (some ⟨h.next,1,none⟩)) h3=some (str y.2):=by
   rw[qK]at l1⊢;rw[x3'.get _ hlt];exact l1
  cases hb:(cG tak s y.2 n.msg.topic).2 with
  |false=>
   rw[hb]at e27 hf;simp only[pB,if_false]at hf;have nx:=ih (i+1) m h3 hs (by omega) (by omega) x03 g33 gp3 mh3 (by omega) (by omega) (by omega) sx3 (ms.congr (x23.get _ ls)) (by omega) hf;simp only[aGe,aMp,aJd,aUz,aUy,aUx,aPk,zZ,hd,RaK.S,ei,l2,e1,e2,c0,l1,n28,e27,qH,qG,Nat.zero_add,Nat.add_zero,w2];exact nx
  |true=>
   rw[hb]at e27 hf;simp only[if_true]at hf;have p7:=ld k2 gp3 7 c7;have b74:A.zN RaW.Z74L []=some dI:=rfl;obtain⟨h4,u4,m4,a4⟩:=aEm mh3 y.2 dI;rw[gH]at m4;have x04:Ext h0 h4:=a4.ext x03 nh;have n4:=a4.1;have nx:=ih (i+1) m h4 (lR hs y.2) (by omega) (by omega) x04 (by rw[a4.2 _ d1];exact g33) (by rw[a4.2 _ d2];exact gp3) m4 (by omega) (by omega) (by omega) (sx3.extBut (S:=fun j=>j=hm) ⟨by omega,fun j _ hn=>a4.2 j hn⟩ fun j hj e=>sv (by rw[hj,e])) (ms.congr (by rw[a4.2 _ d3,x23.get _ ls])) (by omega) hf;simp only[aGe,aMp,aJd,aUz,aUy,aUx,aPk,zZ,hd,RaK.S,ei,l2,e1,e2,c0,l1,n28,e27,qH,qG,Nat.zero_add,Nat.add_zero,p7,l1',b74,u4,w2];exact nx
def nmP (nm:Col→Nat)(o:Int)(p hm sm:Nat):Col→Nat
 | .pub q=>if q=o then p else nm (.pub q)
 | .holds q=>if q=o then hm else nm (.holds q)
 | .serve q=>if q=o then sm else nm (.serve q)
 |C=>nm C
omit k4 in
theorem aKt {nm:Col→Nat}{o:Int}{p hm sm:Nat}(C:Col)(h:¬atP o C):nmP nm o p hm sm C=nm C:=by
 cases C<;>first|rfl|exact kA h
omit k4 in
theorem aSd (nm:Col→Nat)(o:Int)(p hm sm:Nat):nmP nm o p hm sm (.pub o)=p∧nmP nm o p hm sm (.holds o)=hm∧nmP nm o p hm sm (.serve o)=sm:=⟨kB rfl,kB rfl,kB rfl⟩
omit k4 in
theorem oA {o:Int}{C:Col}(h:atP o C):C=.pub o∨C=.holds o∨C=.serve o:=by
 cases C<;>simp only[atP]at h<;>subst h<;>simp
theorem W20 (ok:RelOK prog 3 RaZ.isR dm rl)(hT:HasT T0 B)(hB3:3≤B.next){h:H}{nm:Col→Nat}{s:St}(r:Rep B h nm s a)(hB:Ext B h)(e:Nat→Value)(v:Value)(n:cU)(hdm:∀h',Rep B h' nm s a→Ext B h'→dm 30 [aB (nm .mdl)] h')(hrl:∀h' v h'',rl 30 [aB (nm .mdl)] h' v h''→aCi s h' v h''):
 ∃L,dC prog (CI D) RaZ.isR dm rl L 3 20 [aB (nm .chk),cD e v n] h (eL B (nm .chk) a h (eX tak s a n)):=by
 have k2:=k4.k3.k2;obtain⟨h1,hh1⟩:∃h1,h1=h.push (.cells (bH e v n) (some 0)):=⟨_,rfl⟩;have e1:A.box 35 (cD e v n) h=some (aB h.next,h1):=by rw[hh1];rfl
 have x1:Ext h h1:=by rw[hh1];exact Ext.push h _
 have n1:h1.next=h.next+1:=by rw[hh1];rfl
 have g1:h1.get h.next=some (.cells (bH e v n) (some 0)):=by rw[hh1,H.get_push,kB rfl]
 have r1:=r.ext hB.next x1;have hB1:=hB.trans x1;have n_1:=ld k2 g1 1 rfl;have n_3:=ld k2 g1 3 rfl;have c1:=ld k2 (r1.ok .chk) 1 rfl;have c3:=ld k2 (r1.ok .chk) 3 rfl;have l28:A.load true 4 (.pointer (some ⟨h.next,28,none⟩)) h1=some (.agg ⟨aR n.msg⟩):=by rw[aV,g1];rfl
 have lkp:=aJy r1 n.op;have post:∀(h2:H),Ext h h2→eX tak s a n=(false,s)→okU (eL B (nm .chk) a h (eX tak s a n) (.bool false) h2)=some ():=fun h2 x he=>okU_iff.2 ⟨by rw[he],⟨nm,rfl,by rw[he];exact r.ext hB.next x⟩,hB.trans x,x.next⟩;by_cases ho:n.op<1
 ·refine⟨0,aXj ok _ _ h ?_⟩;simp only[F20,aJk,aPl,e1,RaK.S,n_1,zZ,kC ho];exact post h1 x1 (by simp only[eX,kB (show n.op<1∨(aE s.pubs n.op).isSome=true from .inl ho)])
 have hdo:=kD ho
 cases hp:aE s.pubs n.op with
 |some p0=>
  rw[hp]at lkp;have n60:A.zA prog .neq 60 (aB (nm (.pub n.op))) (.pointer none)=some (.bool true):=aRn (t:=60) (by kernel_rfl) _;refine⟨0,aXj ok _ _ h ?_⟩;simp only[F20,aJk,aPl,e1,RaK.S,Nat.zero_add,n_1,zZ,hdo,c1,show RaW.Z60=.pointer none from rfl,lkp,Option.map_some,fD,n60];exact post h1 x1 (by simp only[eX,hp,Option.isSome_some,or_true,if_true])
 |none=>
  rw[hp]at lkp;have n60:A.zA prog .neq 60 (.pointer none) (.pointer none)=some (.bool false):=by kernel_rfl
  have ern:eX tak s a n=(true,{s with pubs:=aL s.pubs n.op ⟨n.client,n.msg,a,true,(iV s).foldl (fun h x=>if(cG tak s x.2 n.msg.topic).2 then lR h x.2 else h) [],[]⟩}):=by
   have:¬(n.op<1∨(none:Option Pub).isSome=true):=by simp[ho]
   simp only[eX,hp,kA this]
  obtain⟨h2,hh2⟩:∃h2,h2=h1.push (.map [] 0):=⟨_,rfl⟩;obtain⟨h3,hh3⟩:∃h3,h3=h2.push (.map [] 0):=⟨_,rfl⟩;have n2:h2.next=h1.next+1:=by rw[hh2];rfl
  have n3:h3.next=h2.next+1:=by rw[hh3];rfl
  have e2:A.zJ h1=some (aP h1.next,h2):=by rw[hh2];rfl
  have e3:A.zJ h2=some (aP h2.next,h3):=by rw[hh3];rfl
  have x2:Ext h1 h2:=by rw[hh2];exact Ext.push h1 _
  have x3:Ext h2 h3:=by rw[hh3];exact Ext.push h2 _
  obtain⟨cs,hcs⟩:∃cs,cs=[str n.client,str n.msg.topic,str n.msg.payload,.int .u8 (n.msg.qos:Int),.bool n.msg.retain,.int .i64 (a:Int),.bool true,aP h1.next,aP h2.next]:=⟨_,rfl⟩;have e4:A.zN RaW.Z80L [(0,1,str n.client),(1,4,.agg ⟨aR n.msg⟩),(5,1,.int .i64 (a:Int)),(6,1,.bool true),(7,1,aP h1.next),(8,1,aP h2.next)]=some (.agg ⟨cs⟩):=by rw[hcs];rfl
  obtain⟨h4,hh4⟩:∃h4,h4=h3.push (.cells cs (some 0)):=⟨_,rfl⟩;have e5:A.box 9 (.agg ⟨cs⟩) h3=some (aB h3.next,h4):=by rw[hh4,hcs];rfl
  have x4:Ext h3 h4:=by rw[hh4];exact Ext.push h3 _
  have n4:h4.next=h3.next+1:=by rw[hh4];rfl
  have x14:=x2.trans (x3.trans x4);have x04:=x1.trans x14;have m2:MapR h2 h1.next bO ([]:List (Bs×Value)):=by rw[hh2];exact MapR.made h1 bO
  have m3:MapR h3 h2.next bO ([]:List (Bs×Value)):=by rw[hh3];exact MapR.made h2 bO
  have m24:MapR h4 h1.next bO (dZ []):=m2.congr (by rw[x4.get _ (by omega),x3.get _ (by omega)]);have m34:MapR h4 h2.next bO (dZ []):=m3.congr (by rw[x4.get _ (by omega)]);have g4p:h4.get h3.next=some (.cells cs (some 0)):=by rw[hh4,H.get_push,kB rfl]
  have g4n:h4.get h.next=some (.cells (bH e v n) (some 0)):=by rw[x14.get _ (by omega)];exact g1
  have r4:=r.ext hB.next x04;have hB4:=hB.trans x04;have c0:=ld k2 (r4.ok .chk) 0 rfl;refine⟨(iV s).length+1,aXj ok _ _ h ?_⟩;simp only[F20,aJk,aPl,bHt,aQx,bHs,e1,RaK.S,Nat.zero_add,n_1,zZ,hdo,c1,show RaW.Z60=.pointer none from rfl,lkp,Option.map_none,fD,n60,n_3,l28,c3,e2,e3,e4,e5,mJ];refine okU_iff.2 fun φ hφ=>?_;simp only[c0,RaK.S];refine gC hφ rfl (hdm h4 r4 hB4) fun vl h5 hR=>?_;obtain⟨s5,x5,hl,fr⟩:=hrl _ _ _ hR;have ln:A.zH vl=some (.int .i64 ((iV s).length:Int)):=by have:=s5.len.1;rwa [aDz]at this
  simp only[ln,RaK.S];have nx5:=x5.next;refine bLy k4 hT hB3 r hB (x3:=h.next) (p:=h3.next) (hm:=h1.next) (sm:=h2.next) (cs:=cs) (by rw[hcs];rfl) (by omega) (by omega) (by omega) (by omega) (by omega) (by omega) hl (fun e=>by have:=fr _ e;omega) _ [] (fun h6 x06 g3 gp mh lp lh ms ls=>?_) (iV s).length 0 _ h5 [] (by omega) (Nat.lt_succ_self _) (x04.trans x5) (by rw[x5.get _ (by omega)];exact g4n) (by rw[x5.get _ (by omega)];exact g4p) (m24.congr (x5.get _ (by omega))) (by omega) (by omega) (by omega) s5 (m34.congr (x5.get _ (by omega))) (by omega) rfl;have r6:=r.ext hB.next x06;have c16:=ld k2 (r6.ok .chk) 1 rfl;have n_16:=ld k2 g3 1 rfl;obtain⟨h7,u7,m7,a7⟩:=bGj (r6.ok .pubs) n.op (aB h3.next);have lpb:=r.lt .pubs trivial;have n7:=a7.1;obtain⟨P,hP⟩:∃P:Pub,P=⟨n.client,n.msg,a,true,(iV s).foldl (fun h x=>if(cG tak s x.2 n.msg.topic).2 then lR h x.2 else h) [],[]⟩:=⟨_,rfl⟩
  obtain⟨a1,a2,a3⟩:=aSd nm n.op h3.next h1.next h2.next;have hg:aE (aL s.pubs n.op P) n.op=some P:=by rw[aD,kB rfl]
  have nx6:=x06.next;have o7:∀j,j≠nm .pubs→h7.get j=h6.get j:=a7.2;have at3:∀C,atP n.op C→h.next≤nmP nm n.op h3.next h1.next h2.next C∧nmP nm n.op h3.next h1.next h2.next C<h7.next:=fun C hC=>by
   rcases oA hC with rfl|rfl|rfl
   ·rw[a1];omega
   ·rw[a2];omega
   ·rw[a3];omega
  simp only[bHr,RaK.S,Nat.zero_add,c16,n_16,u7];rw[ern,←hP];refine okU_iff.2 ⟨rfl,⟨nmP nm n.op h3.next h1.next h2.next,rfl,?_⟩,a7.ext (hB.trans x06) lpb.1,by omega⟩;refine r.pub1 hB.next (by omega) (fun d hd=>by rw[aD,kA (Ne.symm hd)]) aKt (fun C hl hC hn=>?_) ?_ (fun y hy=>?_) (fun C hC hl=>.inr (at3 C hC)) (fun C C' hC hC' hl hl' hge he=>?_)
  ·rw[o7 _ fun e=>hn (r.inj _ _ hl trivial e)];exact x06.get _ (r.lt C hl).2
  ·have:=fP (a:=P) (f:=fun d=>aB (nm (.pub d))) (g:=fun d=>aB (nmP nm n.op h3.next h1.next h2.next (.pub d))) (c:=n.op) (fun d hd=>by simp only[nmP,kA hd]) r.keysP;rw[a1]at this;rw[←this];exact m7
  ·rw[hg]at hy;cases hy;rw[a1,a2,a3];refine⟨?_,?_,?_⟩
   ·rw[o7 _ (by omega),gp,hcs,hP];simp only[aEn,a2,a3]
   ·rw[hP];exact mh.congr (o7 _ (by omega))
   ·rw[hP];exact ms.congr (o7 _ (by omega))
  ·rcases oA hC with rfl|rfl|rfl<;>rcases oA hC' with rfl|rfl|rfl<;>simp only[a1,a2,a3]at he
   any_goals rfl
   all_goals omega
end
end Go.Proofs.YtpanfoafajepcaaGreatDoor.Ra

set_option maxRecDepth 100000
namespace Go.Proofs.YtpanfoafajepcaaGreatDoor.Ra
open Tryz (prog)
open Go Go.AM RaA RaI RaW RaX RaY
open _root_.Ra
theorem vW:∀f,RaZ.isR f=true→f<Y0∧∃fn c,prog.funcs[f]?=some fn∧fn.body=some c∧fn.name≠ "runtime.NumGoroutine" :=by
 have all:([30,18,19,21,23,24,20,15,6].all fun f=>decide (f<Y0)&&(match prog.funcs[f]? with|some fn=>fn.body.isSome&&!(fn.name== "runtime.NumGoroutine")|none=>false))=true:=by kernel_rfl
 intro f hf;unfold RaZ.isR at hf;obtain⟨g,hg,he⟩:=List.any_eq_true.1 hf;have:=beq_iff.1 he;subst this;have h:=List.all_eq_true.1 all f hg;rw[kO]at h;obtain⟨h1,h2⟩:=h;refine⟨of_decide_eq_true h1,?_⟩
 cases hfn:prog.funcs[f]? with
 |none=>rw[hfn]at h2;cases h2
 |some fn=>
  rw[hfn]at h2;simp only[kO]at h2;obtain⟨c,hc⟩:=Option.isSome_iff_exists.1 h2.1;exact⟨fn,c,rfl,hc,fun e=>by rw[e]at h2;simp at h2⟩
def hdP:List Value→Nat
 | .pointer (some a)::_=>a.block
 |_=>0
section
variable (fil nam:Bs→Bool)(tak:Bs→Bs→Bool)(B:H)(s:St)(a:Nat)(e:Nat→Value)(v:Value)(n:cU)
def bMl:Pw.Dm:=fun f args h=>f=30∧∃nm,Rep B h nm s a∧Ext B h∧args=[aB (nm .mdl)]
def bKw:Pw.Rl:=fun _ _ h v h'=>aCi s h v h'
def aNt (f:Nat):Bool×St:=if f=18 then nJ fil nam tak s n else if f=19 then lW fil nam s n else if f=20 then eX tak s a n else if f=21 then fT tak s n else if f=23 then dO s n.op else fC tak (dO s n.op).2 n.op
def dmR:Pw.Dm:=fun f args h=>∃nm,Ext B h∧(((f=18∧n.kind=2∨f=19∨f=20∨f=21)∧Rep B h nm s a∧args=[aB (nm .chk),cD e v n])∨(f=23∧Rep B h nm s a∧args=[aB (nm .chk),fD ((aE s.pubs n.op).map fun _=>nm (.pub n.op))])∨
 (f=24∧Rep B h nm (dO s n.op).2 a∧args=[aB (nm .chk),fD ((aE (dO s n.op).2.subs n.op).map fun _=>nm (.sb n.op))]))
def rlR:Pw.Rl:=fun f args h v h'=>match decide (f=23)with|true=>eL B (hdP args) a h (aNt fil nam tak s a n f) v h'∧KeepN h h'|false=>eL B (hdP args) a h (aNt fil nam tak s a n f) v h'
end
theorem sB {fil nam:Bs→Bool}{tak:Bs→Bs→Bool}{B:H}{s:St}{a:Nat}{n:cU}{f:FuncId}{args:List Value}{h h':H}{v:Value}(hr:rlR fil nam tak B s a n f args h v h'):eL B (hdP args) a h (aNt fil nam tak s a n f) v h':=by
 unfold rlR at hr
 cases hd:decide (f=23)with
 |true=>rw[hd]at hr;exact hr.1
 |false=>rw[hd]at hr;exact hr
section
variable {D:CF}{T0:H}{fil nam:Bs→Bool}{tak:Bs→Bs→Bool}(k4:K4 D T0 fil nam tak){B:H}{s:St}{a K:Nat}{e:Nat→Value}{v:Value}{n:cU}(hC:aM prog 3 (CI D))
include k4 hC
theorem bLj (hs:s.seats.length≤2^36):RelOK prog 3 RaZ.isR (bMl B s a) (bKw s):=by
 refine RelOK.layer (by kernel_rfl) (by kernel_rfl) hC (RelOK.zero vW) (fun f args h _ hd=>?_) fun f args h v h' _ hr=>hr.2.1.next;obtain⟨rfl,nm,r,hB,rfl⟩:=hd;exact W30 k4 (RelOK.zero vW) r hB hs
theorem okR (hT:HasT T0 B)(hB3:3≤B.next)(no:NoteOk B v n)(hs:s.seats.length≤2^36)(inv:InvS K s)(inv2:InvS K (bL fil nam s n).2)(hK:K≤2^40):RelOK prog 3 RaZ.isR (dmR B s a e v n) (rlR fil nam tak B s a n):=by
 have o1:=bLj k4 (B:=B) (s:=s) (a:=a) hC hs;have it:Inv (dO s n.op).2:=by
  unfold dO;split
  ·exact inv.opn
  ·split
   ·exact inv.opn
   ·exact inv.opn
 refine RelOK.layer (by kernel_rfl) (by kernel_rfl) hC o1 (fun f args h _ hd=>?_) fun f args h v h' _ hr=>(sB hr).2.2.2;obtain⟨nm,hB,hd⟩:=hd;rcases hd with⟨hf,r,rfl⟩|⟨rfl,r,rfl⟩|⟨rfl,r,rfl⟩
 ·rcases hf with⟨rfl,hk⟩|rfl|rfl|rfl
  ·exact W18 k4.k3 o1 hT hB3 r hB e v n no hk inv2 hK
  ·exact W19 k4.k3 o1 hT hB3 r hB e v n no inv2 hK
  ·exact W20 k4 o1 hT hB3 r hB e v n (fun h' r' hB'=>⟨rfl,nm,r',hB',rfl⟩) fun _ _ _ h=>h
  ·exact W21 k4.k3.k2 o1 hT hB3 r hB e v n
 ·exact W23 k4.k3.k2 o1 r hB n.op
 ·exact W24 k4.k3.k2 o1 hT hB3 r hB it n.op
theorem W15 (hT:HasT T0 B)(hB3:3≤B.next)(no:NoteOk B v n)(hs:s.seats.length≤2^36)(inv:InvS K s)(inv2:InvS K (bL fil nam s n).2)(hK:K≤2^40){h:H}{nm:Col→Nat}(r:Rep B h nm s a)(hB:Ext B h):
 ∃L,dC prog (CI D) RaZ.isR (dmR B s a e v n) (rlR fil nam tak B s a n) L 3 15 [aB (nm .chk),cD e v n] h (eL B (nm .chk) a h (aY fil nam tak s a n)):=by
 have k2:=k4.k3.k2;have ok:=okR k4 (B:=B) (s:=s) (a:=a) (e:=e) hC hT hB3 no hs inv inv2 hK;obtain⟨h1,hh1⟩:∃h1,h1=h.push (.cells (bH e v n) (some 0)):=⟨_,rfl⟩;have e1:A.box 35 (cD e v n) h=some (aB h.next,h1):=by rw[hh1];rfl
 have x1:Ext h h1:=by rw[hh1];exact Ext.push h _
 have n1:h1.next=h.next+1:=by rw[hh1];rfl
 have g1:h1.get h.next=some (.cells (bH e v n) (some 0)):=by rw[hh1,H.get_push,kB rfl]
 have r1:=r.ext hB.next x1;have hB1:=hB.trans x1;have n_0:=ld k2 g1 0 rfl;have n_1:=ld k2 g1 1 rfl;have n_4:=ld k2 g1 4 rfl;have l35:A.load true 35 (aB h.next) h1=some (cD e v n):=by rw[aV,g1];rfl
 have c1:=ld k2 (r1.ok .chk) 1 rfl;have c2:=ld k2 (r1.ok .chk) 2 rfl;have lkp:=aJy r1 n.op;have lks:=aFh r1 n.op;refine⟨0,bOm ok _ _ h ?_⟩;have aAr:∀f,RaZ.isR f=true→dmR B s a e v n f [aB (nm .chk),cD e v n] h1→aY fil nam tak s a n=aNt fil nam tak s a n f→
  mJ RaZ.isR (dmR B s a e v n) (rlR fil nam tak B s a n) (CI D) (fun C=>bnd (A.load true 35 (aB h.next) h1) fun b=>aF (C f [aB (nm .chk),b] h1) fun c d=>aC c fun e=>okU (eL B (nm .chk) a h (aY fil nam tak s a n) (.bool e) d))=some ():=fun f hf hd he=>by
  refine okU_iff.2 fun φ hφ=>?_;simp only[l35,RaK.S];refine gC hφ hf hd fun v' h' hR=>?_;obtain⟨hv,q1,q2,q3⟩:=sB hR;subst hv;simp only[RaK.S];rw[he];exact okU_iff.2 ⟨rfl,q1,q2,by omega⟩
 by_cases k1:n.kind=1
 ·have d1:decide ((n.kind:Int)=1)=true:=kC (by omega);by_cases h8:n.ptype=8
  ·have d8:decide ((n.ptype:Int)=8)=true:=kC (by omega)
   cases hb:aE s.subs n.op with
   |some b=>
    rw[hb]at lks;have z58:=tE (t:=58) (by kernel_rfl) (nm (.sb n.op));have et:aY fil nam tak s a n=(true,s):=by unfold aY;rw[kB k1];simp[hb]
    simp only[F15,qP,tC,qO,tB,tA,aPw,aMt,e1,RaK.S,Nat.zero_add,Nat.add_zero,n_0,zQ,d1,n_4,d8,c2,n_1,show RaW.Z58=.pointer none from rfl,lks,Option.map_some,fD,z58];rw[et];exact okU_iff.2 ⟨rfl,⟨nm,rfl,r1⟩,hB1,x1.next⟩
   |none=>
    rw[hb]at lks;have z58:A.zA prog .eql 58 (.pointer none) (.pointer none)=some (.bool true):=by kernel_rfl
    have et:aY fil nam tak s a n=(true,{s with subs:=aL s.subs n.op (eB s)}):=by unfold aY;rw[kB k1];simp[hb,h8]
    obtain⟨h2,nm2,e17,q1,r2,hB2,f2⟩:=T17 k4.k3 r1 hB1 (inv.kept.up hK) hb;simp only[F15,qP,tC,qO,tB,tA,aPw,aMt,e1,RaK.S,Nat.zero_add,Nat.add_zero,n_0,zQ,d1,n_4,d8,c2,n_1,show RaW.Z58=.pointer none from rfl,lks,Option.map_none,fD,z58,e17];rw[et];exact okU_iff.2 ⟨rfl,⟨nm2,q1,r2⟩,hB2,by have:=f2.2.2;omega⟩
  ·have d8:decide ((n.ptype:Int)=8)=false:=kD (by omega);have et:aY fil nam tak s a n=(true,s):=by unfold aY;rw[kB k1];simp[h8]
   simp only[F15,qP,tC,qO,tB,tA,aPw,aMt,e1,RaK.S,Nat.zero_add,Nat.add_zero,n_0,zQ,d1,n_4,d8];rw[et];exact okU_iff.2 ⟨rfl,⟨nm,rfl,r1⟩,hB1,x1.next⟩
 have d1:decide ((n.kind:Int)=1)=false:=kD (by omega);by_cases k2':n.kind=2
 ·have d2:decide ((n.kind:Int)=2)=true:=kC (by omega);have fin:=aAr 18 rfl ⟨nm,hB1,.inl ⟨.inl ⟨rfl,k2'⟩,r1,rfl⟩⟩ (by unfold aY;rw[kA k1,kB k2'];rfl);simp only[F15,qP,tC,qO,tB,tA,aAu,bIb,e1,RaK.S,Nat.zero_add,n_0,zQ,d1,d2];exact fin
 have d2:decide ((n.kind:Int)=2)=false:=kD (by omega);by_cases k5:n.kind=5
 ·have d5:decide ((n.kind:Int)=5)=true:=kC (by omega);have fin:=aAr 19 rfl ⟨nm,hB1,.inl ⟨.inr (.inl rfl),r1,rfl⟩⟩ (by unfold aY;rw[kA k1,kA k2',kB k5];rfl);simp only[F15,qP,tC,qO,tB,tA,aAu,aCk,bIc,e1,RaK.S,Nat.zero_add,n_0,zQ,d1,d2,d5];exact fin
 have d5:decide ((n.kind:Int)=5)=false:=kD (by omega);by_cases k4':n.kind=4
 ·have d4:decide ((n.kind:Int)=4)=true:=kC (by omega);have fin:=aAr 20 rfl ⟨nm,hB1,.inl ⟨.inr (.inr (.inl rfl)),r1,rfl⟩⟩ (by unfold aY;rw[kA k1,kA k2',kA k5,kB k4'];rfl);simp only[F15,qP,tC,qO,tB,tA,aAu,aCk,aEs,bId,e1,RaK.S,Nat.zero_add,n_0,zQ,d1,d2,d5,d4];exact fin
 have d4:decide ((n.kind:Int)=4)=false:=kD (by omega);by_cases k6:n.kind=6
 ·have d6:decide ((n.kind:Int)=6)=true:=kC (by omega);have fin:=aAr 21 rfl ⟨nm,hB1,.inl ⟨.inr (.inr (.inr rfl)),r1,rfl⟩⟩ (by unfold aY;rw[kA k1,kA k2',kA k5,kA k4',kB k6];rfl);simp only[F15,qP,tC,qO,tB,tA,aAu,aCk,aEs,aFw,bIe,e1,RaK.S,Nat.zero_add,n_0,zQ,d1,d2,d5,d4,d6];exact fin
 have d6:decide ((n.kind:Int)=6)=false:=kD (by omega);obtain⟨h22,v22,e22,p22⟩:=T22 k4.k3 hT hB3 r1 hB1 inv hK e v n;have fin22:aY fil nam tak s a n=eA tak s n→(aC v22 fun e=>okU (eL B (nm .chk) a h (aY fil nam tak s a n) (.bool e) h22))=some ():=fun he=>by
  obtain⟨hv,q1,q2,q3⟩:=p22;subst hv;simp only[RaK.S];rw[he];exact okU_iff.2 ⟨rfl,q1,q2,by omega⟩
 by_cases k7:n.kind=7
 ·have d7:decide ((n.kind:Int)=7)=true:=kC (by omega)
  cases hp:aE s.pubs n.op with
  |some p=>
   rw[hp]at lkp;have z60:A.zA prog .neq 60 (aB (nm (.pub n.op))) (.pointer none)=some (.bool true):=aRn (t:=60) (by kernel_rfl) _;have fin:=aAr 21 rfl ⟨nm,hB1,.inl ⟨.inr (.inr (.inr rfl)),r1,rfl⟩⟩ (by unfold aY;rw[kA k1,kA k2',kA k5,kA k4',kA k6,kB k7];simp only[hp,Option.isSome_some,if_true];rfl);simp only[F15,qP,tC,qO,tB,tA,aAu,aCk,aEs,aFw,aIv,aVh,e1,RaK.S,Nat.zero_add,n_0,zQ,d1,d2,d5,d4,d6,d7,c1,n_1,show RaW.Z60=.pointer none from rfl,lkp,Option.map_some,fD,z60];exact fin
  |none=>
   rw[hp]at lkp;have z60:A.zA prog .neq 60 (.pointer none) (.pointer none)=some (.bool false):=by kernel_rfl
   have fin:=fin22 (by unfold aY;rw[kA k1,kA k2',kA k5,kA k4',kA k6,kB k7];simp only[hp,Option.isSome_none,pB,if_false]);simp only[F15,qP,tC,qO,tB,tA,aAu,aCk,aEs,aFw,aIv,aVh,e1,RaK.S,Nat.zero_add,n_0,zQ,d1,d2,d5,d4,d6,d7,c1,n_1,show RaW.Z60=.pointer none from rfl,lkp,Option.map_none,fD,z60,l35,e22];exact fin
 have d7:decide ((n.kind:Int)=7)=false:=kD (by omega);by_cases k8:n.kind=8
 ·have d8:decide ((n.kind:Int)=8)=true:=kC (by omega);have fin:=fin22 (by unfold aY;rw[kA k1,kA k2',kA k5,kA k4',kA k6,kA k7,kB k8]);simp only[F15,qP,tC,qO,tB,tA,aAu,aCk,aEs,aFw,aIv,aPx,bIf,e1,RaK.S,Nat.zero_add,n_0,zQ,d1,d2,d5,d4,d6,d7,d8,l35,e22];exact fin
 have d8:decide ((n.kind:Int)=8)=false:=kD (by omega);by_cases k3':n.kind=3
 case neg=>
  have d3:decide ((n.kind:Int)=3)=false:=kD (by omega);have et:aY fil nam tak s a n=(true,s):=by unfold aY;rw[kA k1,kA k2',kA k5,kA k4',kA k6,kA k7,kA k8,kA k3']
  simp only[F15,qP,tC,qO,tB,tA,aAu,aCk,aEs,aFw,aIv,aPx,aVi,bIi,aMt,e1,RaK.S,Nat.zero_add,n_0,zQ,d1,d2,d5,d4,d6,d7,d8,d3];rw[et];exact okU_iff.2 ⟨rfl,⟨nm,rfl,r1⟩,hB1,x1.next⟩
 have d3:decide ((n.kind:Int)=3)=true:=kC (by omega);have et:aY fil nam tak s a n=(if(dO s n.op).1 then fC tak (dO s n.op).2 n.op else dO s n.op):=by unfold aY;rw[kA k1,kA k2',kA k5,kA k4',kA k6,kA k7,kA k8,kB k3']
 simp only[F15,qP,tC,qO,tB,tA,aAu,aCk,aEs,aFw,aIv,aPx,aVi,bIh,bIg,e1,RaK.S,Nat.zero_add,n_0,zQ,d1,d2,d5,d4,d6,d7,d8,d3,mJ];refine okU_iff.2 fun φ hφ=>?_;simp only[c1,RaK.S,n_1,show RaW.Z60=.pointer none from rfl,lkp];refine gC hφ rfl ⟨nm,hB1,.inr (.inl ⟨rfl,r1,rfl⟩)⟩ fun v2 h2 hR=>?_;obtain⟨⟨hv,⟨nm2,q1,r2⟩,hB2,q3⟩,kp⟩:=hR;subst hv;have q1:nm2 .chk=nm .chk:=q1;have eo:aNt fil nam tak s a n 23=dO s n.op:=rfl;rw[eo]at r2⊢
 cases ht:(dO s n.op).1 with
 |false=>
  rw[ht]at et;simp only[pB,if_false]at et;simp only[RaK.S];rw[et];exact okU_iff.2 ⟨by rw[ht],⟨nm2,q1,r2⟩,hB2,by omega⟩
 |true=>
  rw[ht]at et;simp only[if_true]at et;have c22:=ld k2 (r2.ok .chk) 2 rfl;rw[q1]at c22;have n_12:A.load false 1 (.pointer (some ⟨h.next,1,none⟩)) h2=some (.int .i64 n.op):=ld k2 (kp h.next _ (by omega) rfl g1) 1 rfl;have lks2:=aFh r2 n.op;simp only[RaK.S,c22,n_12,show RaW.Z58=.pointer none from rfl,lks2];refine gC hφ rfl ⟨nm2,hB2,.inr (.inr ⟨rfl,r2,by rw[q1]⟩)⟩ fun v3 h3 hR=>?_;obtain⟨hv,q4,q5,q6⟩:=sB hR;subst hv;simp only[RaK.S];rw[et];exact okU_iff.2 ⟨rfl,q4,q5,by omega⟩
end
end Go.Proofs.YtpanfoafajepcaaGreatDoor.Ra

set_option maxRecDepth 100000
namespace Go.Proofs.YtpanfoafajepcaaGreatDoor.Ra
open Tryz (prog)
open Go Go.AM
open _root_.Ra
theorem sD {κ α:Type}[DecidableEq κ](c:κ)(a:α):∀l:List (κ×α),(aL l c a).length≤l.length+1
 |[]=>by simp[aL]
 |(k,x)::r=>by
  simp only[aL];split
  ·simp
  ·have:=sD c a r;simp only[kM];omega
theorem sG {κ α:Type}[DecidableEq κ](c:κ):∀l:List (κ×α),(fL l c).length≤l.length
 |[]=>by simp[fL]
 |(k,x)::r=>by
  simp only[fL];split
  ·simp
  ·have:=sG c r;simp only[kM];omega
theorem aAa {κ α:Type}[DecidableEq κ]{c:κ}{a:α}:∀{l:List (κ×α)} (x:κ×α),x∈aL l c a→x.1=c∨∃y∈l,x.1=y.1
 |[],x,h=>by simp only[aL,List.mem_singleton]at h;exact .inl (by rw[h])
 |(k,b)::r,x,h=>by
  simp only[aL]at h;split at h
  ·rename_i e;rcases List.mem_cons.1 h with h|h
   ·exact .inl (by rw[h];first|exact e|rfl)
   ·exact .inr ⟨x,List.mem_cons_of_mem _ h,rfl⟩
  ·rcases List.mem_cons.1 h with h|h
   ·exact .inr ⟨_,List.mem_cons_self,by rw[h]⟩
   ·rcases aAa x h with e|⟨y,hy,e⟩
    ·exact .inl e
    ·exact .inr ⟨y,List.mem_cons_of_mem _ hy,e⟩
def InvB (K:Nat)(b:Sb):Prop:=(b.open_=true→b.done=true)∧∀t ms,aE b.past t=some ms→ms.length≤K
theorem InvS.mk' {K:Nat}{s:St}(h1:∀o b,aE s.subs o=some b→InvB K b)(h2:KeysOk K s.kept)(h3:s.seats.length≤K):InvS K s:=⟨fun o b hb=>(h1 o b hb).1,fun o b t ms hb=>(h1 o b hb).2 t ms,h2,h3⟩
theorem InvS.sb {K:Nat}{s:St}(i:InvS K s){o:Int}{b:Sb}(hb:aE s.subs o=some b):InvB K b:=⟨i.opn o b hb,fun t ms=>i.past o b t ms hb⟩
theorem InvB.up {K K':Nat}{b:Sb}(i:InvB K b)(h:K≤K'):InvB K' b:=⟨i.1,fun t ms ht=>kG (i.2 t ms ht) h⟩
theorem InvS.up {K K':Nat}{s:St}(i:InvS K s)(h:K≤K'):InvS K' s:=.mk' (fun o b hb=>(i.sb hb).up h) (i.kept.up h) (kG i.seats h)
theorem InvS.pubs {K:Nat}{s:St}(i:InvS K s)(p:List (Int×Pub)):InvS K {s with pubs:=p}:=.mk' (fun _ _ hb=>i.sb hb) i.kept i.seats
theorem InvS.put {K:Nat}{s:St}(i:InvS K s){o:Int}{b:Sb}(hb:InvB K b):InvS K {s with subs:=aL s.subs o b}:=.mk' (fun o' b' h=>by
 simp only[aD]at h;split at h
 ·cases h;exact hb
 ·exact i.sb h) i.kept i.seats
section
variable (fil nam:Bs→Bool)(tak:Bs→Bs→Bool)
theorem uE {K:Nat}{s:St}(i:InvS K s)(n:cU)(top:n.msg.topic.length≤maxLen):InvS (K+1) (bL fil nam s n).2:=by
 have i':=i.up (pS K);have seat:∀(l:List (Bs×tG)),l.length≤K+1→InvS (K+1) {s with seats:=l}:=fun l hl=>.mk' (fun _ _ hb=>i'.sb hb) i'.kept hl;have kept:∀(l:List (Bs×Msg)),KeysOk (K+1) l→InvS (K+1) {s with kept:=l}:=fun l hl=>.mk' (fun _ _ hb=>i'.sb hb) hl i'.seats;have hp:∀(c:Bs) (x:tG),(aL s.seats c x).length≤K+1:=fun c x=>by have:=sD c x s.seats;have:=i.seats;omega
 unfold bL;split
 ·unfold dR;split
  ·refine kept _ ?_;split
   ·exact⟨by have:=sG n.msg.topic s.kept;have:=i.kept.1;omega,fun x hx=>i.kept.2 x ((sF s.kept _).subset hx)⟩
   ·exact⟨kG (sD _ _ _) (by have:=i.kept.1;omega),fun x hx=>(aAa x hx).elim (fun e=>e▸top) fun⟨y,hy,e⟩=>e▸i.kept.2 y hy⟩
  ·exact i'
 ·split
  ·exact i'
  ·split
   ·unfold aO;by_cases hc:n.conn<1
    ·simp only[kB hc];exact i'
    ·simp only[kA hc]
     cases aE s.seats n.client with
     |none=>exact seat _ (hp _ _)
     |some x=>
      simp only;by_cases h0:0<x.conn
      ·simp only[kB h0];exact i'
      ·simp only[kA h0];split
       ·rename_i h;split at h<;>(cases h;exact seat _ (hp _ _))
       ·exact i'
   ·split
    ·exact i'
    ·split
     ·exact i'
     ·split
      ·exact seat _ (hp _ _)
      ·split
       ·exact seat _ (hp _ _)
       ·split
        ·refine seat _ ?_;split
         ·have:=sG n.client s.seats;have:=i.seats;omega
         ·exact hp _ _
        ·exact i'
theorem uW (s:St)(n:cU):((aO s n).getD s).subs=s.subs:=by
 unfold aO;by_cases hc:n.conn<1
 ·simp only[kB hc];rfl
 ·simp only[kA hc]
  cases aE s.seats n.client with
  |none=>rfl
  |some x=>
   simp only;by_cases h0:0<x.conn
   ·simp only[kB h0];rfl
   ·simp only[kA h0];split<;>rfl
theorem aBy (s:St)(n:cU):(bL fil nam s n).2.subs=s.subs:=by
 have hc:=uW s n;unfold bL;split
 ·unfold dR;split<;>rfl
 ·split
  ·rfl
  ·split
   ·split
    ·rename_i s' h;rw[h]at hc;exact hc
    ·rfl
   ·split
    ·rfl
    ·split
     ·rfl
     ·split
      ·rfl
      ·split
       ·rfl
       ·split<;>rfl
theorem rP:∀(l:List Msg) (b:Sb),b.open_=false→(∀t ms,aE b.past t=some ms→ms.length≤1)→(sY b l).open_=false∧∀t ms,aE (sY b l).past t=some ms→ms.length≤1
 |[],b,h1,h2=>⟨h1,h2⟩
 |m::l,b,h1,h2=>rP l _ h1 fun t ms ht=>by
  simp only[aD]at ht;split at ht
  ·cases ht;simp
  ·exact h2 t ms ht
theorem uB (s:St){K:Nat}(hK:1≤K):InvB K (eB s):=by
 obtain⟨h1,h2⟩:=rP (gM s) {} rfl (fun t ms ht=>by cases ht);refine⟨fun h=>?_,fun t ms ht=>kG (h2 t ms ht) hK⟩;unfold eB at h;rw[h1]at h;cases h
theorem aHf {K:Nat}{b:Sb}(i:InvB K b)(hK:1≤K+1)(m:Msg):InvB (K+1) (dB m b):=by
 unfold dB;split
 ·exact i.up (pS K)
 ·refine⟨i.1,fun t ms ht=>?_⟩;simp only at ht;split at ht
  ·exact Nat.le_succ_of_le (i.2 t ms ht)
  ·simp only[aD]at ht;split at ht
   ·cases ht
    cases hp:aE b.past m.topic with
    |none=>simp
    |some l=>have:=i.2 _ _ hp;simp;omega
   ·exact Nat.le_succ_of_le (i.2 t ms ht)
theorem aDv {K:Nat}{s:St}(i:InvS K s)(a:Nat)(n:cU)(top:n.msg.topic.length≤maxLen):InvS (K+1) (aY fil nam tak s a n).2:=by
 have i':=i.up (pS K);have ia:=uE fil nam i n top;have aCb:InvS (K+1) (eA tak s n).2:=by
  unfold eA;split
  ·exact i'
  ·rename_i b hb;split
   ·exact i'
   ·split
    ·exact i'
    ·exact i'.put ⟨(i'.sb hb).1,(i'.sb hb).2⟩
 have aLq:InvS (K+1) (fT tak s n).2:=by
  unfold fT;split
  ·exact i'
  ·split
   ·exact i'
   ·split
    ·exact i'
    ·split
     ·exact i'
     ·split
      ·exact i'
      ·exact i'.pubs _
 have aAr:InvS (K+1) (dO s n.op).2:=by
  unfold dO;split
  ·exact i'
  ·split
   ·exact i'.pubs _
   ·exact i'
 have aKa:∀s',InvS (K+1) s'→InvS (K+1) (fC tak s' n.op).2:=fun s' i'=>by
  unfold fC;split
  ·exact i'
  ·rename_i b hb;split
   ·exact i'.put ⟨fun h=>(by simp at h),(i'.sb hb).2⟩
   ·exact i'
 unfold aY;split
 ·show InvS (K+1) (if n.ptype=8∧(aE s.subs n.op).isSome=false then{s with subs:=aL s.subs n.op (eB s)}else s)
  split
  ·exact i'.put (uB s (by omega))
  ·exact i'
 ·split
  ·unfold nJ;split
   ·rename_i s2 hs;rw[hs]at ia;exact ia
   ·rename_i codes s2 hs;rw[hs]at ia;have i3:=ia.pubs (s2.pubs.map fun x=>(x.1,eU tak s2 n.client x.2));simp only;split
    ·exact i3
    ·have ib:InvB (K+1) ((aE s2.subs n.op).getD (eB {s2 with pubs:=s2.pubs.map fun x=>(x.1,eU tak s2 n.client x.2)})):=by
      cases hb:aE s2.subs n.op with
      |none=>exact uB _ (by omega)
      |some b=>exact ia.sb hb
     have i4:InvS (K+1) (if(aE s2.subs n.op).isSome then{s2 with pubs:=s2.pubs.map fun x=>(x.1,eU tak s2 n.client x.2)}else{s2 with pubs:=s2.pubs.map fun x=>(x.1,eU tak s2 n.client x.2),subs:=aL s2.subs n.op ((aE s2.subs n.op).getD (eB {s2 with pubs:=s2.pubs.map fun x=>(x.1,eU tak s2 n.client x.2)}))}):=by
      split
      ·exact i3
      ·exact i3.put ib
     split
     ·exact i4
     ·exact i4.put ⟨fun _=>rfl,ib.2⟩
  ·split
   ·unfold lW;split
    ·rename_i s2 hs;rw[hs]at ia;exact ia
    ·rename_i codes s2 hs;have ia2:InvS (K+1) s2:=by rw[hs]at ia;exact ia
     have es:s2.subs=s.subs:=by have:=aBy fil nam s n;rw[hs]at this;exact this
     refine .mk' (fun o b hb=>?_) ia2.kept ia2.seats;have hb:aE (s2.subs.map fun x=>(x.1,dB {n.msg with retain:=true} x.2)) o=some b:=hb;rw[gI (fun x:Int×Sb=>dB {n.msg with retain:=true} x.2),es]at hb;obtain⟨b0,h0,rfl⟩:=Option.map_eq_some_iff.1 hb;exact aHf (i.sb h0) (by omega) _
   ·split
    ·unfold eX;split
     ·exact i'
     ·exact i'.pubs _
    ·split
     ·exact aLq
     ·split
      ·split
       ·exact aLq
       ·exact aCb
      ·split
       ·exact aCb
       ·split
        ·show InvS (K+1) (if(dO s n.op).1 then fC tak (dO s n.op).2 n.op else dO s n.op).2
         split
         ·exact aKa _ aAr
         ·exact aAr
        ·exact i'
end
end Go.Proofs.YtpanfoafajepcaaGreatDoor.Ra

set_option maxRecDepth 100000
namespace Go.Proofs.YtpanfoafajepcaaGreatDoor.Ra
open Tryz (prog)
open Go Go.AM RaA RaI RaW RaX RaY
open _root_.Ra
abbrev NZ:=(Nat→Value)×Value×cU
abbrev nzC (z:NZ):List Value:=bH z.1 z.2.1 z.2.2
def n00:cU:=⟨0,0,0,[],0,false,[],⟨[],[],0,false⟩,0⟩
def qF (h:H)(p:Nat):Nat:=match h.get p with
 |some (.cells cs _)=>(match(cs[3]?:Option Value)with|some (Value.int _ i)=>i.toNat|_=>0)
 |_=>0
section
variable (fil nam:Bs→Bool)(tak:Bs→Bs→Bool)(l:List cU)
def sAt:Nat→St
 |0=>{}
 |i+1=>(aY fil nam tak (sAt i) i (l.getD i n00)).2
theorem aDg (top:∀n∈l,n.msg.topic.length≤maxLen):∀i,InvS i (sAt fil nam tak l i)
 |0=>.mk' (fun _ _ h=>(by cases h)) ⟨kF _,fun _ h=>(by cases h)⟩ (kF _)
 |i+1=>aDv fil nam tak (aDg top i) i _ (by
  rw[List.getD_eq_getElem?_getD]
  cases e:l[i]? with
  |none=>exact pR _
  |some n=>exact top n (List.mem_of_getElem? e))
def bJs (B:H)(ls:List NZ):Pw.Dm:=fun f args h=>f=15∧∃i nm z,ls[i]?=some z∧Rep B h nm (sAt fil nam tak (ls.map (·.2.2)) i) i∧Ext B h∧args=[aB (nm .chk),.agg ⟨nzC z⟩]
def aOq (B:H)(ls:List NZ):Pw.Rl:=fun _ args h v h'=>eL B (hdP args) (qF h (hdP args)) h (aY fil nam tak (sAt fil nam tak (ls.map (·.2.2)) (qF h (hdP args))) (qF h (hdP args)) ((ls.map (·.2.2)).getD (qF h (hdP args)) n00)) v h'
end
theorem Rep.place {B h:H}{nm:Col→Nat}{s:St}{a:Nat}(r:Rep B h nm s a)(hB:B.next≤h.next)(i:Nat):∃h',A.store 1 (.pointer (some ⟨nm .chk,3,none⟩)) (.int .i64 (i:Int)) h=some h'∧Rep B h' nm s i∧At (nm .chk) h h':=by
 have g:=r.ok .chk;refine⟨h.put (nm .chk) (.cells [aB (nm .mdl),aP (nm .pubs),aP (nm .subs),.int .i64 (i:Int)] (some 0)),by rw[qU,g];rfl,?_,At.put h _ _⟩;refine r.upd (fun C=>C=.chk) (kF _) hB (fun C h _=>⟨h,rfl⟩) (fun C h _=>.inl ⟨h,rfl⟩) (fun C C' _ _ t1 t2 _ _=>by rw[t1,t2]) (fun C hl hT=>by rw[H.get_put,kA fun e=>hT (r.inj _ _ hl trivial e)]) (fun C hT=>⟨?_,by cases C<;>simp[iY]⟩) (fun d o t=>⟨fun h=>?_,fun h=>?_,fun h=>?_,fun _=>rfl⟩) (fun C hT=>?_)
 ·cases C<;>simp[cO]
 ·cases h
 ·cases h
 ·cases h
 ·subst hT;show(h.put (nm .chk) _).get (nm .chk)=_;rw[H.get_put,kB rfl]
section
variable {D:CF}{T0:H}{fil nam:Bs→Bool}{tak:Bs→Bs→Bool}(k4:K4 D T0 fil nam tak)(hC:aM prog 3 (CI D))
include k4 hC
theorem bLk {B:H}(hT:HasT T0 B)(hB3:3≤B.next){ls:List NZ}(no:∀z∈ls,NoteOk B z.2.1 z.2.2)(hl:ls.length≤2^30):RelOK prog 3 RaZ.isR (bJs fil nam tak B ls) (aOq fil nam tak B ls):=by
 refine RelOK.layers (by kernel_rfl) (by kernel_rfl) hC vW (fun f args h _ hd=>?_) fun f args h v h' _ hr=>hr.2.2.2;obtain⟨rfl,i,nm,z,hz,r,hB,rfl⟩:=hd;have hil:=(List.getElem?_eq_some_iff.1 hz).1;have inv:=aDg fil nam tak (ls.map (·.2.2)) (fun n hn=>by obtain⟨z,hz,rfl⟩:=List.mem_map.1 hn;exact(no z hz).top) i;have hi:qF h (nm .chk)=i:=by unfold qF;rw[r.ok .chk];rfl
 have hn:(ls.map (·.2.2)).getD i n00=z.2.2:=by rw[List.getD_eq_getElem?_getD,kX,hz];rfl
 have hx:aOq fil nam tak B ls 15 [aB (nm .chk),.agg ⟨nzC z⟩] h=eL B (nm .chk) i h (aY fil nam tak (sAt fil nam tak (ls.map (·.2.2)) i) i z.2.2):=by
  unfold aOq;funext v h';show eL B (nm .chk) (qF h (nm .chk)) h (aY fil nam tak (sAt fil nam tak (ls.map (·.2.2)) (qF h (nm .chk))) (qF h (nm .chk)) ((ls.map (·.2.2)).getD (qF h (nm .chk)) n00)) v h'=_;rw[hi,hn]
 have noz:=no z (List.mem_of_getElem? hz);have i2:=uE fil nam inv z.2.2 noz.top;rw[hx];exact⟨_,_,okR k4 (B:=B) (s:=sAt fil nam tak (ls.map (·.2.2)) i) (a:=i) (e:=z.1) (v:=z.2.1) (n:=z.2.2) (K:=i+1) hC hT hB3 noz (kG inv.seats (by omega)) (inv.up (pS _)) i2 (by omega),
  W15 k4 hC hT hB3 noz (kG inv.seats (by omega)) (inv.up (pS _)) i2 (by omega) r hB⟩
theorem aLl {h:H}{v:Value}{ls:List NZ}(x:SliceE 35 h v (ls.map nzC)){i:Nat}{z:NZ}(hz:ls[i]?=some z):∃off q,A.zL 35 v (.int .i64 (i:Int))=some (.pointer (some ⟨q,off,none⟩))∧A.load true 35 (.pointer (some ⟨q,off,none⟩)) h=some (.agg ⟨nzC z⟩):=by
 have _:=k4;have _:=hC;have hx:(ls.map nzC)[i]?=some (nzC z):=by rw[kX,hz];rfl
 obtain⟨id,off,cells,own,ei,_,g,h1,h2,hc⟩:=x.at hx .i64;refine⟨off,id,ei,?_⟩;rw[aV,g];simp only[ble_iff.2 h1,cond_true,h2]
theorem lp6 {B:H}{ls:List NZ}(hl:ls.length≤2^30){x0 x12:Value}(sx:SliceE 35 B x12 (ls.map nzC)){pc:Nat}(kr:Pk.K2 Unit)(kx:Pk.K1 Unit)
 (k0:∀h' i,Ext B h'→Ra.check (aY fil nam tak) {} 0 (ls.map (·.2.2))=(i,false)→kr (.int .i64 (i:Int)) (.bool false) h'=some ()) (k1:∀h',Ext B h'→Ra.check (aY fil nam tak) {} 0 (ls.map (·.2.2))=(ls.length,true)→kx x0 h'=some ()) {L:Nat}:
 ∀(d i m:Nat) (h:H) (nm:Col→Nat) (a:Nat),i+d=ls.length→d<m→Rep B h nm (sAt fil nam tak (ls.map (·.2.2)) i) a→Ext B h→nm .chk=pc→Ra.check (aY fil nam tak) {} 0 (ls.map (·.2.2))=Ra.check (aY fil nam tak) (sAt fil nam tak (ls.map (·.2.2)) i) i ((ls.map (·.2.2)).drop i)→
  aIx (CI D) L (bJs fil nam tak B ls) (aOq fil nam tak B ls) kr kx m (.int .i64 (ls.length:Int)) (.int .i64 (i:Int)) (aB pc) x12 x0 h=some ():=by
 have k2:=k4.k3.k2;intro d
 induction d with
 |zero=>
  intro i m h nm a hi hm r hB hpc hck;obtain⟨m,rfl⟩:∃r,m=r+1:=⟨m-1,by omega⟩;have hd:decide ((i:Int)<(ls.length:Int))=false:=kD (by omega);simp only[aIx,aOv,zZ,hd,RaK.S];refine k1 h hB ?_;rw[hck,pM (by simp;omega)];simp only[Ra.check];rw[show i=ls.length by omega]
 |succ d ih=>
  intro i m h nm a hi hm r hB hpc hck;obtain⟨m,rfl⟩:∃r,m=r+1:=⟨m-1,by omega⟩;have hd:decide ((i:Int)<(ls.length:Int))=true:=kC (by omega);obtain⟨z,hz⟩:∃z,ls[i]?=some z:=⟨_,kN (by omega)⟩;obtain⟨off,q,ei,lz⟩:=aLl k4 hC (sx.ext hB) hz;obtain⟨h1,hh1⟩:∃h1,h1=h.push (.cells RaW.Z36L (some 0)):=⟨_,rfl⟩;have e1:A.box 35 RaW.Z36 h=some (aB h.next,h1):=by rw[hh1];rfl
  have g1:h1.get h.next=some (.cells RaW.Z36L (some 0)):=by rw[hh1,H.get_push,kB rfl]
  obtain⟨h2,hh2⟩:∃h2,h2=h1.put h.next (.cells (nzC z) (some 0)):=⟨_,rfl⟩;have e2:A.store 35 (aB h.next) (.agg ⟨nzC z⟩) h1=some h2:=by rw[qU,g1,hh2];rfl
  have x2:Ext h h2:=by rw[hh2,hh1];exact(Ext.push h _).put _ _ (kF _)
  have g2:h2.get h.next=some (.cells (nzC z) (some 0)):=by rw[hh2,H.get_put,kB rfl]
  have r2:=r.ext hB.next x2;obtain⟨h3,e3,r3,a3⟩:=r2.place (kG hB.next x2.next) i;rw[hpc]at e3;have lc:=r.lt .chk trivial;have g3:h3.get h.next=some (.cells (nzC z) (some 0)):=by rw[a3.2 _ (by omega)];exact g2
  have l35:A.load true 35 (aB h.next) h3=some (.agg ⟨nzC z⟩):=by rw[aV,g3];rfl
  have hB3:Ext B h3:=a3.ext (hB.trans x2) lc.1;have w2:A.zA prog .add 3 (.int .i64 (i:Int)) (.int .i64 1)=some (.int .i64 ((i+1:Nat):Int)):=by rw[bG,aS (by omega)]
  have hn:(ls.map (·.2.2)).getD i n00=z.2.2:=by rw[List.getD_eq_getElem?_getD,kX,hz];rfl
  have hz':(ls.map (·.2.2))[i]?=some z.2.2:=by rw[kX,hz];rfl
  have hidx:qF h3 (nm .chk)=i:=by unfold qF;rw[r3.ok .chk];rfl
  rw[bT hz']at hck;simp only[Ra.check]at hck;simp only[aIx,aOv,zZ,hd,RaK.S,ei,lz,e1,e2,Nat.zero_add,e3,mJ];refine okU_iff.2 fun φ hφ=>?_;simp only[l35,RaK.S];refine gC hφ rfl ⟨rfl,i,nm,z,hz,r3,hB3,by rw[hpc]⟩ fun v h4 hR=>?_;have hR:eL B pc (qF h3 pc) h3 (aY fil nam tak (sAt fil nam tak (ls.map (·.2.2)) (qF h3 pc)) (qF h3 pc) ((ls.map (·.2.2)).getD (qF h3 pc) n00)) v h4:=hR;rw[hpc]at hidx;rw[hidx,hn]at hR;obtain⟨hv,⟨nm4,q1,r4⟩,hB4,q3⟩:=hR;subst hv
  cases hb:(aY fil nam tak (sAt fil nam tak (ls.map (·.2.2)) i) i z.2.2).1 with
  |false=>
   simp only[RaK.S];refine k0 h4 i hB4 ?_;rw[hck];split
   ·rename_i s' e;rw[e]at hb;cases hb
   ·rfl
  |true=>
   simp only[RaK.S,w2];have es:sAt fil nam tak (ls.map (·.2.2)) (i+1)=(aY fil nam tak (sAt fil nam tak (ls.map (·.2.2)) i) i z.2.2).2:=by simp only[sAt,hn]
   refine ih (i+1) m h4 nm4 i (by omega) (by omega) (by rw[es];exact r4) hB4 q1 ?_;rw[hck,es];split
   ·rename_i s' e;rw[e]
   ·rename_i s' e;rw[e]at hb;cases hb
end
end Go.Proofs.YtpanfoafajepcaaGreatDoor.Ra

set_option maxRecDepth 100000
namespace Go.Proofs.YtpanfoafajepcaaGreatDoor.Ra
open Tryz (prog)
open Go Go.AM RaA RaI RaW RaX RaY
open _root_.Ra
def nmI (b:Nat):Col→Nat
 | .chk=>b+6
 | .mdl=>b+3
 | .seats=>b
 | .keep=>b+2
 | .kept=>b+1
 | .pubs=>b+4
 | .subs=>b+5
 |_=>b
section
variable {D:CF}{T0:H}{fil nam:Bs→Bool}{tak:Bs→Bs→Bool}(k4:K4 D T0 fil nam tak)
include k4
theorem aSa (h:H):∃h1 h2 h3 h',CI D 14 [] h=some (aB (h.next+3),h1)∧A.zJ h1=some (aP (h.next+4),h2)∧A.zJ h2=some (aP (h.next+5),h3)∧A.box 4 (.agg ⟨[aB (h.next+3),aP (h.next+4),aP (h.next+5),.int .i64 0]⟩) h3=some (aB (h.next+6),h')∧
 Rep h h' (nmI h.next) {} 0∧Ext h h':=by
 have k2:=k4.k3.k2;obtain⟨a1,ha1⟩:∃a,a=h.push (.map [] 0):=⟨_,rfl⟩;obtain⟨a2,ha2⟩:∃a,a=a1.push (.map [] 0):=⟨_,rfl⟩;obtain⟨a3,ha3⟩:∃a,a=a2.push (.cells [aP (h.next+1)] (some 0)):=⟨_,rfl⟩;obtain⟨a4,ha4⟩:∃a,a=a3.push (.cells [aP h.next,aB (h.next+2)] (some 0)):=⟨_,rfl⟩;obtain⟨a5,ha5⟩:∃a,a=a4.push (.map [] 0):=⟨_,rfl⟩;obtain⟨a6,ha6⟩:∃a,a=a5.push (.map [] 0):=⟨_,rfl⟩;obtain⟨a7,ha7⟩:∃a,a=a6.push (.cells [aB (h.next+3),aP (h.next+4),aP (h.next+5),.int .i64 0] (some 0)):=⟨_,rfl⟩;have n1:a1.next=h.next+1:=by rw[ha1];rfl
 have n2:a2.next=h.next+2:=by rw[ha2];show a1.next+1=_;rw[n1]
 have n3:a3.next=h.next+3:=by rw[ha3];show a2.next+1=_;rw[n2]
 have n4:a4.next=h.next+4:=by rw[ha4];show a3.next+1=_;rw[n3]
 have n5:a5.next=h.next+5:=by rw[ha5];show a4.next+1=_;rw[n4]
 have n6:a6.next=h.next+6:=by rw[ha6];show a5.next+1=_;rw[n5]
 have n7:a7.next=h.next+7:=by rw[ha7];show a6.next+1=_;rw[n6]
 have e1:A.zJ h=some (aP h.next,a1):=by rw[ha1];rfl
 have e2:A.zJ a1=some (aP (h.next+1),a2):=by rw[ha2,←n1];rfl
 have b2:A.zN RaI.Z65L [(0,1,aP (h.next+1))]=some (.agg ⟨[aP (h.next+1)]⟩):=rfl;have e3:A.box 1 (.agg ⟨[aP (h.next+1)]⟩) a2=some (aB (h.next+2),a3):=by rw[ha3,←n2];rfl
 have e16:CI D 16 [] a1=some (aB (h.next+2),a3):=bFq 0 a1 (k2.no 16 _ _ (by decide)) (by simp only[F16,aWs,e2,RaK.S,b2,e3]);have b4:A.zN RaI.Z57L [(0,1,aP h.next),(1,1,aB (h.next+2))]=some (.agg ⟨[aP h.next,aB (h.next+2)]⟩):=rfl;have e4:A.box 2 (.agg ⟨[aP h.next,aB (h.next+2)]⟩) a3=some (aB (h.next+3),a4):=by rw[ha4,←n3];rfl
 have e14:CI D 14 [] h=some (aB (h.next+3),a4):=bFr 0 h (k2.no 14 _ _ (by decide)) (by simp only[F14,aWt,e1,RaK.S,e16,b4,e4]);have e5:A.zJ a4=some (aP (h.next+4),a5):=by rw[ha5,←n4];rfl
 have e6:A.zJ a5=some (aP (h.next+5),a6):=by rw[ha6,←n5];rfl
 have e7:A.box 4 (.agg ⟨[aB (h.next+3),aP (h.next+4),aP (h.next+5),.int .i64 0]⟩) a6=some (aB (h.next+6),a7):=by rw[ha7,←n6];rfl
 have x1:Ext h a1:=by rw[ha1];exact Ext.push h _
 have x2:Ext a1 a2:=by rw[ha2];exact Ext.push a1 _
 have x3:Ext a2 a3:=by rw[ha3];exact Ext.push a2 _
 have x4:Ext a3 a4:=by rw[ha4];exact Ext.push a3 _
 have x5:Ext a4 a5:=by rw[ha5];exact Ext.push a4 _
 have x6:Ext a5 a6:=by rw[ha6];exact Ext.push a5 _
 have x7:Ext a6 a7:=by rw[ha7];exact Ext.push a6 _
 have x27:=x2.trans (x3.trans (x4.trans (x5.trans (x6.trans x7))));have m1:MapR a7 h.next bO ([]:List (Bs×Value)):=(by rw[ha1];exact MapR.made h bO:MapR a1 h.next bO ([]:List (Bs×Value))).congr (x27.get _ (by omega));have m2:MapR a7 (h.next+1) bO ([]:List (Bs×Value)):=(by rw[ha2,←n1];exact MapR.made a1 bO:MapR a2 (h.next+1) bO ([]:List (Bs×Value))).congr ((x3.trans (x4.trans (x5.trans (x6.trans x7)))).get _ (by omega));have m5:MapR a7 (h.next+4) jQ ([]:List (Int×Value)):=(by rw[ha5,←n4];exact MapR.made a4 jQ:MapR a5 (h.next+4) jQ ([]:List (Int×Value))).congr ((x6.trans x7).get _ (by omega));have m6:MapR a7 (h.next+5) jQ ([]:List (Int×Value)):=(by rw[ha6,←n5];exact MapR.made a5 jQ:MapR a6 (h.next+5) jQ ([]:List (Int×Value))).congr (x7.get _ (by omega));have g3:a7.get (h.next+2)=some (.cells [aP (h.next+1)] (some 0)):=by rw[(x4.trans (x5.trans (x6.trans x7))).get _ (by omega),ha3,H.get_push,kB n2.symm]
 have g4:a7.get (h.next+3)=some (.cells [aP h.next,aB (h.next+2)] (some 0)):=by rw[(x5.trans (x6.trans x7)).get _ (by omega),ha4,H.get_push,kB n3.symm]
 have g7:a7.get (h.next+6)=some (.cells [aB (h.next+3),aP (h.next+4),aP (h.next+5),.int .i64 0] (some 0)):=by rw[ha7,H.get_push,kB n6.symm]
 have lead:∀C,live {} (nmI h.next) C→C=.chk∨C=.mdl∨C=.seats∨C=.keep∨C=.kept∨C=.pubs∨C=.subs:=fun C hl=>by
  cases C with
  |chk|mdl|seats|keep|kept|pubs|subs=>simp
  |seat c=>obtain⟨x,hx⟩:=hl;cases hx
  |lst c=>obtain⟨x,hx⟩:=hl;cases hx
  |row c=>obtain⟨⟨x,hx⟩,_⟩:=hl;cases hx
  |pub o=>obtain⟨x,hx⟩:=hl;cases hx
  |holds o=>obtain⟨x,hx⟩:=hl;cases hx
  |serve o=>obtain⟨x,hx⟩:=hl;cases hx
  |sb o=>obtain⟨x,hx⟩:=hl;cases hx
  |flst o=>obtain⟨x,hx,_⟩:=hl;cases hx
  |frow o=>obtain⟨⟨x,hx,_⟩,_⟩:=hl;cases hx
  |past o=>obtain⟨x,hx⟩:=hl;cases hx
  |still o=>obtain⟨x,hx⟩:=hl;cases hx
  |got o=>obtain⟨x,hx⟩:=hl;cases hx
  |msgs o t=>obtain⟨x,_,hx,_⟩:=hl;cases hx
 refine⟨a4,a5,a6,a7,e14,e5,e6,e7,⟨fun C=>?_,fun C C' hl hl' he=>?_,fun C hl=>?_⟩,x1.trans x27⟩
 ·cases C with
  |chk=>exact g7
  |mdl=>exact g4
  |seats=>exact m1
  |keep=>exact g3
  |kept=>exact m2
  |pubs=>exact m5
  |subs=>exact m6
  |seat c=>intro x hx;cases hx
  |lst c=>intro x hx;cases hx
  |pub o=>intro x hx;cases hx
  |holds o=>intro x hx;cases hx
  |serve o=>intro x hx;cases hx
  |sb o=>intro x hx;cases hx
  |flst o=>intro x hx;cases hx
  |past o=>intro x hx;cases hx
  |still o=>intro x hx;cases hx
  |got o=>intro x hx;cases hx
  |row c=>trivial
  |frow o=>trivial
  |msgs o t=>trivial
 ·rcases lead C hl with rfl|rfl|rfl|rfl|rfl|rfl|rfl<;>rcases lead C' hl' with rfl|rfl|rfl|rfl|rfl|rfl|rfl<;>simp only[nmI]at he
  any_goals rfl
  all_goals omega
 ·rcases lead C hl with rfl|rfl|rfl|rfl|rfl|rfl|rfl<;>simp only[nmI]<;>omega
theorem W6 (hC:aM prog 3 (CI D)){h:H}(hT:HasT T0 h)(hB3:3≤h.next){ls:List NZ}(no:∀z∈ls,NoteOk h z.2.1 z.2.2)(hl:ls.length≤2^30){x:Value}(sx:SliceE 35 h x (ls.map nzC)):
 ∃dm rl,RelOK prog 3 RaZ.isR dm rl∧∃L,dC prog (CI D) RaZ.isR dm rl L 3 6 [x] h (fun v h'=>v=.tuple ⟨[.int .i64 ((Ra.check (aY fil nam tak) {} 0 (ls.map (·.2.2))).1:Int),.bool (Ra.check (aY fil nam tak) {} 0 (ls.map (·.2.2))).2]⟩∧Ext h h'):=by
 obtain⟨h1,h2,h3,h4,e1,e2,e3,e4,r,x4⟩:=aSa k4 h;have ok:=bLk k4 hC (B:=h) (ls:=ls) hT hB3 no hl;have b48:A.zN RaW.Z48L [(0,1,aB (h.next+3)),(1,1,aP (h.next+4)),(2,1,aP (h.next+5))]=some (.agg ⟨[aB (h.next+3),aP (h.next+4),aP (h.next+5),.int .i64 0]⟩):=rfl;have ln:A.zH x=some (.int .i64 (ls.length:Int)):=by have:=sx.len.1;rwa [pA]at this
 refine⟨_,_,ok,ls.length+1,F6W ok _ h ?_⟩;simp only[F6,p6a,bJk,aQz,bGu,RaK.S,e1,e2,e3,b48,e4,ln];refine lp6 k4 hC hl sx (pc:=h.next+6) _ _ (fun h' i hB' hc=>?_) (fun h' hB' hc=>?_) ls.length 0 _ h4 (nmI h.next) 0 (by omega) (Nat.lt_succ_self _) r x4 rfl (by simp only[sAt,List.drop_zero])
 ·rw[hc];exact okU_iff.2 ⟨rfl,hB'⟩
 ·simp only[bJn,ln,RaK.S];rw[hc];exact okU_iff.2 ⟨rfl,hB'⟩
end
end Go.Proofs.YtpanfoafajepcaaGreatDoor.Ra

set_option maxRecDepth 100000
namespace Go.Proofs.YtpanfoafajepcaaGreatDoor.Ra
open Tryz (prog)
open Go Go.AM RaA RaI RaW RaX RaY
open _root_.Ra
def EOk (e:Nat→Value):Prop:=∀k∈[9,10,14,16,17,22,23,27],∃s,e k=str s
def pkC (z:NZ):List Value:=((nzC z).drop 4).take 24
def oR (l:List Bs):List (List Value):=l.map fun s=>[str s]
section
variable {D:CF}{T0:H}{fil nam:Bs→Bool}{tak:Bs→Bs→Bool}(k4:K4 D T0 fil nam tak)
include k4
theorem aSy {h:H}{v:Value}{l:List Bs}(x:SliceE 1 h v (oR l)){i:Nat}{s:Bs}(hs:l[i]?=some s):∃off q,A.zL 1 v (.int .i64 (i:Int))=some (.pointer (some ⟨q,off,none⟩))∧A.load false 1 (.pointer (some ⟨q,off,none⟩)) h=some (str s):=by
 have _:=k4;have hx:(oR l)[i]?=some [str s]:=by rw[oR,kX,hs];rfl
 obtain⟨id,off,cells,own,ei,_,g,_,_,hc⟩:=x.at hx .i64;refine⟨off,id,ei,?_⟩;rw[qK,g];have:=hc 0 (by omega);simpa using this
theorem bLo {l:List Bs}(hl:l.length≤2^40){x4:Value}{h:H}(sx:SliceE 1 h x4 (oR l))(kr:Pk.K1 (Value×H))(kx:Pk.K0 (Value×H)){L:Nat}:
 ∀(d i m:Nat) (left:Nat),i+d=l.length→d<m→left≤10000→aAv (CI D) L kr kx m (.int .i64 (i:Int)) x4 (.int .i64 (left:Int)) h=kr (.bool true) h∨aAv (CI D) L kr kx m (.int .i64 (i:Int)) x4 (.int .i64 (left:Int)) h=kx h:=by
 have ln:A.zH x4=some (.int .i64 (l.length:Int)):=by have:=sx.len.1;rwa [oR,pA]at this
 intro d
 induction d with
 |zero=>
  intro i m left hi hm hle;obtain⟨m,rfl⟩:∃r,m=r+1:=⟨m-1,by omega⟩;have hd:decide ((i:Int)<(l.length:Int))=false:=kD (by omega);right;simp only[aAv,aLw,ln,zZ,hd,RaK.S]
 |succ d ih=>
  intro i m left hi hm hle;obtain⟨m,rfl⟩:∃r,m=r+1:=⟨m-1,by omega⟩;have hd:decide ((i:Int)<(l.length:Int))=true:=kC (by omega);obtain⟨s,hs⟩:∃s,l[i]?=some s:=⟨_,kN (by omega)⟩;obtain⟨off,q,ei,lv⟩:=aSy k4 sx hs;by_cases hg:(left:Int)<(s.length:Int)
  ·left;simp only[aAv,aLw,ln,zZ,hd,RaK.S,ei,lv,qJ,zY,kC hg]
  ·have w1:A.zA prog .sub 3 (.int .i64 (left:Int)) (.int .i64 (s.length:Int))=some (.int .i64 ((left-s.length:Nat):Int)):=by rw[nG,lT (by omega) (by omega)];congr 2;omega
   have w2:A.zA prog .add 3 (.int .i64 (i:Int)) (.int .i64 1)=some (.int .i64 ((i+1:Nat):Int)):=by rw[bG,aS (by omega)]
   simp only[aAv,aLw,ln,zZ,hd,RaK.S,ei,lv,qJ,zY,kD hg,w1,w2];exact ih (i+1) m (left-s.length) (by omega) (by omega) (by omega)
theorem bLp {B:H}{z:NZ}(no:nL B z.2.1 z.2.2)(h100:z.2.2.subs.length≤100){xb:Nat}(kx:Pk.K2 (Value×H)){x3:Value}{L:Nat}:
 ∀(d i m:Nat) (h:H) (l:List Bs) (x4:Value),i+d=z.2.2.subs.length→d<m→Ext B h→B.next≤xb→xb<h.next→h.get xb=some (.cells (pkC z) (some 0))→GrowV 1 h x4 (oR l)→(∀j,sid x4=some j→B.next≤j∧j≠xb)→l.length≤8+i→
  ∃h' x4' l',aFy (CI D) L kx m (.int .i64 (i:Int)) (aB xb) x4 x3 h=kx x4' x3 h'∧Ext B h'∧h.next≤h'.next∧GrowV 1 h' x4' (oR l')∧l'.length≤108:=by
 have k2:=k4.k3.k2;intro d
 induction d with
 |zero=>
  intro i m h l x4 hi hm hB hxB hx gx gv sv hl;obtain⟨m,rfl⟩:∃r,m=r+1:=⟨m-1,by omega⟩;have l22:=ld k2 gx 22 (v:=z.2.1) rfl;have ln:A.zH z.2.1=some (.int .i64 (z.2.2.subs.length:Int)):=by have:=(no.subs.ext hB).len.1;rwa [bM,pA]at this
  have hd:decide ((i:Int)<(z.2.2.subs.length:Int))=false:=kD (by omega);refine⟨h,x4,l,?_,hB,kF _,gv,by omega⟩;simp only[aFy,aOu,RaK.S,Nat.zero_add,l22,ln,zZ,hd]
 |succ d ih=>
  intro i m h l x4 hi hm hB hxB hx gx gv sv hl;obtain⟨m,rfl⟩:∃r,m=r+1:=⟨m-1,by omega⟩;have l22:=ld k2 gx 22 (v:=z.2.1) rfl;have ln:A.zH z.2.1=some (.int .i64 (z.2.2.subs.length:Int)):=by have:=(no.subs.ext hB).len.1;rwa [bM,pA]at this
  have hd:decide ((i:Int)<(z.2.2.subs.length:Int))=true:=kC (by omega);obtain⟨y,hy⟩:∃y,z.2.2.subs[i]?=some y:=⟨_,kN (by omega)⟩;have hyC:(bM z.2.2.subs)[i]?=some [str y.1,.int .u8 (y.2:Int)]:=by rw[bM,kX,hy];rfl
  obtain⟨id,off,cells,own,ei,_,g,_,_,hc⟩:=(no.subs.ext hB).at hyC .i64;have l0:A.load false 1 (.pointer (some ⟨id,off,none⟩)) h=some (str y.1):=by rw[qK,g];have:=hc 0 (by omega);simpa using this
  have hb1:=bY (n:=1) (zs:=RaI.Z9L) (v:=str y.1) (vs:=[str y.1]) h rfl rfl rfl;have so:=gG (h:=h) (n:=1) (vs:=[str y.1]) rfl;obtain⟨h1,hh1⟩:∃h1,h1=h.push (.cells [str y.1] (some 1)):=⟨_,rfl⟩;rw[←hh1]at hb1 so;have x1:Ext h h1:=hh1▸Ext.push h _;have n1:h1.next=h.next+1:=by rw[hh1];rfl
  have gv1:GrowV 1 h1 x4 (oR l):=gv.but (S:=fun _=>False) x1.next fun j hj=>x1.get j (gv.slice.sid_lt j hj);have hls:(oR l).length=l.length:=by simp[oR]
  obtain⟨h2,ea,v2,n2,y2⟩:=dY (bs:=16) gv1 so (by simp) (by omega) (by simp only[List.length_singleton];omega) (by simp only[List.length_singleton];omega);generalize hw:Value.slice (some ⟨h1.next,0,none⟩) ((oR l).length+[[str y.1]].length) (2*((oR l).length+[[str y.1]].length))=w at ea v2;have hsw:sid w=some h1.next:=by rw[←hw];rfl
  have ev:oR l++[[str y.1]]=oR (l++[y.1]):=by simp[oR]
  rw[ev]at v2;have w2:A.zA prog .add 3 (.int .i64 (i:Int)) (.int .i64 1)=some (.int .i64 ((i+1:Nat):Int)):=by rw[bG,aS (by omega)]
  have hBn:=hB.next;have hB2:Ext B h2:=⟨by omega,fun j hj=>by rw[y2.get j (by omega) fun e=>by have:=(sv j e).1;omega,x1.get j (by omega)];exact hB.get j hj⟩;obtain⟨h',x4',l',e,g1,g2,g3,g4⟩:=ih (i+1) m h2 (l++[y.1]) w (by omega) (by omega) hB2 hxB (by omega) (by rw[y2.get xb (by omega) fun e=>(sv xb e).2 rfl,x1.get xb hx];exact gx) v2 (fun j hj=>by rw[hsw]at hj;cases hj;omega) (by simp;omega);refine⟨h',x4',l',?_,g1,by omega,g3,g4⟩;simp only[aFy,aOu,RaK.S,Nat.zero_add,l22,ln,zZ,hd,ei,Nat.add_zero,l0,hb1,ea,w2,e]
theorem T7 {B h:H}{z:NZ}(no:nL B z.2.1 z.2.2)(eo:EOk z.1)(hB:Ext B h):∃b h',CI D 7 [.agg ⟨pkC z⟩] h=some (.bool b,h')∧Ext B h'∧h.next≤h'.next∧(b=false→z.2.2.subs.length≤100):=by
 have k2:=k4.k3.k2;obtain⟨h1,hh1⟩:∃h1,h1=h.push (.cells (pkC z) (some 0)):=⟨_,rfl⟩;have e1:A.box 24 (.agg ⟨pkC z⟩) h=some (aB h.next,h1):=by rw[hh1];rfl
 have x1:Ext h h1:=by rw[hh1];exact Ext.push h _
 have n1:h1.next=h.next+1:=by rw[hh1];rfl
 have g1:h1.get h.next=some (.cells (pkC z) (some 0)):=by rw[hh1,H.get_push,kB rfl]
 have l22:=ld k2 g1 22 (v:=z.2.1) rfl;have hB1:=hB.trans x1;have ln:A.zH z.2.1=some (.int .i64 (z.2.2.subs.length:Int)):=by have:=(no.subs.ext hB).len.1;rwa [bM,pA]at this
 have q:=fun L v' h'=>bOj L (.agg ⟨pkC z⟩) h (r:=(v',h')) (k2.no 7 _ _ (by decide));by_cases h100:(100:Int)<(z.2.2.subs.length:Int)
 ·refine⟨true,h1,q 0 _ _ ?_,hB1,x1.next,fun e=>by cases e⟩;simp only[F7,p7a,aQh,e1,RaK.S,Nat.zero_add,l22,ln,zY,kC h100]
 have d100:=kD h100;obtain⟨s9,h9⟩:=eo 9 (by simp);obtain⟨s10,h10⟩:=eo 10 (by simp);obtain⟨s14,h14⟩:=eo 14 (by simp);obtain⟨s16,h16⟩:=eo 16 (by simp);obtain⟨s17,h17⟩:=eo 17 (by simp);obtain⟨s22,h22⟩:=eo 22 (by simp);obtain⟨s23,h23⟩:=eo 23 (by simp);obtain⟨s27,h27⟩:=eo 27 (by simp);have f5:=ld k2 g1 5 (v:=str s9) (by rw[←h9];rfl);have f6:=ld k2 g1 6 (v:=str s10) (by rw[←h10];rfl);have f10:=ld k2 g1 10 (v:=str s14) (by rw[←h14];rfl);have f12:=ld k2 g1 12 (v:=str s16) (by rw[←h16];rfl);have f13:=ld k2 g1 13 (v:=str s17) (by rw[←h17];rfl);have f18:=ld k2 g1 18 (v:=str s22) (by rw[←h22];rfl);have f19:=ld k2 g1 19 (v:=str s23) (by rw[←h23];rfl);have f23:=ld k2 g1 23 (v:=str s27) (by rw[←h27];rfl);obtain⟨h2,hh2⟩:∃h2,h2=h1.push (.cells [str s9,str s10,str s14,str s16,str s17,str s22,str s23,str s27] (some 1)):=⟨_,rfl⟩;have e2:A.zF 1 8 RaI.Z9L [(0,1,str s9),(1,1,str s10),(2,1,str s14),(3,1,str s16),(4,1,str s17),(5,1,str s22),(6,1,str s23),(7,1,str s27)] h1=some (.slice (some ⟨h1.next,0,none⟩) 8 17,h2):=by rw[hh2];rfl
 have x2:Ext h1 h2:=by rw[hh2];exact Ext.push h1 _
 have n2:h2.next=h1.next+1:=by rw[hh2];rfl
 have gv:GrowV 1 h2 (.slice (some ⟨h1.next,0,none⟩) 8 17) (oR [s9,s10,s14,s16,s17,s22,s23,s27]):=⟨by simp[oR],h1.next,17,rfl,.inr rfl,by omega,by rw[hh2,H.get_push,kB rfl];rfl⟩;have hBn:=hB.next;obtain⟨h3,x4,l',e3,hB3,n3,gv3,l108⟩:=bLp k4 no (by omega) (xb:=h.next) (fun x4 x3 h=>aGm (CI D) 109 h x3 x4 (fun x2 h=>some (x2,h)) fun h=>aGl h fun x2 h=>some (x2,h)) (x3:=.int .i64 10000) (L:=109) z.2.2.subs.length 0 109 h2 _ _ (by omega) (by omega) (hB1.trans x2) hBn (by omega) (by rw[x2.get _ (by omega)];exact g1) gv (fun j hj=>by simp[sid]at hj;omega) (by simp);have e3:aFy (CI D) 109 (fun x4 x3 h=>aGm (CI D) 109 h x3 x4 (fun x2 h=>some (x2,h)) fun h=>aGl h fun x2 h=>some (x2,h)) 109 (.int .i64 0) (aB h.next) (.slice (some ⟨h1.next,0,none⟩) 8 17) (.int .i64 10000) h2=_:=e3;rcases bLo k4 (l:=l') (by omega) gv3.slice (fun x2 h=>some (x2,h)) (fun h=>aGl h fun x2 h=>some (x2,h)) (L:=109) l'.length 0 109 10000 (by omega) (by omega) (kF _)with e4|e4
 ·have e4:aAv (CI D) 109 (fun x2 h=>some (x2,h)) (fun h=>aGl h fun x2 h=>some (x2,h)) 109 (.int .i64 0) x4 (.int .i64 10000) h3=_:=e4;refine⟨true,h3,q 109 _ _ ?_,hB3,by omega,fun e=>by cases e⟩;simp only[F7,p7a,aQh,aNd,aTu,e1,RaK.S,Nat.zero_add,Nat.add_zero,l22,ln,zY,d100,f5,f6,f10,f12,f13,f18,f19,f23,e2,e3];simp only[aGm,aTt,e4]
 ·have e4:aAv (CI D) 109 (fun x2 h=>some (x2,h)) (fun h=>aGl h fun x2 h=>some (x2,h)) 109 (.int .i64 0) x4 (.int .i64 10000) h3=_:=e4;refine⟨false,h3,q 109 _ _ ?_,hB3,by omega,fun _=>by omega⟩;simp only[F7,p7a,aQh,aNd,aTu,e1,RaK.S,Nat.zero_add,Nat.add_zero,l22,ln,zY,d100,f5,f6,f10,f12,f13,f18,f19,f23,e2,e3];simp only[aGm,aTt,e4];simp only[aGl]
theorem aAq {h:H}{v:Value}{ls:List NZ}(x:SliceE 35 h v (ls.map nzC)){i:Nat}{z:NZ}(hz:ls[i]?=some z):∃off q,A.zL 35 v (.int .i64 (i:Int))=some (.pointer (some ⟨q,off,none⟩))∧A.load true 24 (.pointer (some ⟨q,off+4,none⟩)) h=some (.agg ⟨pkC z⟩)∧
 A.load false 1 (.pointer (some ⟨q,off+3,none⟩)) h=some (str z.2.2.client)∧A.load false 1 (.pointer (some ⟨q,off+28,none⟩)) h=some (str z.2.2.msg.topic)∧A.load false 1 (.pointer (some ⟨q,off+28+1,none⟩)) h=some (str z.2.2.msg.payload):=by
 have _:=k4;have hx:(ls.map nzC)[i]?=some (nzC z):=by rw[kX,hz];rfl
 obtain⟨id,off,cells,own,ei,_,g,h1,h2,hc⟩:=x.at hx .i64;refine⟨off,id,ei,?_,?_,?_,?_⟩
 ·rw[aV,g];have hl:Nat.ble (off+4+24) cells.length=true:=ble_iff.2 (by omega);simp only[hl,cond_true];congr 3;unfold pkC;rw[←h2,List.drop_take,List.take_take,pT];rfl
 ·rw[qK,g];exact hc 3 (by omega)
 ·rw[qK,g];exact hc 28 (by omega)
 ·rw[qK,g];exact hc 29 (by omega)
theorem lp4 {B:H}{ls:List NZ}(hl:ls.length≤200){x0:Value}(sx:SliceE 35 B x0 (ls.map nzC))(no:∀z∈ls,nL B z.2.1 z.2.2)(eo:∀z∈ls,EOk z.1)(kr:Pk.K1 (Value×H))(kx:Pk.K0 (Value×H)){L:Nat}:
 ∀(d i m:Nat) (h:H),i+d=ls.length→d<m→Ext B h→∃h',Ext B h'∧h.next≤h'.next∧(sO (CI D) L kr kx m (.int .i64 (i:Int)) x0 h=kr (.bool true) h'∨sO (CI D) L kr kx m (.int .i64 (i:Int)) x0 h=kx h'∧∀j z,i≤j→ls[j]?=some z→z.2.2.subs.length≤100):=by
 have ln:A.zH x0=some (.int .i64 (ls.length:Int)):=by have:=sx.len.1;rwa [pA]at this
 intro d
 induction d with
 |zero=>
  intro i m h hi hm hB;obtain⟨m,rfl⟩:∃r,m=r+1:=⟨m-1,by omega⟩;have hd:decide ((i:Int)<(ls.length:Int))=false:=kD (by omega);refine⟨h,hB,kF _,.inr ⟨?_,fun j z hj hz=>by have:=(List.getElem?_eq_some_iff.1 hz).1;omega⟩⟩;simp only[sO,aFm,ln,zZ,hd,RaK.S]
 |succ d ih=>
  intro i m h hi hm hB;obtain⟨m,rfl⟩:∃r,m=r+1:=⟨m-1,by omega⟩;have hd:decide ((i:Int)<(ls.length:Int))=true:=kC (by omega);obtain⟨z,hz⟩:∃z,ls[i]?=some z:=⟨_,kN (by omega)⟩;have hzm:=List.mem_of_getElem? hz;obtain⟨off,q,ei,l24,_,_,_⟩:=aAq k4 (sx.ext hB) hz;obtain⟨b,h1,e7,hB1,n1,c7⟩:=T7 k4 (no z hzm) (eo z hzm) hB;have w2:A.zA prog .add 3 (.int .i64 (i:Int)) (.int .i64 1)=some (.int .i64 ((i+1:Nat):Int)):=by rw[bG,aS (by omega)]
  cases b with
  |true=>
   refine⟨h1,hB1,n1,.inl ?_⟩;simp only[sO,aFm,aEy,aMe,aMd,ln,zZ,hd,RaK.S,ei,l24,e7]
  |false=>
   obtain⟨off',q',ei',_,l3,l28,l29⟩:=aAq k4 (sx.ext hB1) hz;rw[ei]at ei';simp only[kE,Value.pointer.injEq,Addr.mk.injEq,and_true]at ei';obtain⟨rfl,rfl⟩:=ei';by_cases h300:(300:Int)<(z.2.2.client.length:Int)
   ·refine⟨h1,hB1,n1,.inl ?_⟩;simp only[sO,aFm,aEy,aMe,aMd,ln,zZ,hd,RaK.S,ei,l24,e7,l3,qJ,zY,kC h300]
   ·have d300:=kD h300;obtain⟨r,hr⟩:∃r,r=decide ((300:Int)<IntKind.i64.wrap ((z.2.2.msg.topic.length:Int)+(z.2.2.msg.payload.length:Int))):=⟨_,rfl⟩
    cases r with
    |true=>
     refine⟨h1,hB1,n1,.inl ?_⟩;simp only[sO,aFm,aEy,aMe,aMd,ln,zZ,hd,RaK.S,ei,l24,e7,l3,qJ,zY,d300,Nat.add_zero,l28,l29,bG,←hr]
    |false=>
     obtain⟨h',hB',n',e⟩:=ih (i+1) m h1 (by omega) (by omega) hB1;refine⟨h',hB',by omega,?_⟩;have st:sO (CI D) L kr kx (m+1) (.int .i64 (i:Int)) x0 h=sO (CI D) L kr kx m (.int .i64 ((i+1:Nat):Int)) x0 h1:=by
      simp only[sO,aFm,aEy,aMe,aMd,aTx,ln,zZ,hd,RaK.S,ei,l24,e7,l3,qJ,zY,d300,Nat.add_zero,l28,l29,w2];simp only[bG,RaK.S,←hr,zY]
     rw[st];rcases e with e|⟨e,e2⟩
     ·exact .inl e
     ·refine .inr ⟨e,fun j y hj hy=>?_⟩;rcases Nat.lt_or_ge i j with hlt|hge
      ·exact e2 j y hlt hy
      ·obtain rfl:j=i:=by omega
       rw[hz]at hy;obtain rfl:=kP hy;exact c7 rfl
theorem T4 {B h:H}{ls:List NZ}{x0:Value}(sx:SliceE 35 B x0 (ls.map nzC))(no:∀z∈ls,nL B z.2.1 z.2.2)(eo:∀z∈ls,EOk z.1)(hB:Ext B h):∃b h',CI D 4 [x0] h=some (.bool b,h')∧Ext B h'∧h.next≤h'.next∧(b=false→ls.length≤200∧∀z∈ls,z.2.2.subs.length≤100):=by
 have k2:=k4.k3.k2;have ln:A.zH x0=some (.int .i64 (ls.length:Int)):=by have:=sx.len.1;rwa [pA]at this
 have q:=fun L v' h'=>bOk L x0 h (r:=(v',h')) (k2.no 4 _ _ (by decide));by_cases h200:(200:Int)<(ls.length:Int)
 ·refine⟨true,h,q 0 _ _ ?_,hB,kF _,fun e=>by cases e⟩;simp only[F4,p4a,aQf,ln,RaK.S,zY,kC h200]
 have d200:=kD h200;obtain⟨h',hB',n',e⟩:=lp4 k4 (by omega) sx no eo (fun x2 h=>some (x2,h)) (fun h=>aNf h fun x2 h=>some (x2,h)) (L:=ls.length+1) ls.length 0 (ls.length+1) h (by omega) (by omega) hB;rcases e with e|⟨e,e2⟩
 ·have e:sO (CI D) _ (fun x2 h=>some (x2,h)) (fun h=>aNf h fun x2 h=>some (x2,h)) _ (.int .i64 0) x0 h=_:=e;refine⟨true,h',q (ls.length+1) _ _ ?_,hB',n',fun e=>by cases e⟩;simp only[F4,p4a,aQf,aNj,aTy,ln,RaK.S,zY,d200,e]
 ·have e:sO (CI D) _ (fun x2 h=>some (x2,h)) (fun h=>aNf h fun x2 h=>some (x2,h)) _ (.int .i64 0) x0 h=_:=e;refine⟨false,h',q (ls.length+1) _ _ ?_,hB',n',fun _=>⟨by omega,fun z hz=>by
   obtain⟨j,hj⟩:=List.mem_iff_getElem?.1 hz;exact e2 j z (pR _) hj⟩⟩
  simp only[F4,p4a,aQf,aNj,aTy,ln,RaK.S,zY,d200,e];simp only[aNf]
end
end Go.Proofs.YtpanfoafajepcaaGreatDoor.Ra

set_option maxRecDepth 100000
namespace Go.Proofs.YtpanfoafajepcaaGreatDoor.Ra
open Tryz (prog)
open Go Go.AM RaA RaI RaW RaX RaY
open _root_.Ra
theorem rB {h:H}{v:Value}{els:List (List Value)}(x:SliceE 35 h v els){a:Nat}(ha:a≤els.length):∃w,A.zM 35 v none (some (.int .i64 (a:Int))) none h=some w∧SliceE 35 h w (els.take a)∧sid w=sid v∧A.zD w=a:=by
 obtain⟨h1,⟨rfl,rfl⟩|⟨id,off,c,rfl,h2,h3,h4⟩⟩:=x
 ·simp at ha;subst ha;exact⟨gF,rfl,⟨by simp,.inl ⟨rfl,rfl⟩⟩,rfl,rfl⟩
 ·refine⟨.slice (some ⟨id,off,none⟩) a c,?_,⟨fun e he=>h1 e (List.mem_of_mem_take he),.inr ⟨id,off,c,by rw[kT,Nat.min_eq_left ha],by rw[kT];omega,h3,fun hne=>?_⟩⟩,rfl,rfl⟩
  ·have b1:=iO (kG ha h2);simp only[A.zM,Option.isSome_none,Bool.false_and,cond_false,b1,mI,Option.getD_none,pC];rw[show Nat.beq 0 0=true from rfl];simp only[Bool.or_true,Bool.true_or,cond_true,Nat.zero_mul,Nat.add_zero,Nat.sub_zero,Nat.mul_zero]
  ·obtain⟨cells,own,g,l1,l2⟩:=h4 fun e=>by rw[e]at hne;simp at hne
   refine⟨cells,own,g,by rw[kT];omega,?_⟩;have hm:(els.take a).length=a:=by rw[kT,Nat.min_eq_left ha]
   have hf:els.flatten=(els.take a).flatten++(els.drop a).flatten:=by rw[←List.flatten_append,pZ]
   have hfl:(els.take a).flatten.length=a*35:=by rw[bW fun e he=>h1 e (List.mem_of_mem_take he),hm]
   rw[hm];have:(cells.drop off).take (a*35)=((cells.drop off).take (els.length*35)).take (a*35):=by
    rw[List.take_take,Nat.min_eq_left (Nat.mul_le_mul_right 35 ha)]
   rw[this,l2,hf,List.take_append_of_le_length (by omega),pN (by omega)]
theorem NoteOk.ext {B h:H}{v:Value}{n:cU}(x:NoteOk B v n)(e:Ext B h):NoteOk h v n:=⟨⟨x.subs.ext e,x.small,x.top⟩,x.len⟩
section
variable (fil nam:Bs→Bool)(tak:Bs→Bs→Bool)(G:Value→List NZ)
abbrev xU (ls:List NZ):Nat×Bool:=Ra.check (aY fil nam tak) {} 0 (ls.map (·.2.2))
def dm6 (T0:H):Pw.Dm:=fun f args h=>f=6∧∃x,args=[x]∧HasT T0 h∧3≤h.next∧SliceE 35 h x ((G x).map nzC)∧(∀z∈G x,NoteOk h z.2.1 z.2.2)∧(G x).length≤2^30
def rl6:Pw.Rl:=fun _ args h v h'=>v=.tuple ⟨[.int .i64 ((xU fil nam tak (G (args.headD gF))).1:Int),.bool (xU fil nam tak (G (args.headD gF))).2]⟩∧Ext h h'
end
section
variable {D:CF}{T0:H}{fil nam:Bs→Bool}{tak:Bs→Bs→Bool}(k4:K4 D T0 fil nam tak)(hC:aM prog 3 (CI D))
include k4 hC
theorem ok6 (G:Value→List NZ):RelOK prog 3 RaZ.isR (dm6 G T0) (rl6 fil nam tak G):=by
 refine RelOK.layers (by kernel_rfl) (by kernel_rfl) hC vW (fun f args h _ hd=>?_) fun f args h v h' _ hr=>hr.2.next;obtain⟨rfl,x,rfl,hT,hB3,sx,no,hl⟩:=hd;exact W6 k4 hC hT hB3 no hl sx
theorem W3 (k5:∀h,D 5 [] h=some (.bool true,h)){B:H}(hT:HasT T0 B)(hB3:3≤B.next){ls0 ls1:List NZ}{x0 x1:Value}(s0:SliceE 35 B x0 (ls0.map nzC))(s1:SliceE 35 B x1 (ls1.map nzC))(no0:∀z∈ls0,nL B z.2.1 z.2.2)(no1:∀z∈ls1,nL B z.2.1 z.2.2)(eo0:∀z∈ls0,EOk z.1)(eo1:∀z∈ls1,EOk z.1)(k:Nat)(hk:k<256):
 ∃dm rl,RelOK prog 3 RaZ.isR dm rl∧∃L,dC prog (CI D) RaZ.isR dm rl L 3 3 [x0,x1,.int .u8 (k:Int)] B (fun v h'=>v=.bool true):=by
 obtain⟨c0,hc0⟩:∃c0,c0=xU fil nam tak ls0:=⟨_,rfl⟩;obtain⟨G,hG⟩:∃G:Value→List NZ,G=fun x=>if sid x=sid x0 then ls0.take (A.zD x)else ls0.take (c0.1+1)++ls1:=⟨_,rfl⟩
 have ok:=ok6 k4 hC (fil:=fil) (nam:=nam) (tak:=tak) G;have e5:∀h,CI D 5 [] h=some (.bool true,h):=fun h=>eK (k5 h);have ln0:A.zH x0=some (.int .i64 (ls0.length:Int)):=by have:=s0.len.1;rwa [pA]at this
 have ln1:A.zH x1=some (.int .i64 (ls1.length:Int)):=by have:=s1.len.1;rwa [pA]at this
 have lo0:A.zD x0=ls0.length:=by have:=s0.len.2;rwa [pA]at this
 obtain⟨b1,h1,g1,hB1,n1,c1⟩:=T4 k4 s0 no0 eo0 (Ext.refl B);have g1:CI D 4 [x0] B=some (.bool b1,h1):=g1;refine⟨_,_,ok,0,F3W ok _ _ _ B ?_⟩;have tr:∀_:H,okU True=some ():=fun _=>okU_iff.2 trivial
 cases b1 with
 |true=>
  simp only[F3,p3a,aNa,aGn,aMz,aNi,RaK.S,g1,e5];exact tr h1
 |false=>
 have l0:=(c1 rfl).1;have no0:∀z∈ls0,NoteOk B z.2.1 z.2.2:=fun z hz=>⟨no0 z hz,by have:=(c1 rfl).2 z hz;omega⟩;obtain⟨b2,h2,g2,hB2,n2,c2⟩:=T4 k4 s1 no1 eo1 hB1
 cases b2 with
 |true=>
  simp only[F3,p3a,aNa,aGn,aMz,aNi,RaK.S,g1,g2,e5];exact tr h2
 |false=>
 have l1:=(c2 rfl).1;have no1:∀z∈ls1,NoteOk B z.2.1 z.2.2:=fun z hz=>⟨no1 z hz,by have:=(c2 rfl).2 z hz;omega⟩;by_cases h50:(50:Int)<(ls1.length:Int)
 ·simp only[F3,p3a,aNa,aGn,aMz,aNi,RaK.S,g1,g2,ln1,zY,kC h50,e5];exact tr h2
 have d50:=kD h50;obtain⟨bn1,bn2,bn3⟩:=Ra.check_bounds (right:=aY fil nam tak) (ls0.map (·.2.2)) {} 0;rw[pA]at bn2 bn3;have bc:Ra.check (aY fil nam tak) {} 0 (ls0.map (·.2.2))=c0:=hc0.symm;rw[bc]at bn1 bn2 bn3;have gx0:G x0=ls0:=by rw[hG];simp only[if_true,lo0,List.take_length]
 simp only[F3,p3a,aNa,aGn,aMz,aNi,bJg,RaK.S,g1,g2,ln1,zY,d50,mJ];refine okU_iff.2 fun φ hφ=>?_;refine gC hφ rfl ⟨rfl,x0,rfl,hT.ext k4.k3.k2.tab hB3 hB2,kG hB3 hB2.next,by rw[gx0];exact s0.ext hB2,by rw[gx0];exact fun z hz=>(no0 z hz).ext hB2,by rw[gx0];omega⟩ fun v h3 hR=>?_;obtain⟨hv,x3⟩:=hR;have hv:v=.tuple ⟨[.int .i64 ((xU fil nam tak (G x0)).1:Int),.bool (xU fil nam tak (G x0)).2]⟩:=hv;rw[gx0,←hc0]at hv;subst hv;have hB3':=hB2.trans x3;have ex0:∀(x y:Value),A.zB 0 (.tuple ⟨[x,y]⟩)=some x:=fun _ _=>rfl;have ex1:∀(x y:Value),A.zB 1 (.tuple ⟨[x,y]⟩)=some y:=fun _ _=>rfl;have z1:decide ((c0.1:Int)<0)=false:=kD (by omega);have z2:decide ((ls0.length:Int)<(c0.1:Int))=false:=kD (by omega);have z3:c0.2=decide ((c0.1:Int)=(ls0.length:Int)):=by
  cases hb:c0.2 with
  |true=>rw[kC];have:=bn3.1 hb;omega
  |false=>rw[kD];intro e;have:=bn3.2 (by omega);rw[hb]at this;cases this
 have z4:A.zA prog .neq 4 (.bool c0.2) (.bool (decide ((c0.1:Int)=(ls0.length:Int))))=some (.bool false):=by
  rw[vA (by kernel_rfl),←z3];simp
 have w1:A.zA prog .add 3 (.int .i64 (c0.1:Int)) (.int .i64 1)=some (.int .i64 ((c0.1+1:Nat):Int)):=by rw[bG,aS (by omega)]
 obtain⟨e,he⟩:∃e,e=k%(c0.1+1):=⟨_,rfl⟩;have hle:e<c0.1+1:=by rw[he];exact Nat.mod_lt _ (by omega)
 have w2:A.zA prog .rem 3 (.int .i64 (k:Int)) (.int .i64 ((c0.1+1:Nat):Int))=some (.int .i64 (e:Int)):=by
  rw[aLk prog 3 .i64 _ _ (by omega),he];rfl
 obtain⟨w,ew,sw,iw,lw⟩:=rB (s0.ext hB3') (a:=e) (by simp;omega);have gw:G w=ls0.take e:=by rw[hG];simp only[iw,if_true,lw]
 have sw:SliceE 35 h3 w ((G w).map nzC):=by rw[gw,List.map_take];exact sw
 have cw:xU fil nam tak (G w)=(e,true):=by
  rw[gw];have:=Ra.check_take (right:=aY fil nam tak) (ls0.map (·.2.2)) {} 0 e (by rw[bc];omega);show Ra.check _ _ _ ((ls0.take e).map (·.2.2))=_;rw[List.map_take,this,Nat.zero_add]
 simp only[RaK.S,ex0,ex1,aQr,bJf,bJj,zZ,z1,ln0,zY,z2,zQ,z4,bGz,aIf k hk,w1,w2,mJ];refine okU_iff.2 fun φ hφ=>?_;simp only[ew,RaK.S];refine gC hφ rfl ⟨rfl,w,rfl,hT.ext k4.k3.k2.tab hB3 hB3',kG hB3 hB3'.next,sw,by rw[gw];exact fun z hz=>(no0 z (List.mem_of_mem_take hz)).ext hB3',by rw[gw,kT];omega⟩ fun v h4 hR=>?_;obtain⟨hv,x4⟩:=hR;have hv:v=.tuple ⟨[.int .i64 ((xU fil nam tak (G w)).1:Int),.bool (xU fil nam tak (G w)).2]⟩:=hv;rw[cw]at hv;subst hv;have hB4:=hB3'.trans x4;have z5:decide ((e:Int)=(e:Int))=true:=kC rfl;simp only[RaK.S,ex0,ex1,bP,z5,bGy]
 cases hc:c0.2 with
 |true=>
  simp only[RaK.S,e5];exact tr h4
 |false=>
  have hlt:c0.1<ls0.length:=by
   rcases Nat.lt_or_ge c0.1 ls0.length with h|h
   ·exact h
   ·have:=bn3.2 (by omega);rw[hc]at this;cases this
  obtain⟨m,hm⟩:∃m,m=c0.1+1:=⟨_,rfl⟩;rw[←hm]at w1;obtain⟨u,eu,su,_,_⟩:=rB (s0.ext hB4) (a:=m) (by simp;omega);rw[←List.map_take]at su;have hmn:((ls0.take m).map nzC)≠[]:=fun e=>by have:=congrArg List.length e;simp only[pA,kT,sA]at this;omega
  have hml:((ls0.take m).map nzC).length=m:=by simp;omega
  obtain⟨h5,ea,v5,n5,y5⟩:=dT (bs:=304) (Vec.nil 35 h4) su hmn (by omega) (by rw[hml];simp;omega) (by rw[hml];simp;omega);generalize ho:Value.slice (some ⟨h4.next,0,none⟩) (([]:List (List Value)).length+((ls0.take m).map nzC).length) (2*(([]:List (List Value)).length+((ls0.take m).map nzC).length))=o at ea v5;have so:sid o=some h4.next:=by rw[←ho];rfl
  rw[List.nil_append]at v5;have hBn:=hB4.next;have hB5:Ext B h5:=⟨by omega,fun j hj=>by rw[y5.get j (by omega) (fun e=>by simp[sid]at e)];exact hB4.get j hj⟩;obtain⟨t,h6,et,st,sidt,hB6⟩:∃t h6,A.zI 35 304 o x1 h5=some (t,h6)∧SliceE 35 h6 t ((ls0.take m++ls1).map nzC)∧(∃q,sid t=some q∧h4.next≤q)∧Ext B h6:=by
   by_cases h1:ls1=[]
   ·subst h1;refine⟨o,h5,jP (.inr ⟨_,_,_,_,ho.symm⟩) (s1.ext hB5),by rw[List.append_nil];exact v5.slice,⟨_,so,kF _⟩,hB5⟩
   ·have hl1:(ls1.map nzC).length=ls1.length:=by simp
    obtain⟨h6,e6,v6,n6,y6⟩:=dT (bs:=304) v5 (s1.ext hB5) (fun e=>h1 (List.map_eq_nil_iff.1 e)) (by omega) (by rw[hml,hl1];omega) (by rw[hml,hl1];omega);refine⟨_,h6,e6,by rw[List.map_append];exact v6.slice,⟨h5.next,rfl,by omega⟩,⟨by omega,fun j hj=>?_⟩⟩;rw[y6.get j (by omega) fun e=>by rw[so]at e;have:=kP e;omega];exact hB5.get j hj
  have gt:G t=ls0.take m++ls1:=by
   rw[hG];obtain⟨q,hq,hqn⟩:=sidt;have:¬sid t=sid x0:=fun e=>by
    rw[hq]at e;have:=s0.sid_lt q e.symm;omega
   simp only[kA this,hm]
  have ct:xU fil nam tak (G t)=(c0.1,false):=by
   rw[gt];have:=Ra.check_more (right:=aY fil nam tak) (ls0.map (·.2.2)) {} 0 (ls1.map (·.2.2)) (by rw[bc];exact hc);rw[bc,Nat.sub_zero]at this;show Ra.check _ _ _ ((ls0.take m++ls1).map (·.2.2))=_;rw[List.map_append,List.map_take,hm];exact this
  simp only[RaK.S,w1,eu,ea,et,mJ];refine okU_iff.2 fun φ hφ=>?_;refine gC hφ rfl ⟨rfl,t,rfl,hT.ext k4.k3.k2.tab hB3 hB6,kG hB3 hB6.next,by rw[gt];exact st,by
   rw[gt];intro z hz;rcases List.mem_append.1 hz with hz|hz
   ·exact(no0 z (List.mem_of_mem_take hz)).ext hB6
   ·exact(no1 z hz).ext hB6,by rw[gt];simp;omega⟩ fun v h7 hR=>?_
  obtain⟨hv,x7⟩:=hR;have hv:v=.tuple ⟨[.int .i64 ((xU fil nam tak (G t)).1:Int),.bool (xU fil nam tak (G t)).2]⟩:=hv;rw[ct]at hv;subst hv;have z6:decide ((c0.1:Int)=(c0.1:Int))=true:=kC rfl;have c5:∀h,gY (CI D) RaZ.isR φ 5 [] h=some (.bool true,h):=fun h=>e5 h;simp only[RaK.S,ex0,ex1,zQ,z6,c5]
  first|exact tr h7|(simp;exact tr h7)
end
end Go.Proofs.YtpanfoafajepcaaGreatDoor.Ra

set_option maxRecDepth 100000
namespace Go.Proofs.YtpanfoafajepcaaGreatDoor.Ra
open Tryz (prog)
open Go Go.AM
open _root_.Ra
theorem wB {h:H}{x:List Value}(ty:Ty prog h 5 x):∃n:Nat,x=[.int .u8 (n:Int)]∧n<256:=by
 obtain⟨n,h3,h4⟩:=ty.int_inv Tryz.underlying5;have hq:IntKind.u8.min≤n∧n≤IntKind.u8.max:=by simpa[Lit.wf]using h4
 have e1:IntKind.u8.min=0:=rfl;have e2:IntKind.u8.max=255:=rfl;exact⟨n.toNat,by rw[h3,Int.toNat_of_nonneg (by omega)],by omega⟩
theorem pO {h:H}{t:TypeId}{k:IntKind}{x:List Value}(hu:prog.underlying t=some (.int k))(ty:Ty prog h t x):∃v:Value,x=[v]:=by
 obtain⟨n,h3,_⟩:=ty.int_inv hu;exact⟨_,h3⟩
theorem i64_in {h:H}{x:List Value}(ty:Ty prog h 3 x):∃n:Int,x=[.int .i64 n]:=by
 obtain⟨n,h3,_⟩:=ty.int_inv Tryz.underlying3;exact⟨n,h3⟩
theorem fB {h:H}{x:List Value}(ty:Ty prog h 9 x):∃s:Bs,x=[str s]∧s.length≤maxLen:=by
 obtain⟨s,h1,h2⟩:=ty.str_inv Tryz.underlying9;exact⟨s.data.toList,h1,by simpa using h2⟩
theorem aDb {h:H}:∀els:List (List Value),(∀x∈els,Ty prog h 52 x)→∃l:Row,els=bM l∧∀y∈l,y.2<256
 |[],_=>⟨[],rfl,fun s hs=>by cases hs⟩
 |x::els,hx=>by
  obtain⟨l,h1,h2⟩:=aDb els fun y hy=>hx y (by simp[hy]);have xl:=(hx x (by simp)).fields Tryz.underlying52;simp only[aFe]at xl;obtain⟨_,_,rfl,x0,⟨_,_,rfl,x1,rfl⟩⟩:=xl;obtain⟨b0,rfl,_⟩:=fB x0;obtain⟨b1,rfl,hb⟩:=wB x1;refine⟨(b0,b1)::l,by rw[h1];rfl,fun s hs=>?_⟩;rcases List.mem_cons.1 hs with rfl|hs
  ·exact hb
  ·exact h2 s hs
theorem aKs {h:H}{cs:List Value}(ty:Ty prog h 36 cs):∃z:NZ,cs=nzC z∧nL h z.2.1 z.2.2∧EOk z.1:=by
 have pl:=ty.fields Tryz.underlying36;simp only[aFe]at pl;obtain⟨_,_,rfl,p0,⟨_,_,rfl,p1,⟨_,_,rfl,p2,⟨_,_,rfl,p3,⟨_,_,rfl,p4,⟨_,_,rfl,p5,⟨_,_,rfl,p6,⟨_,_,rfl,p7,⟨_,_,rfl,p8,rfl⟩⟩⟩⟩⟩⟩⟩⟩⟩:=pl;obtain⟨kind,rfl,k0⟩:=wB p0;obtain⟨op,rfl⟩:=i64_in p1;obtain⟨conn,rfl⟩:=i64_in p2;obtain⟨client,rfl,_⟩:=fB p3;have pk:=p4.fields Tryz.underlying34;simp only[aFe]at pk;obtain⟨_,_,rfl,q0,⟨_,_,rfl,q1,⟨_,_,rfl,q2,⟨_,_,rfl,q3,⟨_,_,rfl,q4,⟨_,_,rfl,q5,⟨_,_,rfl,q6,⟨_,_,rfl,q7,⟨_,_,rfl,q8,⟨_,_,rfl,q9,⟨_,_,rfl,q10,⟨_,_,rfl,q11,⟨_,_,rfl,q12,⟨_,_,rfl,q13,⟨_,_,rfl,q14,⟨_,_,rfl,q15,⟨_,_,rfl,q16,⟨_,_,rfl,q17,⟨_,_,rfl,q18,⟨_,_,rfl,q19,⟨_,_,rfl,q20,rfl⟩⟩⟩⟩⟩⟩⟩⟩⟩⟩⟩⟩⟩⟩⟩⟩⟩⟩⟩⟩⟩:=pk;obtain⟨ptype,rfl,_⟩:=wB q0;obtain⟨a1,rfl⟩:=q1.bool_inv Tryz.underlying4;obtain⟨a2,rfl⟩:=pO Tryz.underlying5 q2;obtain⟨a3,rfl⟩:=q3.bool_inv Tryz.underlying4;obtain⟨a4,rfl⟩:=pO Tryz.underlying29 q4;obtain⟨a5,rfl,_⟩:=fB q5;obtain⟨a6,rfl,_⟩:=fB q6;obtain⟨a7,rfl⟩:=pO Tryz.underlying5 q7;obtain⟨clean,rfl⟩:=q8.bool_inv Tryz.underlying4;obtain⟨a9,rfl⟩:=pO Tryz.underlying29 q9;obtain⟨a10,rfl,_⟩:=fB q10;obtain⟨a11,rfl⟩:=q11.bool_inv Tryz.underlying4;obtain⟨a13,rfl⟩:=q13.bool_inv Tryz.underlying4;obtain⟨a14,rfl⟩:=q14.bool_inv Tryz.underlying4;obtain⟨a15,rfl,_⟩:=fB q15;obtain⟨a16,rfl,_⟩:=fB q16;obtain⟨a17,rfl⟩:=q17.bool_inv Tryz.underlying4;obtain⟨a18,rfl⟩:=pO Tryz.underlying5 q18;obtain⟨a20,rfl,_⟩:=fB q20;obtain⟨w,els,rfl,hs,hm,he⟩:=q19.slice_inv Tryz.underlying32
 have c2:prog.cellsOf 52=2:=by kernel_rfl
 rw[c2]at hs;obtain⟨l,rfl,hl⟩:=aDb els he;have wl:=q12.fields Tryz.underlying31;simp only[aFe]at wl;obtain⟨_,_,rfl,w0,⟨_,_,rfl,w1,⟨_,_,rfl,w2,⟨_,_,rfl,w3,rfl⟩⟩⟩⟩:=wl;obtain⟨b0,rfl,_⟩:=fB w0;obtain⟨b1,rfl,_⟩:=fB w1;obtain⟨b2,rfl⟩:=pO Tryz.underlying5 w2;obtain⟨b3,rfl⟩:=w3.bool_inv Tryz.underlying4;have ml:=p5.fields Tryz.underlying31;simp only[aFe]at ml;obtain⟨_,_,rfl,m0,⟨_,_,rfl,m1,⟨_,_,rfl,m2,⟨_,_,rfl,m3,rfl⟩⟩⟩⟩:=ml;obtain⟨c0,rfl,t0⟩:=fB m0;obtain⟨c1,rfl,_⟩:=fB m1;obtain⟨c2,rfl,_⟩:=wB m2;obtain⟨c3,rfl⟩:=m3.bool_inv Tryz.underlying4;obtain⟨d6,rfl,_⟩:=fB p6;obtain⟨d7,rfl⟩:=p7.bool_inv Tryz.underlying4;obtain⟨qos,rfl,_⟩:=wB p8;refine⟨(fun k=>([.nilFunc,.nilFunc,.nilFunc,.nilFunc,.nilFunc,.bool a1,a2,.bool a3,a4,str a5,str a6,a7,.nilFunc,a9,str a10,.bool a11,str b0,str b1,b2,.bool b3,.bool a13,.bool a14,str a15,str a16,.bool a17,a18,.nilFunc,str a20,.nilFunc,.nilFunc,.nilFunc,.nilFunc,str d6,.bool d7]:List Value).getD k .nilFunc,w,⟨kind,op,conn,client,ptype,clean,l,⟨c0,c1,c2,c3⟩,qos⟩),rfl,⟨hs,hl,t0⟩,fun k hk=>?_⟩;simp only[pV,List.mem_nil_iff,or_false]at hk;rcases hk with rfl|rfl|rfl|rfl|rfl|rfl|rfl|rfl<;>exact⟨_,rfl⟩
theorem yY {h:H}:∀els:List (List Value),(∀x∈els,Ty prog h 36 x)→∃l:List NZ,els=l.map nzC∧(∀z∈l,nL h z.2.1 z.2.2)∧∀z∈l,EOk z.1
 |[],_=>⟨[],rfl,fun r hr=>by(cases hr),fun r hr=>by(cases hr)⟩
 |x::els,hx=>by
  obtain⟨ps,h1,h2,h3⟩:=yY els fun y hy=>hx y (by simp[hy]);obtain⟨r,rfl,nb,eo⟩:=aKs (hx x (by simp));refine⟨r::ps,by rw[h1];rfl,fun s hs=>?_,fun s hs=>?_⟩
  ·rcases List.mem_cons.1 hs with rfl|hs
   ·exact nb
   ·exact h2 s hs
  ·rcases List.mem_cons.1 hs with rfl|hs
   ·exact eo
   ·exact h3 s hs
theorem aHz {h:H}{v:Value}(ty:TyV prog h 22 v):∃l:List NZ,SliceE 35 h v (l.map nzC)∧(∀z∈l,nL h z.2.1 z.2.2)∧∀z∈l,EOk z.1:=by
 cases ty with
 |agg hu _=>rw[Tryz.underlying22]at hu;simp at hu
 |one hu ty=>
  obtain⟨v',els,hv,hs,hm,he⟩:=ty.slice_inv Tryz.underlying22;simp only[List.cons.injEq,and_true]at hv;subst hv;have c2:prog.cellsOf 36=35:=by kernel_rfl
  rw[c2]at hs;obtain⟨l,rfl,nb,eo⟩:=yY els he;exact⟨l,hs,nb,eo⟩
theorem aLj {h:H}{v:Value}(ty:TyV prog h 5 v):∃n:Nat,v=.int .u8 (n:Int)∧n<256:=by
 cases ty with
 |agg hu _=>rw[Tryz.underlying5]at hu;simp at hu
 |one hu ty=>
  obtain⟨n,hv,hn⟩:=wB ty;simp only[List.cons.injEq,and_true]at hv;exact⟨n,hv,hn⟩
end Go.Proofs.YtpanfoafajepcaaGreatDoor.Ra
