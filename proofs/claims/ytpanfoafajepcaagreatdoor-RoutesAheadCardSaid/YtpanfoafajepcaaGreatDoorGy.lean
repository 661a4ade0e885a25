import Derived.Test.YtpanfoafajepcaaGreatDoorGx
import Derived.Test.YtpanfoafajepcaaGreatDoorRaW
set_option maxRecDepth 100000
namespace Go.Proofs.YtpanfoafajepcaaGreatDoor.Ra
open Tryz (prog)
open Go Go.AM RaA RaI RaW
open _root_.Ra
theorem iT {κ α:Type}[DecidableEq κ]{l:List (κ×α)}{o j:κ}{p p':α}(hp:aE l o=some p):(∃x,aE (aL l o p') j=some x)↔∃x,aE l j=some x:=by
 rw[aD];split
 ·rename_i e;subst e;simp[hp]
 ·rfl
theorem Rep.pub {B h h':H}{nm:Col→Nat}{s:St}{a:Nat}(r:Rep B h nm s a)(hB:B.next≤h.next){o:Int}{p p':Pub}(hp:aE s.pubs o=some p)(hn:h.next≤h'.next)(T:Col→Prop)(hT:∀C,T C→C=.pub o∨C=.holds o∨C=.serve o)
 (get:∀C,live s nm C→¬T C→h'.get (nm C)=h.get (nm C))
 (s1:¬T (.pub o)→p'.client=p.client∧p'.msg=p.msg∧p'.place=p.place∧p'.open_=p.open_) (s2:¬T (.holds o)→p'.holds=p.holds) (s3:¬T (.serve o)→p'.serve=p.serve)
 (o1:T (.pub o)→h'.get (nm (.pub o))=some (.cells (aEn nm o p') (some 0))) (o2:T (.holds o)→MapR h' (nm (.holds o)) bO (dZ p'.holds)) (o3:T (.serve o)→MapR h' (nm (.serve o)) bO (dZ p'.serve)):
 Rep B h' nm {s with pubs:=aL s.pubs o p'} a:=by
 have lv:∀C,live {s with pubs:=aL s.pubs o p'} nm C↔live s nm C:=fun C=>by
  cases C<;>simp only[live]<;>first|exact Iff.rfl|exact iT hp
 have sd:∀(f:Pub→Prop),True:=fun _=>trivial;refine r.upd T hn hB (fun C h _=>⟨(lv C).1 h,rfl⟩) (fun C h _=>.inl ⟨(lv C).1 h,rfl⟩) (fun C C' l1 l2 _ _ hge he=>r.inj C C' ((lv C).1 l1) ((lv C').1 l2) he) get (fun C hC=>⟨?_,by cases C<;>simp[iY]⟩) (fun c o' t=>⟨fun h=>?_,fun h=>?_,fun h=>?_,fun h=>absurd rfl h⟩) (fun C hC=>?_)
 ·cases C with
  |pubs=>exact cP hp
  |pub o'=>
   simp only[cO,aD];split
   ·rename_i e;subst e;obtain⟨a1,a2,a3,a4⟩:=s1 hC;simp only[hp,Option.map_some,a1,a2,a3,a4]
   ·rfl
  |holds o'=>
   simp only[cO,aD];split
   ·rename_i e;subst e;simp only[hp,Option.map_some,s2 hC]
   ·rfl
  |serve o'=>
   simp only[cO,aD];split
   ·rename_i e;subst e;simp only[hp,Option.map_some,s3 hC]
   ·rfl
  |_=>simp[cO]
 ·rcases hT _ h with e|e|e<;>cases e
 ·rcases hT _ h with e|e|e<;>cases e
 ·rcases hT _ h with e|e|e<;>cases e
 ·rcases hT _ hC with rfl|rfl|rfl
  ·intro x hx;simp only[aD,if_true,kE]at hx;subst hx;exact o1 hC
  ·intro x hx;simp only[aD,if_true,kE]at hx;subst hx;exact o2 hC
  ·intro x hx;simp only[aD,if_true,kE]at hx;subst hx;exact o3 hC
theorem Rep.sub {B h h':H}{nm:Col→Nat}{s:St}{a:Nat}(r:Rep B h nm s a)(hB:B.next≤h.next){o:Int}{b b':Sb}(hb:aE s.subs o=some b)(hn:h.next≤h'.next)(T:Col→Prop)(hT:∀C,T C→C=.sb o∨C=.got o)
 (get:∀C,live s nm C→¬T C→h'.get (nm C)=h.get (nm C)) (s0:b'.done=b.done∧b'.filters=b.filters∧b'.past=b.past∧b'.still=b.still)
 (s1:¬T (.sb o)→b'.client=b.client∧b'.open_=b.open_∧b'.last=b.last∧b'.some_=b.some_) (s2:¬T (.got o)→b'.got=b.got)
 (o1:T (.sb o)→h'.get (nm (.sb o))=some (.cells (mR nm o b') (some 0))) (o2:T (.got o)→MapR h' (nm (.got o)) bO (dZ b'.got)):
 Rep B h' nm {s with subs:=aL s.subs o b'} a:=by
 obtain⟨d1,d2,d3,d4⟩:=s0;have ex:∀(o':Int) (P:Sb→Prop),(P b'↔P b)→((∃x,aE (aL s.subs o b') o'=some x∧P x)↔∃x,aE s.subs o'=some x∧P x):=fun o' P hP=>by
  rw[aD];split
  ·rename_i e;subst e;simp only[hb,kE,exists_eq_left',hP]
  ·rfl
 have lv:∀C,live {s with subs:=aL s.subs o b'} nm C↔live s nm C:=fun C=>by
  cases C with
  |sb|past|still|got=>exact iT hb
  |flst o'=>exact ex o' (fun x=>x.done=true) (by rw[d1])
  |frow o'=>simp only[live];rw[ex o' (fun x=>x.done=true) (by rw[d1])]
  |msgs o' t=>
   have:=ex o' (fun x=>∃ms,aE x.past t=some ms) (by rw[d3]);simp only[live];constructor
   ·rintro⟨x,ms,h1,h2⟩;obtain⟨y,g1,ms',g2⟩:=this.1 ⟨x,h1,ms,h2⟩;exact⟨y,ms',g1,g2⟩
   ·rintro⟨x,ms,h1,h2⟩;obtain⟨y,g1,ms',g2⟩:=this.2 ⟨x,h1,ms,h2⟩;exact⟨y,ms',g1,g2⟩
  |_=>exact Iff.rfl
 refine r.upd T hn hB (fun C h _=>⟨(lv C).1 h,rfl⟩) (fun C h _=>.inl ⟨(lv C).1 h,rfl⟩) (fun C C' l1 l2 _ _ hge he=>r.inj C C' ((lv C).1 l1) ((lv C').1 l2) he) get (fun C hC=>⟨?_,by cases C<;>simp[iY]⟩) (fun c o' t=>⟨fun h=>?_,fun h=>?_,fun h=>?_,fun h=>absurd rfl h⟩) (fun C hC=>?_)
 ·cases C with
  |subs=>exact cP hb
  |sb o'=>
   simp only[cO,aD];split
   ·rename_i e;subst e;obtain⟨a1,a2,a3,a4⟩:=s1 hC;simp only[hb,Option.map_some,a1,a2,a3,a4,d1]
   ·rfl
  |flst o'=>
   simp only[cO,aD];split
   ·rename_i e;subst e;simp only[hb,Option.map_some,d1,d2]
   ·rfl
  |past o'=>
   simp only[cO,aD];split
   ·rename_i e;subst e;simp only[hb,Option.map_some,d3]
   ·rfl
  |still o'=>
   simp only[cO,aD];split
   ·rename_i e;subst e;simp only[hb,Option.map_some,d4]
   ·rfl
  |got o'=>
   simp only[cO,aD];split
   ·rename_i e;subst e;simp only[hb,Option.map_some,s2 hC]
   ·rfl
  |_=>simp[cO]
 ·rcases hT _ h with e|e<;>cases e
 ·rcases hT _ h with e|e<;>cases e
 ·rcases hT _ h with e|e<;>cases e
 ·rcases hT _ hC with rfl|rfl
  ·intro x hx;simp only[aD,if_true,kE]at hx;subst hx;exact o1 hC
  ·intro x hx;simp only[aD,if_true,kE]at hx;subst hx;exact o2 hC
theorem aCt (a b:Value):A.zB 0 (.tuple ⟨[.bool true,a,b]⟩)=some (.bool true):=rfl
theorem aJm:A.zB 0 (.tuple ⟨[.bool false]⟩)=some (.bool false):=rfl
theorem qH (a b:Value):A.zB 0 (.tuple ⟨[a,b]⟩)=some a:=rfl
theorem qG (a b:Value):A.zB 1 (.tuple ⟨[a,b]⟩)=some b:=rfl
section
variable {D:CF}{T0:H}{fil nam:Bs→Bool}{tak:Bs→Bs→Bool}(k2:K2 D T0 fil nam tak){B h:H}{nm:Col→Nat}{s:St}{a:Nat}{dm:Pw.Dm}{rl:Pw.Rl}(ok:RelOK prog 3 RaZ.isR dm rl)
include k2 ok
omit ok in
theorem bLw {h1:H}{p it m:Nat}{holds serve:List Bs}{ms:Nat}{cs:List Value}(g:h1.get p=some (.cells cs (some 0)))(l8:cs[8]?=some (aP ms))(hms:MapR h1 ms bO (dZ serve))(hp:p<h1.next)(hms2:ms<h1.next)(hit:h1.next≤it)(hne:it≠m)(hm:m<h1.next)
 (kr:Pk.K1 Unit) (kx:Pk.K0 Unit) (k0:∀h2,Ext h1 h2→(holds.all fun c=>decide (c∈serve))=false→kr (.bool false) h2=some ()) (k1:∀h2,Ext h1 h2→(holds.all fun c=>decide (c∈serve))=true→kx h2=some ()) {L:Nat} {h2:H} {n:Nat} (hn:holds.length<n)
 (i0:ItK h2 it m bO (dZ holds) []) (x0:Ext h1 h2) (hi2:it<h2.next):aJa (CI D) L dm rl kr kx n (aB p) (aB it) h2=some ():=by
 have _:=k2;refine gR (W:=fun n (_:Unit) h=>aJa (CI D) L dm rl kr kx n (aB p) (aB it) h) (I:=fun sk _ h2=>(∀c∈sk,c∈serve)∧Ext h1 h2∧it<h2.next) hne (fun n s h hh=>by simp only[aJa,aUp];exact hh) ?_ ?_ holds.length [] () h2 n List.nodup_nil (by simp) (by rw[yS];simp) hn i0 ⟨by simp,x0,hi2⟩
 ·intro n sk _ h2 i2 it2 y hy hys h3 a3 i3 e3 next
  obtain⟨hv,hmem⟩:=yH hy;have x3:Ext h1 h3:=a3.ext i2.2.1 hit;have n3:it<h3.next:=by rw[a3.1];exact i2.2.2
  rw[hv]at e3;have e3:A.zT (aB it) h3=some (.tuple ⟨[str y.1,dI]⟩):=e3;have l8:=ld k2 (by rw[x3.get _ hp];exact g) 8 l8;have lk:=uI (hms.congr (x3.get _ hms2)) RaW.Z74 true y.1;rw[lD]at lk;obtain⟨h4,hh4⟩:∃h4,h4=h3.push (.cells [] (some 0)):=⟨_,rfl⟩;have b0:A.box 0 RaW.Z74 h3=some (aB h3.next,h4):=by rw[hh4];rfl
  have g4:h4.get h3.next=some (.cells [] (some 0)):=by rw[hh4,H.get_push,kB rfl]
  obtain⟨h5,hh5⟩:∃h5,h5=h4.put h3.next (.cells [] (some 0)):=⟨_,rfl⟩;have s0:A.store 0 (aB h3.next) dI h4=some h5:=by rw[qU,g4,hh5];rfl
  have x35:Ext h3 h5:=by rw[hh5,hh4];exact Ext.put (Ext.push h3 _) _ _ (kF _)
  have x5:=x3.trans x35;by_cases hc:y.1∈serve
  ·have lk:A.zE true RaW.Z74 true (str y.1) (aP ms) h3=some (.tuple ⟨[dI,.bool true]⟩):=by rw[lk,kB hc];rfl
   simp only[aCt,qG,qH,RaK.S,e3,l8,lk,b0,s0,Nat.zero_add];refine next () h5 ⟨fun c hm=>?_,x5,kH n3 x35.next⟩ (i3.congr (x35.get _ n3) (x35.get _ (kH hm x3.next)))
   rcases List.mem_append.1 hm with hm|hm
   ·exact i2.1 c hm
   ·rw[List.mem_singleton.1 hm];exact hc
  ·have lk:A.zE true RaW.Z74 true (str y.1) (aP ms) h3=some (.tuple ⟨[dI,.bool false]⟩):=by rw[lk,kA hc];rfl
   simp only[aCt,qG,qH,RaK.S,e3,l8,lk,b0,s0,Nat.zero_add];refine k0 h5 x5 ?_;rw[Bool.eq_false_iff];intro e;exact hc (of_decide_eq_true (List.all_eq_true.1 e y.1 hmem))
 ·intro n sk _ h2 i2 all hsub hnd;simp only[aJm,RaK.S];refine k1 h2 i2.2.1 ?_;rw[List.all_eq_true];intro c hc;exact kC (i2.1 c (all (c,dI) (by simp only[dZ];exact List.mem_map_of_mem (f:=fun c=>(c,dI)) hc)))
omit k2 ok in
def KeepN (h h':H):Prop:=∀j cs,j<h.next→cs.length=35→h.get j=some (.cells cs (some 0))→h'.get j=some (.cells cs (some 0))
omit k2 ok in
theorem KeepN.refl (h:H):KeepN h h:=fun _ _ _ _ e=>e
theorem W23 (r:Rep B h nm s a)(hB:Ext B h)(op:Int):∃L,dC prog (CI D) RaZ.isR dm rl L 3 23 [aB (nm .chk),fD ((aE s.pubs op).map fun _=>nm (.pub op))] h (fun v h'=>eL B (nm .chk) a h (dO s op) v h'∧KeepN h h'):=by
 cases hp:aE s.pubs op with
 |none=>
  have n0:A.zA prog .eql 60 (.pointer none) (.pointer none)=some (.bool true):=by kernel_rfl
  refine⟨0,aXi ok _ _ h ?_⟩;simp only[F23,aJj,aPj,Option.map_none,fD,n0,RaK.S];refine okU_iff.2 ⟨⟨?_,⟨nm,rfl,?_⟩,hB,kF _⟩,KeepN.refl h⟩
  ·simp only[dO,hp]
  ·simp only[dO,hp];exact r
 |some p=>
  have n0:=tE (t:=60) (by kernel_rfl) (nm (.pub op));have gp:=r.ok (.pub op) p hp;have l6:=ld k2 gp 6 rfl
  cases ho:p.open_ with
  |false=>
   rw[ho]at l6;have et:dO s op=(true,s):=by simp only[dO,hp,ho];rfl
   refine⟨0,aXi ok _ _ h ?_⟩;simp only[F23,aJj,aPj,Option.map_some,fD,n0,RaK.S,Nat.zero_add,l6];exact okU_iff.2 ⟨⟨by rw[et],⟨nm,rfl,by rw[et];exact r⟩,hB,kF _⟩,KeepN.refl h⟩
  |true=>
   rw[ho]at l6;obtain⟨s',hs'⟩:∃s':St,s'={s with pubs:=aL s.pubs op {p with open_:=false}}:=⟨_,rfl⟩;have et:dO s op=(p.holds.all fun c=>decide (c∈p.serve),s'):=by simp only[dO,hp,ho,hs'];rfl
   rw[et];obtain⟨h1,hh1⟩:∃h1,h1=h.put (nm (.pub op)) (.cells (aEn nm op {p with open_:=false}) (some 0)):=⟨_,rfl⟩;have lp:=r.lt (.pub op) ⟨p,hp⟩;have e1:A.store 1 (.pointer (some ⟨nm (.pub op),6,none⟩)) (.bool false) h=some h1:=by rw[qU,gp,hh1];rfl
   have g1:h1.get (nm (.pub op))=some (.cells (aEn nm op {p with open_:=false}) (some 0)):=by rw[hh1,H.get_put,kB rfl]
   have r1:Rep B h1 nm s' a:=by
    rw[hs'];refine r.pub hB.next hp (by rw[hh1];exact kF _) (fun C=>C=.pub op) (fun C h=>.inl h) (fun C hl hne=>?_) (fun h=>absurd rfl h) (fun _=>rfl) (fun _=>rfl) (fun _=>g1) (fun e=>by cases e) (fun e=>by cases e);rw[hh1,H.get_put,kA (fun e=>hne (r.inj _ _ hl ⟨p,hp⟩ e))]
   have hB1:Ext B h1:=by rw[hh1];exact Ext.put hB _ _ lp.1
   have n1:h1.next=h.next:=by rw[hh1];rfl
   have hp1:aE s'.pubs op=some {p with open_:=false}:=by rw[hs',aD,kB rfl]
   have mh:=r1.ok (.holds op) _ hp1;have ms:=r1.ok (.serve op) _ hp1;have lh:=r1.lt (.holds op) ⟨_,hp1⟩;obtain⟨bi,er,ei⟩:=gP mh lh.2;obtain⟨it,hit⟩:∃it,it=h1.next:=⟨_,rfl⟩;rw[←hit]at er ei;have l7:=ld k2 g1 7 rfl;have kp:∀h2,Ext h1 h2→KeepN h h2:=fun h2 x2 j cs hj hc hg=>by
    rw[x2.get j (by rw[n1];exact hj),hh1,H.get_put,kA fun e=>?_]
    ·exact hg
    ·rw[e,gp]at hg;have:=kP hg;simp only[Blk.cells.injEq]at this;rw[←this.1]at hc;simp[aEn]at hc
   refine⟨p.holds.length+1,aXi ok _ _ h ?_⟩;simp only[F23,aJj,aPj,bHo,aQi,bHn,Option.map_some,fD,n0,RaK.S,Nat.zero_add,l6,e1,l7,er];refine bLw k2 g1 rfl ms (by rw[n1];exact lp.2) (r1.lt (.serve op) ⟨_,hp1⟩).2 (by omega) (by omega) lh.2 _ _ (fun h2 x2 hf=>okU_iff.2 ⟨⟨by rw[hf],⟨nm,rfl,r1.ext (by rw[n1];exact hB.next) x2⟩,hB1.trans x2,?_⟩,kp h2 x2⟩) (fun h2 x2 hf=>okU_iff.2 ⟨⟨by rw[hf],⟨nm,rfl,r1.ext (by rw[n1];exact hB.next) x2⟩,hB1.trans x2,?_⟩,kp h2 x2⟩) (Nat.lt_succ_self _) ei (Ext.push h1 bi) (by rw[hit];exact Nat.lt_succ_self _)
   ·rw[←n1];exact x2.next
   ·rw[←n1];exact x2.next
def Inv (s:St):Prop:=∀o b,aE s.subs o=some b→b.open_=true→b.done=true
omit ok in
theorem bLv (hT:HasT T0 B)(hB3:3≤B.next){h1:H}(hB:Ext B h1){p it m mg l rr:Nat}{still got:List Bs}{row:Row}{cs:List Value}(g:h1.get p=some (.cells cs (some 0)))(l3:cs[3]?=some (aB l))(l6:cs[6]?=some (aP mg))(hl:LstR h1 l rr row)(hl1:l<h1.next)
 (hmg:MapR h1 mg bO (dZ got)) (hp:p<h1.next) (hmg2:mg<h1.next) (hit:h1.next≤it) (hne:it≠m) (hm:m<h1.next)
 (kr:Pk.K1 Unit) (kx:Pk.K0 Unit) (k0:∀h2,Ext h1 h2→(still.all fun t=>!((eV tak row t).2&&!decide (t∈got)))=false→kr (.bool false) h2=some ()) (k1:∀h2,Ext h1 h2→(still.all fun t=>!((eV tak row t).2&&!decide (t∈got)))=true→kx h2=some ()) {L:Nat} {h2:H} {n:Nat} (hn:still.length<n)
 (i0:ItK h2 it m bO (dZ still) []) (x0:Ext h1 h2) (hi2:it<h2.next):aGc (CI D) L dm rl kr kx n (aB p) (aB it) h2=some ():=by
 refine gR (W:=fun n (_:Unit) h=>aGc (CI D) L dm rl kr kx n (aB p) (aB it) h) (I:=fun sk _ h2=>(∀t∈sk,(!((eV tak row t).2&&!decide (t∈got)))=true)∧Ext h1 h2∧it<h2.next) hne (fun n s h hh=>by simp only[aGc,aUo];exact hh) ?_ ?_ still.length [] () h2 n List.nodup_nil (by simp) (by rw[yS];simp) hn i0 ⟨by simp,x0,hi2⟩
 ·intro n sk _ h2 i2 it2 y hy hys h3 a3 i3 e3 next
  obtain⟨hv,hmem⟩:=yH hy;have x3:Ext h1 h3:=a3.ext i2.2.1 hit;have n3:it<h3.next:=by rw[a3.1];exact i2.2.2
  rw[hv]at e3;have e3:A.zT (aB it) h3=some (.tuple ⟨[str y.1,dI]⟩):=e3;have l3:=ld k2 (by rw[x3.get _ hp];exact g) 3 l3;have hB3':Ext B h3:=hB.trans x3;obtain⟨h16,v,lr,hv2⟩:=hl;have lr3:ListR h3 l v row:=lr.but x3.but (S:=fun _=>False) id (fun _ _=>id);obtain⟨h4,e32,x34⟩:=T32 k2 (hT.ext k2.tab hB3 hB3') (kG hB3 hB3'.next) h16 lr3 y.1;have x4:=x3.trans x34;have l6:=ld k2 (by rw[x4.get _ hp];exact g) 6 l6;have lk:=uI (hmg.congr (x4.get _ hmg2)) RaW.Z74 true y.1;rw[lD]at lk;obtain⟨h5,hh5⟩:∃h5,h5=h4.push (.cells [] (some 0)):=⟨_,rfl⟩;have b0:A.box 0 RaW.Z74 h4=some (aB h4.next,h5):=by rw[hh5];rfl
  have g5:h5.get h4.next=some (.cells [] (some 0)):=by rw[hh5,H.get_push,kB rfl]
  obtain⟨h6,hh6⟩:∃h6,h6=h5.put h4.next (.cells [] (some 0)):=⟨_,rfl⟩;have s0:A.store 0 (aB h4.next) dI h5=some h6:=by rw[qU,g5,hh6];rfl
  have x36:Ext h3 h6:=x34.trans (by rw[hh6,hh5];exact Ext.put (Ext.push h4 _) _ _ (kF _));have x6:=x3.trans x36;obtain⟨bv,hbv⟩:∃b,b=decide (y.1∈got):=⟨_,rfl⟩;have lk:A.zE true RaW.Z74 true (str y.1) (aP mg) h4=some (.tuple ⟨[dI,.bool bv]⟩):=by
   rw[lk,hbv];by_cases hc:y.1∈got
   ·rw[kB hc,kC hc];rfl
   ·rw[kA hc,kD hc];rfl
  obtain⟨bb,hbb⟩:∃b,b=(eV tak row y.1).2:=⟨_,rfl⟩;rw[←hbb]at e32;have nx:(!(bb&&!bv))=true→aGc (CI D) L dm rl kr kx n (aB p) (aB it) h6=some ():=fun hy=>next () h6 ⟨fun c hm=>by
   rcases List.mem_append.1 hm with hm|hm
   ·exact i2.1 c hm
   ·rw[List.mem_singleton.1 hm,←hbb,←hbv];exact hy,x6,kH n3 x36.next⟩ (i3.congr (x36.get _ n3) (x36.get _ (kH hm x3.next)))
  have ny:(!(bb&&!bv))=false→kr (.bool false) h6=some ():=fun hy=>k0 h6 x6 (by
   rw[Bool.eq_false_iff];intro e;have:=List.all_eq_true.1 e y.1 hmem;rw[←hbb,←hbv,hy]at this;cases this)
  simp only[aCt,qG,qH,RaK.S,aUn,e3,l3,e32,l6,lk,b0,s0,Nat.zero_add]
  cases bb with
  |true=>
   cases bv with
   |true=>simp only[RaK.S];exact nx rfl
   |false=>simp only[RaK.S];exact ny rfl
  |false=>simp only[RaK.S];exact nx rfl
 ·intro n sk _ h2 i2 all hsub hnd;simp only[aJm,RaK.S];refine k1 h2 i2.2.1 ?_;rw[List.all_eq_true];intro c hc;exact i2.1 c (all (c,dI) (by simp only[dZ];exact List.mem_map_of_mem (f:=fun c=>(c,dI)) hc))
theorem W24 (hT:HasT T0 B)(hB3:3≤B.next)(r:Rep B h nm s a)(hB:Ext B h)(inv:Inv s)(op:Int):∃L,dC prog (CI D) RaZ.isR dm rl L 3 24 [aB (nm .chk),fD ((aE s.subs op).map fun _=>nm (.sb op))] h (eL B (nm .chk) a h (fC tak s op)):=by
 cases hb:aE s.subs op with
 |none=>
  have n0:A.zA prog .eql 58 (.pointer none) (.pointer none)=some (.bool true):=by kernel_rfl
  refine⟨0,aXh ok _ _ h ?_⟩;simp only[F24,aJi,aPi,Option.map_none,fD,n0,RaK.S];refine okU_iff.2 ⟨?_,⟨nm,rfl,?_⟩,hB,kF _⟩
  ·simp only[fC,hb]
  ·simp only[fC,hb];exact r
 |some b=>
  have n0:=tE (t:=58) (by kernel_rfl) (nm (.sb op));have gp:=r.ok (.sb op) b hb;have l2:=ld k2 gp 2 rfl
  cases ho:b.open_ with
  |false=>
   rw[ho]at l2;have et:fC tak s op=(true,s):=by simp only[fC,hb,ho];rfl
   refine⟨0,aXh ok _ _ h ?_⟩;simp only[F24,aJi,aPi,Option.map_some,fD,n0,RaK.S,Nat.zero_add,l2];exact okU_iff.2 ⟨by rw[et],⟨nm,rfl,by rw[et];exact r⟩,hB,kF _⟩
  |true=>
   rw[ho]at l2;have hd:=inv op b hb ho;obtain⟨s',hs'⟩:∃s':St,s'={s with subs:=aL s.subs op {b with open_:=false}}:=⟨_,rfl⟩;have et:fC tak s op=(b.still.all fun t=>!((eV tak b.filters t).2&&!decide (t∈b.got)),s'):=by simp only[fC,hb,ho,hs'];rfl
   rw[et];obtain⟨h1,hh1⟩:∃h1,h1=h.put (nm (.sb op)) (.cells (mR nm op {b with open_:=false}) (some 0)):=⟨_,rfl⟩;have lp:=r.lt (.sb op) ⟨b,hb⟩;have e1:A.store 1 (.pointer (some ⟨nm (.sb op),2,none⟩)) (.bool false) h=some h1:=by rw[qU,gp,hh1];rfl
   have g1:h1.get (nm (.sb op))=some (.cells (mR nm op {b with open_:=false}) (some 0)):=by rw[hh1,H.get_put,kB rfl]
   have r1:Rep B h1 nm s' a:=by
    rw[hs'];refine r.sub hB.next hb (by rw[hh1];exact kF _) (fun C=>C=.sb op) (fun C h=>.inl h) (fun C hl hne=>?_) ⟨rfl,rfl,rfl,rfl⟩ (fun h=>absurd rfl h) (fun _=>rfl) (fun _=>g1) (fun e=>by cases e);rw[hh1,H.get_put,kA (fun e=>hne (r.inj _ _ hl ⟨b,hb⟩ e))]
   have hB1:Ext B h1:=by rw[hh1];exact Ext.put hB _ _ lp.1
   have n1:h1.next=h.next:=by rw[hh1];rfl
   have hb1:aE s'.subs op=some {b with open_:=false}:=by rw[hs',aD,kB rfl]
   have mh:=r1.ok (.still op) _ hb1;have ms:=r1.ok (.got op) _ hb1;have lh:=r1.lt (.still op) ⟨_,hb1⟩;have fl:=r1.ok (.flst op) _ hb1 hd;have l3:(mR nm op {b with open_:=false})[3]?=some (aB (nm (.flst op))):=by simp[mR,hd]
   obtain⟨bi,er,ei⟩:=gP mh lh.2;obtain⟨it,hit⟩:∃it,it=h1.next:=⟨_,rfl⟩;rw[←hit]at er ei;have l5:=ld k2 g1 5 rfl;refine⟨b.still.length+1,aXh ok _ _ h ?_⟩;simp only[F24,aJi,aPi,bHm,aQn,bHl,Option.map_some,fD,n0,RaK.S,Nat.zero_add,l2,e1,l5,er];refine bLv k2 hT hB3 hB1 g1 l3 rfl fl (r1.lt (.flst op) ⟨_,hb1,hd⟩).2 ms (by rw[n1];exact lp.2) (r1.lt (.got op) ⟨_,hb1⟩).2 (by omega) (by omega) lh.2 _ _ (fun h2 x2 hf=>okU_iff.2 ⟨by rw[hf],⟨nm,rfl,r1.ext (by rw[n1];exact hB.next) x2⟩,hB1.trans x2,?_⟩) (fun h2 x2 hf=>okU_iff.2 ⟨by rw[hf],⟨nm,rfl,r1.ext (by rw[n1];exact hB.next) x2⟩,hB1.trans x2,?_⟩) (Nat.lt_succ_self _) ei (Ext.push h1 bi) (by rw[hit];exact Nat.lt_succ_self _)
   ·rw[←n1];exact x2.next
   ·rw[←n1];exact x2.next
end
end Go.Proofs.YtpanfoafajepcaaGreatDoor.Ra

set_option maxRecDepth 100000
namespace Go.Proofs.YtpanfoafajepcaaGreatDoor.Ra
open Tryz (prog)
open Go Go.AM
open _root_.Ra
def bH (e:Nat→Value)(v:Value)(n:cU):List Value:=
  [.int .u8 (n.kind:Int),.int .i64 n.op,.int .i64 n.conn,str n.client,.int .u8 (n.ptype:Int),e 5,e 6,e 7,e 8,e 9,e 10,e 11,.bool n.clean,e 13,e 14,e 15,e 16,e 17,e 18,e 19,e 20,e 21,e 22,e 23,e 24,e 25,v,e 27,
   str n.msg.topic,str n.msg.payload,.int .u8 (n.msg.qos:Int),.bool n.msg.retain,e 32,e 33,.int .u8 (n.qos:Int)]
abbrev cD (e:Nat→Value)(v:Value)(n:cU):Value:=.agg ⟨bH e v n⟩
structure nL (B:H)(v:Value)(n:cU):Prop where
  subs:SliceE 2 B v (bM n.subs)
  small:∀y∈n.subs,y.2<256
  top:n.msg.topic.length≤maxLen
structure NoteOk (B:H)(v:Value)(n:cU):Prop extends nL B v n where
  len:n.subs.length≤2^40
theorem eqB {a b:List UInt8}:(a==b)=decide (a=b):=by
  by_cases h:a=b
  ·subst h;simp
  ·simp[h]
theorem aXw (m m':Msg):A.zA prog .neq 31 (.agg ⟨aR m⟩) (.agg ⟨aR m'⟩)=some (.bool (!decide (m=m'))):=by
  obtain⟨a,b,c,d⟩:=m;obtain⟨a',b',c',d'⟩:=m';have e:A.zA prog .neq 31 (.agg ⟨[.string ⟨⟨a⟩⟩,.string ⟨⟨b⟩⟩,.int .u8 (c:Int),.bool d]⟩) (.agg ⟨[.string ⟨⟨a'⟩⟩,.string ⟨⟨b'⟩⟩,.int .u8 (c':Int),.bool d']⟩)=
      (match(bif (a==a')then bif (b==b')then bif ((c:Int)==(c':Int))then bif (d==d')then some true else some false else some false else some false else some false)with|some r=>some (.bool (!r))|none=>none):=by kernel_rfl
  refine e.trans ?_;rw[eqB,eqB];have hm:decide ((⟨a,b,c,d⟩:Msg)=⟨a',b',c',d'⟩)=(decide (a=a')&&(decide (b=b')&&(decide (c=c')&&decide (d=d')))):=by
    by_cases h1:a=a'<;>by_cases h2:b=b'<;>by_cases h3:c=c'<;>by_cases h4:d=d'<;>simp[h1,h2,h3,h4]
  have hc:((c:Int)==(c':Int))=decide (c=c'):=by
    by_cases h:c=c'
    ·subst h;simp
    ·rw[kD h,beq_eq_false_iff_ne];omega
  have hd:(d==d')=decide (d=d'):=by cases d<;>cases d'<;>rfl
  rw[hm,hc,hd];cases decide (a=a')<;>cases decide (b=b')<;>cases decide (c=c')<;>cases decide (d=d')<;>rfl
end Go.Proofs.YtpanfoafajepcaaGreatDoor.Ra

set_option maxRecDepth 100000
namespace Go.Proofs.YtpanfoafajepcaaGreatDoor.Ra
open Tryz (prog)
open Go Go.AM RaA RaI RaW
open _root_.Ra
theorem eI {κ α:Type}[DecidableEq κ]:∀{l:List (κ×α)} {o:κ} {x:α},(l.map (·.1)).Nodup→(o,x)∈l→aE l o=some x
 |[],_,_,_,h=>by simp at h
 |(k,y)::r,o,x,hn,h=>by
  simp only[List.map_cons,List.nodup_cons]at hn;simp only[aE];rcases List.mem_cons.1 h with e|h
  ·cases e;rw[kB rfl]
  ·rw[kA]
   ·exact eI hn.2 h
   ·rintro rfl;exact hn.1 (List.mem_map_of_mem (f:=(·.1)) h)
theorem sE {κ α:Type}[DecidableEq κ]:∀{l:List (κ×α)} {o:κ} {x:α},aE l o=some x→(o,x)∈l
 |[],_,_,h=>by simp[aE]at h
 |(k,y)::r,o,x,h=>by
  simp only[aE]at h;split at h
  ·rename_i e;subst e;cases h;exact List.mem_cons_self
  ·exact List.mem_cons_of_mem _ (sE h)
theorem yT (m:Msg):AM.same (.agg ⟨aR m⟩) (.agg ⟨aR m⟩)=true:=by
 simp[aR,AM.same,AM.sameA,AM.sameL]
section
variable {D:CF}{T0:H}{fil nam:Bs→Bool}{tak:Bs→Bs→Bool}(k2:K2 D T0 fil nam tak){B h:H}{nm:Col→Nat}{s:St}{a:Nat}{dm:Pw.Dm}{rl:Pw.Rl}
theorem Rep.keysP (r:Rep B h nm s a):(s.pubs.map (·.1)).Nodup:=by
 have:=(r.ok .pubs).nodup
 rwa [List.map_map]at this
theorem Rep.keysU (r:Rep B h nm s a):(s.subs.map (·.1)).Nodup:=by
 have:=(r.ok .subs).nodup
 rwa [List.map_map]at this
theorem aJy (r:Rep B h nm s a)(op:Int):A.zE false (.pointer none) false (.int .i64 op) (aP (nm .pubs)) h=some (fD ((aE s.pubs op).map fun _=>nm (.pub op))):=by
 have lk:=aOd (r.ok .pubs) (.pointer none) false op;rw[fR (fun o (_:Pub)=>aB (nm (.pub o)))]at lk;rw[lk];cases aE s.pubs op<;>rfl
theorem aFh (r:Rep B h nm s a)(op:Int):A.zE false (.pointer none) false (.int .i64 op) (aP (nm .subs)) h=some (fD ((aE s.subs op).map fun _=>nm (.sb op))):=by
 have lk:=aOd (r.ok .subs) (.pointer none) false op;rw[fR (fun o (_:Sb)=>aB (nm (.sb o)))]at lk;rw[lk];cases aE s.subs op<;>rfl
theorem aOe {id:Nat}{l:List Bs}(m:MapR h id bO (dZ l))(x:Bs):∃h1 h2,A.zE true (.agg ⟨[]⟩) true (str x) (aP id) h=some (.tuple ⟨[dI,.bool (decide (x∈l))]⟩)∧A.box 0 (.agg ⟨[]⟩) h=some (aB h.next,h1)∧A.store 0 (aB h.next) dI h1=some h2∧Ext h h2:=by
 have lk:=uI m (.agg ⟨[]⟩) true x;rw[lD]at lk;refine⟨h.push (.cells [] (some 0)),(h.push (.cells [] (some 0))).put h.next (.cells [] (some 0)),?_,rfl,?_,Ext.put (Ext.push h _) _ _ (kF _)⟩
 ·rw[lk];by_cases hc:x∈l
  ·rw[kB hc,kC hc];rfl
  ·rw[kA hc,kD hc];rfl
 ·rw[qU,H.get_push,kB rfl];rfl
include k2
theorem bLx {hb:H}(r:Rep B hb nm s a)(hB:Ext B hb){op:Int}{p:Pub}(hp:aE s.pubs op=some p){e:Nat→Value}{v:Value}{n:cU}{x3 it:Nat}(hit:hb.next≤it)(hx3:hb.next≤x3)(hx3it:x3<it)
 (kr:Pk.K1 Unit) (kx:Pk.K2 Unit) (k0:∀h2,Ext hb h2→(s.pubs.any fun x=>oW n.client p x.2)=true→kr (.bool false) h2=some ()) (k1:∀h2,Ext hb h2→h2.get x3=some (.cells (bH e v n) (some 0))→(s.pubs.any fun x=>oW n.client p x.2)=false→kx (aB (nm (.pub op))) (aB x3) h2=some ()) {L:Nat} {h2:H} {m:Nat} (hm:s.pubs.length<m)
 (i0:ItK h2 it (nm .pubs) jQ (s.pubs.map fun x=>(x.1,aB (nm (.pub x.1)))) []) (x0:Ext hb h2) (g0:h2.get x3=some (.cells (bH e v n) (some 0))) (hi2:it<h2.next):aGd (CI D) L dm rl kr kx m (aB it) (aB (nm (.pub op))) (aB x3) h2=some ():=by
 have lpubs:=(r.lt .pubs trivial);have lp:=r.lt (.pub op) ⟨p,hp⟩;refine gR (W:=fun n (_:Unit) h=>aGd (CI D) L dm rl kr kx n (aB it) (aB (nm (.pub op))) (aB x3) h) (I:=fun sk _ h2=>(∀o∈sk,∀q,aE s.pubs o=some q→oW n.client p q=false)∧Ext hb h2∧it<h2.next∧h2.get x3=some (.cells (bH e v n) (some 0))) (by omega) (fun n s h hh=>by simp only[aGd,aUw];exact hh) ?_ ?_ s.pubs.length [] () h2 m List.nodup_nil (by simp) (by simp) hm i0 ⟨by simp,x0,hi2,g0⟩
 ·intro k sk _ h2 i2 it2 y hy hys h3 a3 i3 e3 next
  simp only[List.mem_map]at hy;obtain⟨⟨o,q⟩,hmem,rfl⟩:=hy;have hq:=eI r.keysP hmem;have x3':Ext hb h3:=a3.ext i2.2.1 hit;have n3:it<h3.next:=by rw[a3.1];exact i2.2.2.1
  have gn:h3.get x3=some (.cells (bH e v n) (some 0)):=by rw[a3.2 x3 (by omega)];exact i2.2.2.2
  have e3:A.zT (aB it) h3=some (.tuple ⟨[.int .i64 o,aB (nm (.pub o))]⟩):=e3;have r3:=r.ext hB.next x3';have gq:=r3.ok (.pub o) q hq;have l8:=ld k2 gq 8 rfl;have l3:=ld k2 gn 3 rfl;obtain⟨h4,h5,lk,b0,s0,x35⟩:=aOe (r3.ok (.serve o) q hq) n.client;have r5:=r3.ext (kG hB.next x3'.next) x35;have x5:=x3'.trans x35;have gq5:=r5.ok (.pub o) q hq;have gp5:=r5.ok (.pub op) p hp;have q5:=ld k2 gq5 5 rfl;have p5:=ld k2 gp5 5 rfl;have q0:=ld k2 gq5 0 rfl;have p0:=ld k2 gp5 0 rfl;have q1:=ld k2 gq5 1 rfl;have p1:=ld k2 gp5 1 rfl;have c1:A.zA prog .eql 9 (str q.client) (str p.client)=_:=dK q.client p.client;have c2:A.zA prog .eql 9 (str q.msg.topic) (str p.msg.topic)=_:=dK q.msg.topic p.msg.topic;have hl:oW n.client p q=(decide (n.client∈q.serve)&&(decide ((p.place:Int)<(q.place:Int))&&(decide (q.client=p.client)&&decide (q.msg.topic=p.msg.topic)))):=by
   unfold oW;have:((p.place:Int)<(q.place:Int))=(p.place<q.place):=by simp
   simp only[Bool.decide_and,this]
  obtain⟨b1,hb1⟩:∃b,b=decide (n.client∈q.serve):=⟨_,rfl⟩;obtain⟨b2,hb2⟩:∃b,b=decide ((p.place:Int)<(q.place:Int)):=⟨_,rfl⟩;obtain⟨b3,hb3⟩:∃b,b=decide (q.client=p.client):=⟨_,rfl⟩;obtain⟨b4,hb4⟩:∃b,b=decide (q.msg.topic=p.msg.topic):=⟨_,rfl⟩;rw[←hb1,←hb2,←hb3,←hb4]at hl;rw[←hb1]at lk;rw[←hb3]at c1;rw[←hb4]at c2;have nx:oW n.client p q=false→aGd (CI D) L dm rl kr kx k (aB it) (aB (nm (.pub op))) (aB x3) h5=some ():=fun hf=>next () h5 ⟨fun o' ho q' hq'=>by
   rcases List.mem_append.1 ho with ho|ho
   ·exact i2.1 o' ho q' hq'
   ·rw[List.mem_singleton.1 ho,hq]at hq';cases hq';exact hf,x5,kH n3 x35.next,by rw[x35.get _ (by omega)];exact gn⟩ (i3.congr (x35.get _ n3) (x35.get _ (kH lpubs.2 x3'.next)))
  have ny:oW n.client p q=true→kr (.bool false) h5=some ():=fun ht=>k0 h5 x5 (List.any_eq_true.2 ⟨_,hmem,ht⟩);rw[hl]at nx ny;simp only[aCt,qG,qH,RaK.S,aUv,aUu,aUt,e3,l8,l3,show RaW.Z74=.agg ⟨[]⟩from rfl,lk,b0,s0,Nat.zero_add,Nat.add_zero,q5,p5,q0,p0,q1,p1,zY,c1,c2,←hb2]
  cases b1 with
  |false=>simp only[RaK.S];exact nx rfl
  |true=>
   cases b2 with
   |false=>simp only[RaK.S];exact nx rfl
   |true=>
    cases b3 with
    |false=>simp only[RaK.S];exact nx rfl
    |true=>
     cases b4 with
     |false=>simp only[RaK.S];exact nx rfl
     |true=>simp only[RaK.S];exact ny rfl
 ·intro k sk _ h2 i2 all hsub hnd;simp only[aJm,RaK.S];refine k1 h2 i2.2.1 i2.2.2.2 ?_;rw[Bool.eq_false_iff];intro ht;obtain⟨⟨o,q⟩,hmem,ht⟩:=List.any_eq_true.1 ht;have:=i2.1 o (all (o,aB (nm (.pub o))) (List.mem_map_of_mem (f:=fun x=>(x.1,aB (nm (.pub x.1)))) hmem)) q (eI r.keysP hmem);rw[this]at ht;cases ht
theorem W21 (ok:RelOK prog 3 RaZ.isR dm rl)(hT:HasT T0 B)(hB3:3≤B.next)(r:Rep B h nm s a)(hB:Ext B h)(e:Nat→Value)(v:Value)(n:cU):∃L,dC prog (CI D) RaZ.isR dm rl L 3 21 [aB (nm .chk),cD e v n] h (eL B (nm .chk) a h (fT tak s n)):=by
 obtain⟨h1,hh1⟩:∃h1,h1=h.push (.cells (bH e v n) (some 0)):=⟨_,rfl⟩;have e1:A.box 35 (cD e v n) h=some (aB h.next,h1):=by rw[hh1];rfl
 have x1:Ext h h1:=by rw[hh1];exact Ext.push h _
 have n1:h1.next=h.next+1:=by rw[hh1];rfl
 have g1:h1.get h.next=some (.cells (bH e v n) (some 0)):=by rw[hh1,H.get_push,kB rfl]
 have r1:=r.ext hB.next x1;have hB1:=hB.trans x1;have c1:=ld k2 (r1.ok .chk) 1 rfl;have n_1:=ld k2 g1 1 rfl;have lkp:=aJy r1 n.op;have post:∀(b:Bool) (h2:H),Ext h h2→fT tak s n=(b,s)→okU (eL B (nm .chk) a h (fT tak s n) (.bool b) h2)=some ():=fun b h2 x he=>okU_iff.2 ⟨by rw[he],⟨nm,rfl,by rw[he];exact r.ext hB.next x⟩,hB.trans x,x.next⟩
 cases hp:aE s.pubs n.op with
 |none=>
  rw[hp]at lkp;have n0:A.zA prog .eql 60 (.pointer none) (.pointer none)=some (.bool true):=by kernel_rfl
  refine⟨0,aGs ok _ _ h ?_⟩;simp only[F21,aAy,aEw,aEr,e1,RaK.S,Nat.zero_add,c1,n_1,show RaW.Z60=.pointer none from rfl,lkp,Option.map_none,fD,n0];exact post false h1 x1 (by simp only[fT,hp])
 |some p=>
  rw[hp]at lkp;have n0:=tE (t:=60) (by kernel_rfl) (nm (.pub n.op));have gp:=r1.ok (.pub n.op) p hp;have l6:=ld k2 gp 6 rfl
  cases ho:p.open_ with
  |false=>
   rw[ho]at l6;refine⟨0,aGs ok _ _ h ?_⟩;simp only[F21,aAy,aEw,aEr,e1,RaK.S,Nat.zero_add,c1,n_1,show RaW.Z60=.pointer none from rfl,lkp,Option.map_some,fD,n0,l6];exact post false h1 x1 (by simp only[fT,hp,ho,true_or,if_true])
  |true=>
   rw[ho]at l6;have l8:=ld k2 gp 8 rfl;have n_3:=ld k2 g1 3 rfl;obtain⟨h2,h3,lk,b0,s0,x13⟩:=aOe (r1.ok (.serve n.op) p hp) n.client;have x3:=x1.trans x13;by_cases hc:n.client∈p.serve
   ·rw[kC hc]at lk;refine⟨0,aGs ok _ _ h ?_⟩;simp only[F21,aAy,aEw,aEr,aIu,e1,RaK.S,Nat.zero_add,c1,n_1,show RaW.Z60=.pointer none from rfl,lkp,Option.map_some,fD,n0,l6,l8,n_3,show RaW.Z74=.agg ⟨[]⟩from rfl,lk,qH,qG,b0,s0];exact post false h3 x3 (by simp only[fT,hp,hc,or_true,if_true])
   ·rw[kD hc]at lk;have hoc:¬(p.open_=false∨n.client∈p.serve):=by rw[ho];simp[hc]
    have r3:=r.ext hB.next x3;have hB3':=hB.trans x3;have c0:=ld k2 (r3.ok .chk) 0 rfl;have g3:h3.get h.next=some (.cells (bH e v n) (some 0)):=by rw[x13.get _ (by omega)];exact g1
    have n_3':=ld k2 g3 3 rfl;have gp3:=r3.ok (.pub n.op) p hp;have p1:=ld k2 gp3 1 rfl;obtain⟨h4,e27,x34⟩:=T27 k2 hT hB3 hB3' r3 n.client p.msg.topic;have x4:=x3.trans x34;have hpm:=fun b h2 x he=>post b h2 x he
    cases hbest:(cG tak s n.client p.msg.topic).2 with
    |false=>
     rw[hbest]at e27;refine⟨0,aGs ok _ _ h ?_⟩;simp only[F21,aAy,aEw,aEr,aIu,aMo,aGh,aMn,aMm,e1,RaK.S,Nat.zero_add,c1,n_1,show RaW.Z60=.pointer none from rfl,lkp,Option.map_some,fD,n0,l6,l8,n_3,show RaW.Z74=.agg ⟨[]⟩from rfl,lk,qH,qG,b0,s0,c0,n_3',p1,Nat.add_zero,e27];exact post false h4 x4 (by simp only[fT,hp,kA hoc,hbest,if_true])
    |true=>
     rw[hbest]at e27;have g4:h4.get h.next=some (.cells (bH e v n) (some 0)):=by rw[x34.get _ (by have:=x13.next;omega)];exact g3
     have r4:=r.ext hB.next x4;have gp4:=r4.ok (.pub n.op) p hp;have nm4:A.load true 4 (.pointer (some ⟨h.next,28,none⟩)) h4=some (.agg ⟨aR n.msg⟩):=by rw[aV,g4];rfl
     have pm4:A.load true 4 (.pointer (some ⟨nm (.pub n.op),1,none⟩)) h4=some (.agg ⟨aR p.msg⟩):=by rw[aV,gp4];rfl
     obtain⟨h5,e31,x45⟩:=T31 k2 (h:=h4) p.msg (cG tak s n.client p.msg.topic).1 false;have x5:=x4.trans x45;have g5:h5.get h.next=some (.cells (bH e v n) (some 0)):=by rw[x45.get _ (by have:=x13.next;have:=x34.next;omega)];exact g4
     have nm5:A.load true 4 (.pointer (some ⟨h.next,28,none⟩)) h5=some (.agg ⟨aR n.msg⟩):=by rw[aV,g5];rfl
     have ck:AM.chk (bnd (A.load true 4 (.pointer (some ⟨h.next,28,none⟩)) h5) fun v=>some v) (.agg ⟨aR n.msg⟩)=true:=gU (by rw[nm5];rfl) (yT n.msg);have ne:=aXw n.msg (eG p.msg (cG tak s n.client p.msg.topic).1 false);have n34:=ld k2 g5 34 rfl;have n30:=ld k2 g5 30 rfl;have ht:¬((cG tak s n.client p.msg.topic).2=false):=by rw[hbest];simp
     by_cases hm:n.msg=eG p.msg (cG tak s n.client p.msg.topic).1 false
     ·rw[kC hm]at ne;by_cases hq:n.qos=n.msg.qos
      ·-- the loop
       have hq':decide ((n.qos:Int)=(n.msg.qos:Int))=true:=kC (by omega);have hno:¬(n.msg≠eG p.msg (cG tak s n.client p.msg.topic).1 false∨n.qos≠n.msg.qos):=by simp[←hm,hq]
       have r5:=r.ext hB.next x5;have hB5:=hB.trans x5;have c1':=ld k2 (r5.ok .chk) 1 rfl;obtain⟨bi,er,ei⟩:=gP (r5.ok .pubs) (r5.lt .pubs trivial).2;refine⟨s.pubs.length+1,aGs ok _ _ h ?_⟩;simp only[F21,aAy,aEw,aEr,aIu,aMo,aGh,aMn,aMm,aQs,bHq,e1,RaK.S,Nat.zero_add,c1,n_1,show RaW.Z60=.pointer none from rfl,lkp,Option.map_some,fD,n0,l6,l8,n_3,show RaW.Z74=.agg ⟨[]⟩from rfl,lk,qH,qG,b0,s0,c0,n_3',p1,Nat.add_zero,e27,nm4,pm4,e31,ck,Bool.and_true,ne,n34,n30,bP,hq',c1',er];have hn2:¬(s.pubs.any fun x=>oW n.client p x.2)=true→fT tak s n=(true,{s with pubs:=aL s.pubs n.op {p with serve:=lR p.serve n.client}}):=fun ha=>by
        simp only[fT,hp,kA hoc,kA ht,kA hno,ha];rfl
       refine bLx k2 r hB hp (by have:=x5.next;omega) (kF _) (by have:=x13.next;have:=x34.next;have:=x45.next;omega) _ _ (fun h2 x2 ha=>post false h2 x2 ?_) (fun h2 x2 g2 ha=>?_) (Nat.lt_succ_self _) ei (x5.trans (Ext.push h5 bi)) (by rw[(Ext.push h5 bi).get _ (by have:=x13.next;have:=x34.next;have:=x45.next;omega)];exact g5) (Nat.lt_succ_self _)
       ·simp only[fT,hp,kA hoc,kA ht,kA hno,ha,if_true]
       ·have r2:=r.ext hB.next x2;have gp2:=r2.ok (.pub n.op) p hp;have l8:=ld k2 gp2 8 rfl;have n_3:=ld k2 g2 3 rfl;have b74:A.zN RaW.Z74L []=some dI:=rfl;obtain⟨h3,u3,m3,a3⟩:=aEm (r2.ok (.serve n.op) p hp) n.client dI;rw[gH]at m3;simp only[bHp,RaK.S,Nat.zero_add,l8,n_3,b74,u3];have lv:=r2.lt (.serve n.op) ⟨p,hp⟩;rw[hn2 (by rw[ha];simp)];refine okU_iff.2 ⟨rfl,⟨nm,rfl,r2.pub (kG hB.next x2.next) hp (by rw[a3.1];exact kF _) (fun C=>C=.serve n.op) (fun C h=>.inr (.inr h)) (fun C hl hne=>a3.2 _ fun e=>hne (r2.inj _ _ hl ⟨p,hp⟩ e)) (fun _=>⟨rfl,rfl,rfl,rfl⟩) (fun _=>rfl) (fun h=>absurd rfl h) (fun e=>by cases e) (fun e=>by cases e) (fun _=>m3)⟩,a3.ext (hB.trans x2) lv.1,by rw[a3.1];exact x2.next⟩
      ·have hq':decide ((n.qos:Int)=(n.msg.qos:Int))=false:=kD (by omega);refine⟨0,aGs ok _ _ h ?_⟩;simp only[F21,aAy,aEw,aEr,aIu,aMo,aGh,aMn,aMm,e1,RaK.S,Nat.zero_add,c1,n_1,show RaW.Z60=.pointer none from rfl,lkp,Option.map_some,fD,n0,l6,l8,n_3,show RaW.Z74=.agg ⟨[]⟩from rfl,lk,qH,qG,b0,s0,c0,n_3',p1,Nat.add_zero,e27,nm4,pm4,e31,ck,Bool.and_true,ne,n34,n30,bP,hq'];exact post false h5 x5 (by simp only[fT,hp,kA hoc,kA ht,kB (show n.msg≠eG p.msg (cG tak s n.client p.msg.topic).1 false∨n.qos≠n.msg.qos from .inr hq)])
     ·rw[kD hm]at ne;refine⟨0,aGs ok _ _ h ?_⟩;simp only[F21,aAy,aEw,aEr,aIu,aMo,aGh,aMn,aMm,e1,RaK.S,Nat.zero_add,c1,n_1,show RaW.Z60=.pointer none from rfl,lkp,Option.map_some,fD,n0,l6,l8,n_3,show RaW.Z74=.agg ⟨[]⟩from rfl,lk,qH,qG,b0,s0,c0,n_3',p1,Nat.add_zero,e27,nm4,pm4,e31,ck,Bool.and_true,ne];exact post false h5 x5 (by simp only[fT,hp,kA hoc,kA ht,kB (show n.msg≠eG p.msg (cG tak s n.client p.msg.topic).1 false∨n.qos≠n.msg.qos from .inl hm)])
end
end Go.Proofs.YtpanfoafajepcaaGreatDoor.Ra

set_option maxRecDepth 100000
namespace Go.Proofs.YtpanfoafajepcaaGreatDoor.Ra
open Tryz (prog)
open Go Go.AM
open _root_.Ra
def atC (c:Bs):Col→Prop
 | .seat d| .lst d| .row d=>d=c
 |_=>False
def atO (o:Int):Col→Prop
 | .sb p| .flst p| .frow p| .past p| .still p| .got p=>p=o
 | .msgs p _=>p=o
 |_=>False
def atP (o:Int):Col→Prop
 | .pub p| .holds p| .serve p=>p=o
 |_=>False
section
variable {B h h':H}{nm nm':Col→Nat}{s:St}{a:Nat}
theorem Rep.seat (r:Rep B h nm s a)(hB:B.next≤h.next){c:Bs}{l:List (Bs×tG)}(hn:h.next≤h'.next)(oth:∀d,d≠c→aE l d=aE s.seats d)(onm:∀C,¬atC c C→nm' C=nm C)(ts:Prop)
 (get:∀C,live s nm C→¬atC c C→(ts→C≠.seats)→h'.get (nm C)=h.get (nm C))
 (key:¬ts→l.map (·.1)=s.seats.map (·.1)∧nm' (.seat c)=nm (.seat c))
 (map:ts→MapR h' (nm .seats) bO (l.map fun x=>(x.1,aB (nm' (.seat x.1)))))
 (ok:∀x,aE l c=some x→h'.get (nm' (.seat c))=some (.cells [aB (nm' (.lst c)),.int .i64 x.conn,.bool x.clean] (some 0))∧LstR h' (nm' (.lst c)) (nm' (.row c)) x.row)
 (new:∀C,atC c C→live {s with seats:=l} nm' C→(live s nm C∧nm' C=nm C)∨(h.next≤nm' C∧nm' C<h'.next))
 (dist:∀C C',atC c C→atC c C'→live {s with seats:=l} nm' C→live {s with seats:=l} nm' C'→h.next≤nm' C→nm' C=nm' C'→C=C'):Rep B h' nm' {s with seats:=l} a:=by
 have lv:∀C,¬atC c C→(live {s with seats:=l} nm' C↔live s nm C):=fun C hC=>by
  cases C with
  |seat d=>simp only[live,oth d hC]
  |lst d=>simp only[live,oth d hC]
  |row d=>simp only[live,oth d hC,onm (.row d) hC,onm (.lst d) hC]
  |frow o=>simp only[live,onm (.frow o) id,onm (.flst o) id]
  |_=>exact Iff.rfl
 refine r.upd (fun C=>atC c C∨(ts∧C=.seats)) hn hB (fun C h hT=>?_) (fun C h hT=>?_) (fun C C' l1 l2 t1 t2 hge he=>?_) (fun C hl hT=>?_) (fun C hT=>?_) (fun d o t=>⟨fun h=>?_,fun h=>?_,fun h=>?_,fun h=>absurd rfl h⟩) (fun C hT=>?_)
 ·have hC:¬atC c C:=fun e=>hT (.inl e);exact⟨(lv C hC).1 h,onm C hC⟩
 ·rcases hT with hT|⟨_,rfl⟩
  ·exact new C hT h
  ·exact .inl ⟨trivial,onm _ id⟩
 ·have seats_lt:∀C,C=.seats→¬h.next≤nm' C:=fun C e=>by
   subst e;have:=(r.lt .seats trivial).2;rw[onm .seats id];omega
  rcases t1 with t1|⟨_,e1⟩
  ·rcases t2 with t2|⟨_,e2⟩
   ·exact dist C C' t1 t2 l1 l2 hge he
   ·exact absurd (he▸hge) (seats_lt C' e2)
  ·exact absurd hge (seats_lt C e1)
 ·exact get C hl (fun e=>hT (.inl e)) fun t e=>hT (.inr ⟨t,e⟩)
 ·have hC:¬atC c C:=fun e=>hT (.inl e);have e:=onm C hC
  cases C with
  |seats=>
   have hts:¬ts:=fun t=>hT (.inr ⟨t,rfl⟩);refine⟨(key hts).1,e,fun d _=>?_⟩;by_cases hd:d=c
   ·rw[hd];exact(key hts).2
   ·exact onm (.seat d) hd
  |seat d=>exact⟨by simp only[cO,oth d hC],e,onm (.lst d) hC⟩
  |lst d=>exact⟨by simp only[cO,oth d hC],e,onm (.row d) hC⟩
  |row d=>exact⟨trivial,trivial⟩
  |chk=>exact⟨trivial,onm _ id,onm _ id,onm _ id,onm _ id⟩
  |mdl=>exact⟨trivial,onm _ id,onm _ id,onm _ id⟩
  |keep=>exact⟨trivial,onm _ id,onm _ id⟩
  |kept=>exact⟨rfl,onm _ id⟩
  |pubs=>exact⟨rfl,onm _ id,fun o _=>onm _ id⟩
  |pub o=>exact⟨rfl,onm _ id,onm _ id,onm _ id⟩
  |holds o=>exact⟨rfl,onm _ id⟩
  |serve o=>exact⟨rfl,onm _ id⟩
  |subs=>exact⟨rfl,onm _ id,fun o _=>onm _ id⟩
  |sb o=>exact⟨rfl,onm _ id,onm _ id,onm _ id,onm _ id,onm _ id⟩
  |flst o=>exact⟨rfl,onm _ id,onm _ id⟩
  |frow o=>exact⟨trivial,trivial⟩
  |past o=>exact⟨rfl,onm _ id,fun t=>onm _ id⟩
  |still o=>exact⟨rfl,onm _ id⟩
  |got o=>exact⟨rfl,onm _ id⟩
  |msgs o t=>exact⟨trivial,trivial⟩
 ·rcases h with h|⟨_,h⟩
  ·exact .inl h
  ·cases h
 ·rcases h with h|⟨_,h⟩
  ·exact h.elim
  ·cases h
 ·rcases h with h|⟨_,h⟩
  ·exact h.elim
  ·cases h
 ·rcases hT with hT|⟨t,rfl⟩
  ·cases C with
   |seat d=>cases hT;exact fun x hx=>(ok x hx).1
   |lst d=>cases hT;exact fun x hx=>(ok x hx).2
   |row d=>trivial
   |_=>exact hT.elim
  ·show MapR h' (nm' .seats) bO _;rw[onm .seats id];exact map t
theorem Rep.sub1 (r:Rep B h nm s a)(hB:B.next≤h.next){o:Int}{l:List (Int×Sb)}(hn:h.next≤h'.next)(oth:∀d,d≠o→aE l d=aE s.subs d)(onm:∀C,¬atO o C→nm' C=nm C)(ts:Prop)
 (get:∀C,live s nm C→¬atO o C→(ts→C≠.subs)→h'.get (nm C)=h.get (nm C))
 (key:¬ts→l.map (·.1)=s.subs.map (·.1)∧nm' (.sb o)=nm (.sb o))
 (map:ts→MapR h' (nm .subs) jQ (l.map fun x=>(x.1,aB (nm' (.sb x.1)))))
 (ok:∀b,aE l o=some b→h'.get (nm' (.sb o))=some (.cells (mR nm' o b) (some 0))∧(b.done=true→LstR h' (nm' (.flst o)) (nm' (.frow o)) b.filters)∧aOj h' nm' o b.past∧MapR h' (nm' (.still o)) bO (dZ b.still)∧MapR h' (nm' (.got o)) bO (dZ b.got))
 (new:∀C,atO o C→live {s with subs:=l} nm' C→(live s nm C∧nm' C=nm C)∨(h.next≤nm' C∧nm' C<h'.next))
 (dist:∀C C',atO o C→atO o C'→live {s with subs:=l} nm' C→live {s with subs:=l} nm' C'→h.next≤nm' C→nm' C=nm' C'→C=C'):Rep B h' nm' {s with subs:=l} a:=by
 have lv:∀C,¬atO o C→(live {s with subs:=l} nm' C↔live s nm C):=fun C hC=>by
  cases C with
  |sb d=>simp only[live,oth d hC]
  |flst d=>simp only[live,oth d hC]
  |past d=>simp only[live,oth d hC]
  |still d=>simp only[live,oth d hC]
  |got d=>simp only[live,oth d hC]
  |msgs d t=>simp only[live,oth d hC]
  |frow d=>simp only[live,oth d hC,onm (.frow d) hC,onm (.flst d) hC]
  |row d=>simp only[live,onm (.row d) id,onm (.lst d) id]
  |_=>exact Iff.rfl
 refine r.upd (fun C=>atO o C∨(ts∧C=.subs)) hn hB (fun C h hT=>?_) (fun C h hT=>?_) (fun C C' l1 l2 t1 t2 hge he=>?_) (fun C hl hT=>?_) (fun C hT=>?_) (fun d o' t=>⟨fun h=>?_,fun h=>?_,fun h=>?_,fun h=>absurd rfl h⟩) (fun C hT=>?_)
 ·have hC:¬atO o C:=fun e=>hT (.inl e);exact⟨(lv C hC).1 h,onm C hC⟩
 ·rcases hT with hT|⟨_,rfl⟩
  ·exact new C hT h
  ·exact .inl ⟨trivial,onm _ id⟩
 ·have seats_lt:∀C,C=.subs→¬h.next≤nm' C:=fun C e=>by
   subst e;have:=(r.lt .subs trivial).2;rw[onm .subs id];omega
  rcases t1 with t1|⟨_,e1⟩
  ·rcases t2 with t2|⟨_,e2⟩
   ·exact dist C C' t1 t2 l1 l2 hge he
   ·exact absurd (he▸hge) (seats_lt C' e2)
  ·exact absurd hge (seats_lt C e1)
 ·exact get C hl (fun e=>hT (.inl e)) fun t e=>hT (.inr ⟨t,e⟩)
 ·have hC:¬atO o C:=fun e=>hT (.inl e);have e:=onm C hC
  cases C with
  |subs=>
   have hts:¬ts:=fun t=>hT (.inr ⟨t,rfl⟩);refine⟨(key hts).1,e,fun d _=>?_⟩;by_cases hd:d=o
   ·rw[hd];exact(key hts).2
   ·exact onm (.sb d) hd
  |sb d=>exact⟨by simp only[cO,oth d hC],e,onm (.flst d) hC,onm (.past d) hC,onm (.still d) hC,onm (.got d) hC⟩
  |flst d=>exact⟨by simp only[cO,oth d hC],e,onm (.frow d) hC⟩
  |frow d=>exact⟨trivial,trivial⟩
  |past d=>exact⟨by simp only[cO,oth d hC],e,fun t=>onm (.msgs d t) hC⟩
  |still d=>exact⟨by simp only[cO,oth d hC],e⟩
  |got d=>exact⟨by simp only[cO,oth d hC],e⟩
  |msgs d t=>exact⟨trivial,trivial⟩
  |chk=>exact⟨trivial,onm _ id,onm _ id,onm _ id,onm _ id⟩
  |mdl=>exact⟨trivial,onm _ id,onm _ id,onm _ id⟩
  |keep=>exact⟨trivial,onm _ id,onm _ id⟩
  |kept=>exact⟨rfl,onm _ id⟩
  |pubs=>exact⟨rfl,onm _ id,fun o _=>onm _ id⟩
  |pub o=>exact⟨rfl,onm _ id,onm _ id,onm _ id⟩
  |holds o=>exact⟨rfl,onm _ id⟩
  |serve o=>exact⟨rfl,onm _ id⟩
  |seats=>exact⟨rfl,onm _ id,fun o _=>onm _ id⟩
  |seat o=>exact⟨rfl,onm _ id,onm _ id⟩
  |lst o=>exact⟨rfl,onm _ id,onm _ id⟩
  |row o=>exact⟨trivial,trivial⟩
 ·rcases h with h|⟨_,h⟩
  ·exact h.elim
  ·cases h
 ·rcases h with h|⟨_,h⟩
  ·exact .inl h
  ·cases h
 ·rcases h with h|⟨_,h⟩
  ·exact .inl h
  ·cases h
 ·rcases hT with hT|⟨t,rfl⟩
  ·cases C with
   |sb d=>cases hT;exact fun x hx=>(ok x hx).1
   |flst d=>cases hT;exact fun x hx=>(ok x hx).2.1
   |past d=>cases hT;exact fun x hx=>(ok x hx).2.2.1
   |still d=>cases hT;exact fun x hx=>(ok x hx).2.2.2.1
   |got d=>cases hT;exact fun x hx=>(ok x hx).2.2.2.2
   |frow d=>trivial
   |msgs d t=>trivial
   |_=>exact hT.elim
  ·show MapR h' (nm' .subs) jQ _;rw[onm .subs id];exact map t
theorem Rep.pub1 (r:Rep B h nm s a)(hB:B.next≤h.next){o:Int}{l:List (Int×Pub)}(hn:h.next≤h'.next)(oth:∀d,d≠o→aE l d=aE s.pubs d)(onm:∀C,¬atP o C→nm' C=nm C)
 (get:∀C,live s nm C→¬atP o C→C≠.pubs→h'.get (nm C)=h.get (nm C))
 (map:MapR h' (nm .pubs) jQ (l.map fun x=>(x.1,aB (nm' (.pub x.1)))))
 (ok:∀p,aE l o=some p→h'.get (nm' (.pub o))=some (.cells (aEn nm' o p) (some 0))∧MapR h' (nm' (.holds o)) bO (dZ p.holds)∧MapR h' (nm' (.serve o)) bO (dZ p.serve))
 (new:∀C,atP o C→live {s with pubs:=l} nm' C→(live s nm C∧nm' C=nm C)∨(h.next≤nm' C∧nm' C<h'.next))
 (dist:∀C C',atP o C→atP o C'→live {s with pubs:=l} nm' C→live {s with pubs:=l} nm' C'→h.next≤nm' C→nm' C=nm' C'→C=C'):Rep B h' nm' {s with pubs:=l} a:=by
 have lv:∀C,¬atP o C→(live {s with pubs:=l} nm' C↔live s nm C):=fun C hC=>by
  cases C with
  |pub d=>simp only[live,oth d hC]
  |holds d=>simp only[live,oth d hC]
  |serve d=>simp only[live,oth d hC]
  |frow d=>simp only[live,onm (.frow d) id,onm (.flst d) id]
  |row d=>simp only[live,onm (.row d) id,onm (.lst d) id]
  |_=>exact Iff.rfl
 refine r.upd (fun C=>atP o C∨C=.pubs) hn hB (fun C h hT=>?_) (fun C h hT=>?_) (fun C C' l1 l2 t1 t2 hge he=>?_) (fun C hl hT=>?_) (fun C hT=>?_) (fun d o' t=>⟨fun h=>?_,fun h=>?_,fun h=>?_,fun h=>absurd rfl h⟩) (fun C hT=>?_)
 ·have hC:¬atP o C:=fun e=>hT (.inl e);exact⟨(lv C hC).1 h,onm C hC⟩
 ·rcases hT with hT|rfl
  ·exact new C hT h
  ·exact .inl ⟨trivial,onm _ id⟩
 ·have seats_lt:∀C,C=.pubs→¬h.next≤nm' C:=fun C e=>by
   subst e;have:=(r.lt .pubs trivial).2;rw[onm .pubs id];omega
  rcases t1 with t1|e1
  ·rcases t2 with t2|e2
   ·exact dist C C' t1 t2 l1 l2 hge he
   ·exact absurd (he▸hge) (seats_lt C' e2)
  ·exact absurd hge (seats_lt C e1)
 ·exact get C hl (fun e=>hT (.inl e)) fun e=>hT (.inr e)
 ·have hC:¬atP o C:=fun e=>hT (.inl e);have e:=onm C hC
  cases C with
  |pubs=>exact absurd (.inr rfl) hT
  |pub d=>exact⟨by simp only[cO,oth d hC],e,onm (.holds d) hC,onm (.serve d) hC⟩
  |holds d=>exact⟨by simp only[cO,oth d hC],e⟩
  |serve d=>exact⟨by simp only[cO,oth d hC],e⟩
  |chk=>exact⟨trivial,onm _ id,onm _ id,onm _ id,onm _ id⟩
  |mdl=>exact⟨trivial,onm _ id,onm _ id,onm _ id⟩
  |keep=>exact⟨trivial,onm _ id,onm _ id⟩
  |kept=>exact⟨rfl,onm _ id⟩
  |subs=>exact⟨rfl,onm _ id,fun o _=>onm _ id⟩
  |sb o=>exact⟨rfl,onm _ id,onm _ id,onm _ id,onm _ id,onm _ id⟩
  |flst o=>exact⟨rfl,onm _ id,onm _ id⟩
  |frow o=>exact⟨trivial,trivial⟩
  |past o=>exact⟨rfl,onm _ id,fun t=>onm _ id⟩
  |still o=>exact⟨rfl,onm _ id⟩
  |got o=>exact⟨rfl,onm _ id⟩
  |msgs o t=>exact⟨trivial,trivial⟩
  |seats=>exact⟨rfl,onm _ id,fun o _=>onm _ id⟩
  |seat o=>exact⟨rfl,onm _ id,onm _ id⟩
  |lst o=>exact⟨rfl,onm _ id,onm _ id⟩
  |row o=>exact⟨trivial,trivial⟩
 ·rcases h with h|h
  ·exact h.elim
  ·cases h
 ·rcases h with h|h
  ·exact h.elim
  ·cases h
 ·rcases h with h|h
  ·exact h.elim
  ·cases h
 ·rcases hT with hT|rfl
  ·cases C with
   |pub d=>cases hT;exact fun x hx=>(ok x hx).1
   |holds d=>cases hT;exact fun x hx=>(ok x hx).2.1
   |serve d=>cases hT;exact fun x hx=>(ok x hx).2.2
   |_=>exact hT.elim
  ·show MapR h' (nm' .pubs) jQ _;rw[onm .pubs id];exact map
end
def FrameR (h:H)(nm:Col→Nat)(s:St)(h':H)(nm':Col→Nat)(s':St):Prop:=
 (∀j,j<h.next→(∀C,live s nm C→nm C≠j)→h'.get j=h.get j)∧(∀C,live s' nm' C→(∃C0,live s nm C0∧nm C0=nm' C)∨h.next≤nm' C)∧h.next≤h'.next
theorem FrameR.trans {h h1 h2:H}{nm nm1 nm2:Col→Nat}{s s1 s2:St}(x:FrameR h nm s h1 nm1 s1)(y:FrameR h1 nm1 s1 h2 nm2 s2):FrameR h nm s h2 nm2 s2:=by
 obtain⟨x1,x2,x3⟩:=x;obtain⟨y1,y2,y3⟩:=y;refine⟨fun j hj hn=>?_,fun C hC=>?_,by omega⟩
 ·rw[y1 j (by omega) fun C hC e=>?_]
  ·exact x1 j hj hn
  ·rcases x2 C hC with⟨C0,g1,g2⟩|g
   ·exact hn C0 g1 (by rw[g2,e])
   ·omega
 ·rcases y2 C hC with⟨C0,g1,g2⟩|g
  ·rcases x2 C0 g1 with⟨C1,f1,f2⟩|f
   ·exact .inl ⟨C1,f1,by rw[f2,g2]⟩
   ·exact .inr (by omega)
  ·exact .inr (by omega)
theorem FrameR.at {h h2 h3:H}{nm:Col→Nat}{s s':St}{i:Nat}(x:Ext h h2)(y:At i h2 h3)(hi:(∃C,live s nm C∧nm C=i)∨h.next≤i)(hl:∀C,live s' nm C→live s nm C):FrameR h nm s h3 nm s':=
 ⟨fun j hj hn=>by
  rw[y.2 j fun e=>?_]
  ·exact x.get j hj
  ·rcases hi with⟨C,h1,h2⟩|hi
   ·exact hn C h1 (by rw[h2,e])
   ·omega,fun C hC=>.inl ⟨C,hl C hC,rfl⟩,by rw[y.1];exact x.next⟩
theorem FrameR.ext {h h':H}{nm:Col→Nat}{s:St}(x:Ext h h'):FrameR h nm s h' nm s:=⟨fun j hj _=>x.get j hj,fun C hC=>.inl ⟨C,hC,rfl⟩,x.next⟩
theorem iF {nm nm':Col→Nat}{s:St}{c:Bs}{l:List (Bs×tG)}{n0:Nat}(oth:∀d,d≠c→aE l d=aE s.seats d)(onm:∀C,¬atC c C→nm' C=nm C)
 (new:∀C,atC c C→live {s with seats:=l} nm' C→(live s nm C∧nm' C=nm C)∨n0≤nm' C):∀C,live {s with seats:=l} nm' C→(∃C0,live s nm C0∧nm C0=nm' C)∨n0≤nm' C:=fun C hl=>by
 by_cases hC:atC c C
 ·exact(new C hC hl).imp_left fun h=>⟨C,h.1,h.2.symm⟩
 ·left;refine⟨C,?_,(onm C hC).symm⟩
  cases C with
  |seat d=>simpa only[live,oth d hC]using hl
  |lst d=>simpa only[live,oth d hC]using hl
  |row d=>simpa only[live,oth d hC,onm (.row d) hC,onm (.lst d) hC]using hl
  |frow o=>simpa only[live,onm (.frow o) id,onm (.flst o) id]using hl
  |_=>exact hl
theorem nO {nm nm':Col→Nat}{s:St}{o:Int}{l:List (Int×Sb)}{n0:Nat}(oth:∀d,d≠o→aE l d=aE s.subs d)(onm:∀C,¬atO o C→nm' C=nm C)
 (new:∀C,atO o C→live {s with subs:=l} nm' C→(live s nm C∧nm' C=nm C)∨n0≤nm' C):∀C,live {s with subs:=l} nm' C→(∃C0,live s nm C0∧nm C0=nm' C)∨n0≤nm' C:=fun C hl=>by
 by_cases hC:atO o C
 ·exact(new C hC hl).imp_left fun h=>⟨C,h.1,h.2.symm⟩
 ·left;refine⟨C,?_,(onm C hC).symm⟩
  cases C with
  |sb d=>simpa only[live,oth d hC]using hl
  |flst d=>simpa only[live,oth d hC]using hl
  |past d=>simpa only[live,oth d hC]using hl
  |still d=>simpa only[live,oth d hC]using hl
  |got d=>simpa only[live,oth d hC]using hl
  |msgs d t=>simpa only[live,oth d hC]using hl
  |frow d=>simpa only[live,oth d hC,onm (.frow d) hC,onm (.flst d) hC]using hl
  |row d=>simpa only[live,onm (.row d) id,onm (.lst d) id]using hl
  |_=>exact hl
end Go.Proofs.YtpanfoafajepcaaGreatDoor.Ra

set_option maxRecDepth 100000
namespace Go.Proofs.YtpanfoafajepcaaGreatDoor.Ra
open Tryz (prog)
open Tryz (prog)
open Go Go.AM RaA RaI RaW
open _root_.Ra
theorem Rep.keptM {B h h':H}{nm:Col→Nat}{s:St}{a:Nat}(r:Rep B h nm s a)(hB:B.next≤h.next){k:List (Bs×Msg)}(x:At (nm .kept) h h')(m:MapR h' (nm .kept) bO (k.map fun x=>(x.1,.agg ⟨aR x.2⟩))):Rep B h' nm {s with kept:=k} a:=by
 have lv:∀C,live {s with kept:=k} nm C↔live s nm C:=fun C=>by cases C<;>exact Iff.rfl
 refine r.upd (fun C=>C=.kept) (by rw[x.1];exact kF _) hB (fun C h _=>⟨(lv C).1 h,rfl⟩) (fun C h _=>.inl ⟨(lv C).1 h,rfl⟩) (fun C C' _ _ t1 t2 _ _=>by rw[t1,t2]) (fun C hl hT=>x.2 _ fun e=>hT (r.inj _ _ hl trivial e)) (fun C hT=>⟨?_,by cases C<;>simp[iY]⟩) (fun d o t=>⟨fun h=>?_,fun h=>?_,fun h=>?_,fun h=>absurd rfl h⟩) (fun C hT=>?_)
 ·cases C<;>simp[cO]
  exact absurd rfl hT
 ·cases h
 ·cases h
 ·cases h
 ·subst hT;exact m
def nmS (nm:Col→Nat)(c:Bs)(q p r:Nat):Col→Nat
 | .seat d=>if d=c then q else nm (.seat d)
 | .lst d=>if d=c then p else nm (.lst d)
 | .row d=>if d=c then r else nm (.row d)
 |C=>nm C
theorem lM {nm:Col→Nat}{c:Bs}{q p r:Nat}(C:Col)(h:¬atC c C):nmS nm c q p r C=nm C:=by
 cases C<;>first|rfl|exact kA h
theorem aIb (nm:Col→Nat)(c:Bs)(q p r:Nat):nmS nm c q p r (.seat c)=q∧nmS nm c q p r (.lst c)=p∧nmS nm c q p r (.row c)=r:=⟨kB rfl,kB rfl,kB rfl⟩
theorem bR {c:Bs}{C:Col}(h:atC c C):C=.seat c∨C=.lst c∨C=.row c:=by
 cases C<;>simp only[atC]at h<;>subst h<;>simp
theorem rH {κ α:Type}[DecidableEq κ]{f g:κ→Value}{c:κ}{v:Value}(hfg:∀d,d≠c→f d=g d):∀{l:List (κ×α)},(l.map (·.1)).Nodup→aL (l.map fun x=>(x.1,f x.1)) c v=aL (l.map fun x=>(x.1,g x.1)) c v
 |[],_=>rfl
 |(k,b)::r,h=>by
  simp only[List.map_cons,List.nodup_cons]at h;simp only[List.map_cons,aL];split
  ·rename_i e;subst e;congr 1;refine List.map_congr_left fun x hx=>?_;rw[hfg x.1 fun e=>h.1 (by rw[←e];exact List.mem_map_of_mem hx)]
  ·rename_i e;rw[hfg k e,rH hfg h.2]
theorem fP {κ α:Type}[DecidableEq κ]{f g:κ→Value}{c:κ}{a:α}(hfg:∀d,d≠c→f d=g d){l:List (κ×α)}(h:(l.map (·.1)).Nodup):aL (l.map fun x=>(x.1,f x.1)) c (g c)=(aL l c a).map fun x=>(x.1,g x.1):=by
 rw[rH hfg h,nR (fun c (_:α)=>g c) c a]
theorem Rep.keysS {B h:H}{nm:Col→Nat}{s:St}{a:Nat}(r:Rep B h nm s a):(s.seats.map (·.1)).Nodup:=by
 have:=(r.ok .seats).nodup
 rwa [List.map_map]at this
section
variable {D:CF}{T0:H}{fil nam:Bs→Bool}{tak:Bs→Bs→Bool}(k2:K2 D T0 fil nam tak){B h:H}{nm:Col→Nat}{s:St}{a:Nat}
include k2
theorem T51 (ht:HasT T0 h)(hn:3≤h.next)(m:Msg):∃h',CI D 51 [.agg ⟨aR m⟩] h=some (.bool (nam m.topic&&decide (m.qos≤2)),h')∧Ext h h':=by
 obtain⟨h1,hh1⟩:∃h1,h1=h.push (.cells (aR m) (some 0)):=⟨_,rfl⟩;have e1:A.box 4 (.agg ⟨aR m⟩) h=some (aB h.next,h1):=by rw[hh1];rfl
 have x1:Ext h h1:=by rw[hh1];exact Ext.push h _
 have g1:h1.get h.next=some (.cells (aR m) (some 0)):=by rw[hh1,H.get_push,kB rfl]
 have l0:=ld k2 g1 0 rfl;have l2:=ld k2 g1 2 rfl;have na:CI D 61 [str m.topic] h1=_:=eK (k2.na h1 m.topic (ht.ext k2.tab hn x1));have hq:decide ((m.qos:Int)≤2)=decide (m.qos≤2):=by rw[decide_eq_decide];omega
 refine⟨h1,bEv 0 _ h (k2.no 51 _ _ (by decide)) ?_,x1⟩
 cases hnm:nam m.topic with
 |true=>rw[hnm]at na;simp only[F51,aRe,e1,RaK.S,Nat.zero_add,l0,l2,na,dL,hq,Bool.true_and]
 |false=>rw[hnm]at na;simp only[F51,aRe,e1,RaK.S,Nat.zero_add,l0,l2,na,Bool.false_and]
theorem T36 (hT:HasT T0 B)(hB3:3≤B.next)(r:Rep B h nm s a)(hB:Ext B h)(m:Msg):∃h',CI D 36 [aB (nm .keep),.agg ⟨aR m⟩] h=some (.bool (dR nam s m).1,h')∧Rep B h' nm (dR nam s m).2 a∧Ext B h'∧h.next≤h'.next∧FrameR h nm s h' nm (dR nam s m).2:=by
 obtain⟨h1,hh1⟩:∃h1,h1=h.push (.cells (aR m) (some 0)):=⟨_,rfl⟩;have e1:A.box 4 (.agg ⟨aR m⟩) h=some (aB h.next,h1):=by rw[hh1];rfl
 have x1:Ext h h1:=by rw[hh1];exact Ext.push h _
 have g1:h1.get h.next=some (.cells (aR m) (some 0)):=by rw[hh1,H.get_push,kB rfl]
 have n1:h1.next=h.next+1:=by rw[hh1];rfl
 have lm:A.load true 4 (aB h.next) h1=some (.agg ⟨aR m⟩):=by rw[aV,g1];rfl
 have hB1:=hB.trans x1;obtain⟨h2,e2,x2⟩:=T51 k2 (hT.ext k2.tab hB3 hB1) (kG hB3 hB1.next) m;have n0:=tE (t:=54) (by kernel_rfl) (nm .keep);have x12:=x1.trans x2;have r2:=r.ext hB.next x12;have hB2:=hB.trans x12;have g2:h2.get h.next=some (.cells (aR m) (some 0)):=by rw[x2.get _ (by omega)];exact g1
 have q:=fun v h'=>bFe 0 (aB (nm .keep)) (.agg ⟨aR m⟩) h (r:=(v,h')) (k2.no 36 _ _ (by decide));unfold dR
 cases hb:(nam m.topic&&decide (m.qos≤2))with
 |false=>
  have hc:¬(nam m.topic=true∧m.qos≤2):=by
   intro e;rw[e.1,kC e.2]at hb;cases hb
  rw[hb]at e2;rw[kA hc];refine⟨h2,q _ _ ?_,r2,hB2,x12.next,FrameR.ext x12⟩;simp only[F36,aJh,aPa,e1,RaK.S,n0,lm,e2]
 |true=>
  have hc:nam m.topic=true∧m.qos≤2:=by
   rw[kO]at hb;exact⟨hb.1,of_decide_eq_true hb.2⟩
  rw[hb]at e2;rw[kB hc];have l1:=ld k2 g2 1 rfl;have l0:=ld k2 g2 0 rfl;have lt:=(r2.lt .kept trivial);have ep:A.zA prog .eql 9 (str m.payload) (.string ⟨⟨[]⟩⟩)=_:=dK m.payload [];by_cases hp:m.payload=[]
  ·rw[kC hp]at ep;have k0:=ld k2 (r2.ok .keep) 0 rfl;obtain⟨h3,u3,m3,a3⟩:=aRo (r2.ok .kept) m.topic;rw[nW (fun(_:Bs) (m:Msg)=>Value.agg ⟨aR m⟩)]at m3;refine⟨h3,q _ _ ?_,?_,a3.ext hB2 lt.1,by rw[a3.1];exact x12.next,FrameR.at x12 a3 (.inl ⟨.kept,trivial,rfl⟩) fun C hC=>by cases C<;>exact hC⟩
   ·simp only[F36,aJh,aPa,aUh,e1,RaK.S,n0,lm,e2,Nat.zero_add,l1,ep,k0,l0,u3]
   ·simp only[hp,if_true];exact r2.keptM (kG hB.next x12.next) a3 m3
  ·rw[kD hp]at ep;obtain⟨h3,hh3⟩:∃h3,h3=h2.put h.next (.cells (aR {m with retain:=true}) (some 0)):=⟨_,rfl⟩;have e3:A.store 1 (.pointer (some ⟨h.next,3,none⟩)) (.bool true) h2=some h3:=by rw[qU,g2,hh3];rfl
   have x3:Ext h h3:=by rw[hh3];exact Ext.put x12 _ _ (kF _)
   have g3:h3.get h.next=some (.cells (aR {m with retain:=true}) (some 0)):=by rw[hh3,H.get_put,kB rfl]
   have r3:=r.ext hB.next x3;have k0:=ld k2 (r3.ok .keep) 0 rfl;have t0:=ld k2 g3 0 rfl;have lm3:A.load true 4 (aB h.next) h3=some (.agg ⟨aR {m with retain:=true}⟩):=by rw[aV,g3];rfl
   obtain⟨h4,u4,m4,a4⟩:=aEm (r3.ok .kept) m.topic (.agg ⟨aR {m with retain:=true}⟩);rw[nR (fun(_:Bs) (m:Msg)=>Value.agg ⟨aR m⟩)]at m4;refine⟨h4,q _ _ ?_,?_,a4.ext (hB.trans x3) lt.1,by rw[a4.1];exact x3.next,FrameR.at x3 a4 (.inl ⟨.kept,trivial,rfl⟩) fun C hC=>by cases C<;>exact hC⟩
   ·simp only[F36,aJh,aPa,aUh,bHa,e1,RaK.S,n0,lm,e2,Nat.zero_add,l1,ep,e3,k0,t0,lm3,u4]
   ·simp only[hp,if_false];exact r3.keptM (kG hB.next x3.next) a4 m4
theorem T37 (r:Rep B h nm s a)(hB:Ext B h)(e:Nat→Value)(v:Value)(n:cU):∃h' nm' b,CI D 37 [aB (nm .mdl),cD e v n] h=some (.tuple ⟨[.bool b,.bool (aO s n).isSome]⟩,h')∧nm' .chk=nm .chk∧Rep B h' nm' ((aO s n).getD s) a∧Ext B h'∧h.next≤h'.next∧FrameR h nm s h' nm' ((aO s n).getD s):=by
 obtain⟨h1,hh1⟩:∃h1,h1=h.push (.cells (bH e v n) (some 0)):=⟨_,rfl⟩;have e1:A.box 35 (cD e v n) h=some (aB h.next,h1):=by rw[hh1];rfl
 have x1:Ext h h1:=by rw[hh1];exact Ext.push h _
 have n1:h1.next=h.next+1:=by rw[hh1];rfl
 have g1:h1.get h.next=some (.cells (bH e v n) (some 0)):=by rw[hh1,H.get_push,kB rfl]
 have r1:=r.ext hB.next x1;have hB1:=hB.trans x1;have n_3:=ld k2 g1 3 rfl;have n_2:=ld k2 g1 2 rfl;have n_12:=ld k2 g1 12 rfl;have e38:=T38 k2 r1 n.client;have q:=fun v' h'=>bFd 0 (aB (nm .mdl)) (cD e v n) h (r:=(v',h')) (k2.no 37 _ _ (by decide));have none_:aO s n=none→∃h' nm' b,some ((.tuple ⟨[.bool false,.bool false]⟩:Value),h1)=some (.tuple ⟨[.bool b,.bool (aO s n).isSome]⟩,h')∧nm' .chk=nm .chk∧Rep B h' nm' ((aO s n).getD s) a∧Ext B h'∧h.next≤h'.next∧FrameR h nm s h' nm' ((aO s n).getD s):=fun hz=>⟨h1,nm,false,by rw[hz];rfl,rfl,by rw[hz];exact r1,hB1,x1.next,by rw[hz];exact FrameR.ext x1⟩;have fresh:aO s n=some {s with seats:=aL s.seats n.client ⟨[],n.conn,n.clean⟩}→∃h' nm',(∀(x6:Value) (kn:Pk.K2 (Value×H)),aOz (CI D) h1 (aB (nm .mdl)) (aB h.next) (.bool false) x6 (fun x6 x3 x4 h=>aOy h x3 x4 x6 kn)=kn (.bool false) (.bool true) h')∧
  nm' .chk=nm .chk∧Rep B h' nm' ((aO s n).getD s) a∧Ext B h'∧h.next≤h'.next∧FrameR h nm s h' nm' ((aO s n).getD s):=by
  intro hz;rw[hz];obtain⟨h2,e28,lr,x2⟩:=T28 k2 (h:=h1);obtain⟨q,hq⟩:∃q,q=h2.next:=⟨_,rfl⟩;obtain⟨p,hp⟩:∃p,p=h1.next:=⟨_,rfl⟩;rw[←hp]at e28 lr;have hpq:p<q:=by rw[hq];exact lr.lt
  obtain⟨h3,hh3⟩:∃h3,h3=h2.push (.cells [aB p,.int .i64 0,.bool false] (some 0)):=⟨_,rfl⟩;have b3:A.zN RaI.Z97L [(0,1,aB p)]=some (.agg ⟨[aB p,.int .i64 0,.bool false]⟩):=rfl;have e3:A.box 3 (.agg ⟨[aB p,.int .i64 0,.bool false]⟩) h2=some (aB q,h3):=by rw[hh3,hq];rfl
  have x3:Ext h h3:=x1.trans (x2.trans (by rw[hh3];exact Ext.push h2 _));have r3:=r.ext hB.next x3;have m0:=ld k2 (r3.ok .mdl) 0 rfl;have g3:h3.get h.next=some (.cells (bH e v n) (some 0)):=by rw[hh3,H.get_push,kA (by have:=x2.next;omega),x2.get _ (by omega)];exact g1
  have n_3':=ld k2 g3 3 rfl;obtain⟨h4,u4,m4,a4⟩:=aEm (r3.ok .seats) n.client (aB q);have lts:=r.lt .seats trivial;have hqs:q≠nm .seats:=by have:=x2.next;omega
  have hps:p≠nm .seats:=by omega
  have g4:h4.get q=some (.cells [aB p,.int .i64 0,.bool false] (some 0)):=by rw[a4.2 _ hqs,hh3,hq,H.get_push,kB rfl]
  have g4n:h4.get h.next=some (.cells (bH e v n) (some 0)):=by rw[a4.2 _ (by omega)];exact g3
  have n_2':=ld k2 g4n 2 rfl;obtain⟨h5,hh5⟩:∃h5,h5=h4.put q (.cells [aB p,.int .i64 n.conn,.bool false] (some 0)):=⟨_,rfl⟩;have e5:A.store 1 (.pointer (some ⟨q,1,none⟩)) (.int .i64 n.conn) h4=some h5:=by rw[qU,g4,hh5];rfl
  have g5:h5.get q=some (.cells [aB p,.int .i64 n.conn,.bool false] (some 0)):=by rw[hh5,H.get_put,kB rfl]
  have g5n:h5.get h.next=some (.cells (bH e v n) (some 0)):=by rw[hh5,H.get_put,kA (by have:=x2.next;omega)];exact g4n
  have n_12':=ld k2 g5n 12 rfl;obtain⟨h6,hh6⟩:∃h6,h6=h5.put q (.cells [aB p,.int .i64 n.conn,.bool n.clean] (some 0)):=⟨_,rfl⟩;have e6:A.store 1 (.pointer (some ⟨q,2,none⟩)) (.bool n.clean) h5=some h6:=by rw[qU,g5,hh6];rfl
  have g6:h6.get q=some (.cells [aB p,.int .i64 n.conn,.bool n.clean] (some 0)):=by rw[hh6,H.get_put,kB rfl]
  have n6:h6.next=h2.next+1:=by rw[hh6,hh5,H.next_put,H.next_put,a4.1,hh3];rfl
  have oth6:∀j,j≠q→j≠nm .seats→h6.get j=h3.get j:=fun j h1 h2=>by rw[hh6,H.get_put,kA h1,hh5,H.get_put,kA h1,a4.2 _ h2]
  have old6:∀j,j<h.next→j≠nm .seats→h6.get j=h.get j:=fun j h1 h2=>by rw[oth6 j (by have:=x2.next;omega) h2];exact x3.get j h1
  have n26:h.next≤h6.next:=by have:=x2.next;omega
  obtain⟨a1,a2,a3⟩:=aIb nm n.client q p p;refine⟨h6,nmS nm n.client q p p,fun x6 kn=>?_,rfl,r.seat hB.next n26 (fun d hd=>by rw[aD,kA (Ne.symm hd)]) lM True (fun C hl hC ht=>old6 _ (r.lt C hl).2 fun e=>ht trivial (r.inj _ _ hl trivial e)) (fun h=>absurd trivial h) (fun _=>?_) (fun x hx=>?_) (fun C hC hl=>?_) (fun C C' hC hC' hl hl' _ he=>?_),⟨by have:=hB.next;omega,fun j hj=>by rw[old6 j (by have:=hB.next;omega) (by omega)];exact hB.get j hj⟩,n26,fun j hj hn=>old6 j hj fun e=>hn .seats trivial e.symm,iF (fun d hd=>by rw[aD,kA (Ne.symm hd)]) lM (fun C hC hl=>?_),n26⟩
  ·simp only[aOz,aOy,RaK.S,e28,b3,e3,m0,n_3',u4,n_2',e5,n_12',e6,Nat.zero_add,Nat.add_zero]
  ·have:=fP (a:=(⟨[],n.conn,n.clean⟩:tG)) (f:=fun d=>aB (nm (.seat d))) (g:=fun d=>aB (nmS nm n.client q p p (.seat d))) (c:=n.client) (fun d hd=>by simp only[nmS,kA hd]) r.keysS;rw[a1]at this;rw[←this];exact m4.congr (by rw[hh6,H.get_put,kA (Ne.symm hqs),hh5,H.get_put,kA (Ne.symm hqs)])
  ·rw[aD,kB rfl]at hx;cases hx;rw[a1,a2,a3];refine⟨g6,by simp,gF,⟨?_,by omega,.inl ⟨rfl,rfl⟩,by simp[sid]⟩,by simp[sid]⟩;rw[oth6 p (by omega) hps,hh3,H.get_push,kA (by omega)];exact lr.get
  ·rcases bR hC with rfl|rfl|rfl
   ·rw[a1];exact .inr ⟨by have:=x2.next;omega,by omega⟩
   ·rw[a2];exact .inr ⟨by omega,by omega⟩
   ·exact absurd (a3.trans a2.symm) hl.2
  ·rcases bR hC with rfl|rfl|rfl<;>rcases bR hC' with rfl|rfl|rfl
   ·rfl
   ·rw[a1,a2]at he;omega
   ·exact absurd (a3.trans a2.symm) hl'.2
   ·rw[a1,a2]at he;omega
   ·rfl
   ·exact absurd (a3.trans a2.symm) hl'.2
   ·exact absurd (a3.trans a2.symm) hl.2
   ·exact absurd (a3.trans a2.symm) hl.2
   ·rfl
  ·rcases bR hC with rfl|rfl|rfl
   ·rw[a1];exact .inr (by have:=x2.next;omega)
   ·rw[a2];exact .inr (by omega)
   ·exact absurd (a3.trans a2.symm) hl.2
 by_cases hc1:n.conn<1
 ·have hz:aO s n=none:=by unfold aO;rw[kB hc1]
  obtain⟨h',nm',b,w1,w2⟩:=none_ hz;refine⟨h',nm',b,q _ _ ?_,w2⟩;rw[←w1];simp only[F37,aCr,aFq,aCp,aFp,aFo,e1,RaK.S,Nat.zero_add,n_3,e38,n_2,zZ,kC hc1]
 have hd1:=kD hc1
 cases hs:aE s.seats n.client with
 |none=>
  rw[hs]at e38;have n0:A.zA prog .neq 94 (.pointer none) (.pointer none)=some (.bool false):=by kernel_rfl
  obtain⟨h',nm',w1,w2,w3,w4⟩:=fresh (by unfold aO;rw[kA hc1,hs]);have hz:aO s n=some {s with seats:=aL s.seats n.client ⟨[],n.conn,n.clean⟩}:=by unfold aO;rw[kA hc1,hs]
  refine⟨h',nm',false,q _ _ ?_,w2,w3,w4⟩;simp only[F37,aCr,aFq,aCp,aFp,aFo,aMh,e1,RaK.S,Nat.zero_add,n_3,e38,n_2,zZ,hd1,n0];rw[hz];exact w1 _ _
 |some x=>
  rw[hs]at e38;have n0:=aRn (t:=94) (by kernel_rfl) (nm (.seat n.client));have gs:=r1.ok (.seat n.client) x hs;have s1:=ld k2 gs 1 rfl;have s2:=ld k2 gs 2 rfl;by_cases hx:0<x.conn
  ·have hz:aO s n=none:=by unfold aO;simp only[kA hc1,hs,kB hx]
   obtain⟨h',nm',b,w1,w2⟩:=none_ hz;refine⟨h',nm',b,q _ _ ?_,w2⟩;rw[←w1];simp only[F37,aCr,aFq,aCp,aFp,aFo,e1,RaK.S,Nat.zero_add,n_3,e38,n_2,zZ,hd1,n0,s1,zY,kC hx]
  have hdx:=kD hx;have fr:¬(x.clean=false∧n.clean=false)→aO s n=some {s with seats:=aL s.seats n.client ⟨[],n.conn,n.clean⟩}:=fun hn=>by
   unfold aO;simp only[kA hc1,hs,kA hx,kA hn]
  cases hxc:x.clean with
  |true=>
   rw[hxc]at s2;have hz:=fr (by rw[hxc];simp);obtain⟨h',nm',w1,w2,w3,w4⟩:=fresh hz;refine⟨h',nm',false,q _ _ ?_,w2,w3,w4⟩;simp only[F37,aCr,aFq,aCp,aFp,aFo,aMh,e1,RaK.S,Nat.zero_add,n_3,e38,n_2,zZ,hd1,n0,s1,zY,hdx,s2];rw[hz];exact w1 _ _
  |false=>
   rw[hxc]at s2
   cases hnc:n.clean with
   |true=>
    have n12:=n_12;rw[hnc]at n12;have hz:=fr (by rw[hnc];simp);obtain⟨h',nm',w1,w2,w3,w4⟩:=fresh hz;refine⟨h',nm',false,q _ _ ?_,w2,w3,w4⟩;simp only[F37,aCr,aFq,aCp,aFp,aFo,aMh,e1,RaK.S,Nat.zero_add,Nat.add_zero,n_3,e38,n_2,zZ,hd1,n0,s1,zY,hdx,s2,n12];rw[hz];exact w1 _ _
   |false=>
    have n12:=n_12;rw[hnc]at n12;have hz:aO s n=some {s with seats:=aL s.seats n.client {x with conn:=n.conn,clean:=n.clean}}:=by
     unfold aO;simp only[kA hc1,hs,kA hx,kB (show x.clean=false∧n.clean=false from⟨hxc,hnc⟩)]
    have lq:=r.lt (.seat n.client) ⟨x,hs⟩;obtain⟨h2,hh2⟩:∃h2,h2=h1.put (nm (.seat n.client)) (.cells [aB (nm (.lst n.client)),.int .i64 n.conn,.bool x.clean] (some 0)):=⟨_,rfl⟩;have w2:A.store 1 (.pointer (some ⟨nm (.seat n.client),1,none⟩)) (.int .i64 n.conn) h1=some h2:=by rw[qU,gs,hh2];rfl
    have g2:h2.get (nm (.seat n.client))=some (.cells [aB (nm (.lst n.client)),.int .i64 n.conn,.bool x.clean] (some 0)):=by rw[hh2,H.get_put,kB rfl]
    have g2n:h2.get h.next=some (.cells (bH e v n) (some 0)):=by rw[hh2,H.get_put,kA (by omega)];exact g1
    have n12':=ld k2 g2n 12 rfl;obtain⟨h3,hh3⟩:∃h3,h3=h2.put (nm (.seat n.client)) (.cells [aB (nm (.lst n.client)),.int .i64 n.conn,.bool n.clean] (some 0)):=⟨_,rfl⟩;have w3:A.store 1 (.pointer (some ⟨nm (.seat n.client),2,none⟩)) (.bool n.clean) h2=some h3:=by rw[qU,g2,hh3];rfl
    have g3:h3.get (nm (.seat n.client))=some (.cells [aB (nm (.lst n.client)),.int .i64 n.conn,.bool n.clean] (some 0)):=by rw[hh3,H.get_put,kB rfl]
    have o3:∀j,j≠nm (.seat n.client)→h3.get j=h1.get j:=fun j hj=>by rw[hh3,H.get_put,kA hj,hh2,H.get_put,kA hj]
    have n3:h3.next=h1.next:=by rw[hh3,hh2];rfl
    refine⟨h3,nm,true,q _ _ ?_,rfl,?_,⟨by rw[n3];exact hB1.next,fun j hj=>by rw[o3 j (by omega)];exact hB1.get j hj⟩,by rw[n3];exact x1.next,?_⟩
    ·rw[hz];simp only[F37,aCr,aFq,aCp,aFp,aFo,aMh,aOz,aOy,e1,RaK.S,Nat.zero_add,Nat.add_zero,n_3,e38,n_2,zZ,hd1,n0,s1,zY,hdx,s2,n12,w2,n12',w3];rfl
    ·rw[hz];refine r1.seat hB1.next (by rw[n3];exact kF _) (fun d hd=>by rw[aD,kA (Ne.symm hd)]) (fun _ _=>rfl) False (fun C hl hC _=>o3 _ fun e=>hC (by have:=r1.inj C (.seat n.client) hl ⟨x,hs⟩ e;rw[this];exact rfl)) (fun _=>⟨cP hs,rfl⟩) (fun h=>h.elim) (fun y hy=>?_) (fun C hC hl=>.inl ⟨?_,rfl⟩) (fun C C' hC hC' hl hl' hge he=>?_)
     ·rw[aD,kB rfl]at hy;cases hy;refine⟨g3,?_⟩;have ls:=r1.ok (.lst n.client) x hs;exact ls.but (by rw[n3];exact kF _) (o3 _ fun e=>by have:=r1.inj (.lst n.client) (.seat n.client) ⟨x,hs⟩ ⟨x,hs⟩ e;cases this) fun hne=>o3 _ fun e=>by have:=r1.inj (.row n.client) (.seat n.client) ⟨⟨x,hs⟩,hne⟩ ⟨x,hs⟩ e;cases this
     ·rcases bR hC with rfl|rfl|rfl
      ·exact⟨x,hs⟩
      ·exact⟨x,hs⟩
      ·exact⟨⟨x,hs⟩,hl.2⟩
     ·have:live s nm C:=by
       rcases bR hC with rfl|rfl|rfl
       ·exact⟨x,hs⟩
       ·exact⟨x,hs⟩
       ·exact⟨⟨x,hs⟩,hl.2⟩
      have:=(r1.lt C this).2;omega
    ·rw[hz];have lv:∀C,atC n.client C→live {s with seats:=aL s.seats n.client {x with conn:=n.conn,clean:=n.clean}} nm C→live s nm C:=fun C hC hl=>by
      rcases bR hC with rfl|rfl|rfl
      ·exact⟨x,hs⟩
      ·exact⟨x,hs⟩
      ·exact⟨⟨x,hs⟩,hl.2⟩
     exact⟨fun j hj hn=>by rw[o3 j fun e=>hn (.seat n.client) ⟨x,hs⟩ e.symm];exact x1.get j hj,iF (fun d hd=>by rw[aD,kA (Ne.symm hd)]) (fun _ _=>rfl) (fun C hC hl=>.inl ⟨lv C hC hl,rfl⟩),by rw[n3];exact x1.next⟩
end
end Go.Proofs.YtpanfoafajepcaaGreatDoor.Ra

set_option maxRecDepth 100000
namespace Go.Proofs.YtpanfoafajepcaaGreatDoor.Ra
open Tryz (prog)
open Go Go.AM
open _root_.Ra
theorem qT:∀l:List UInt8,A.zV (l.map u8)=some l
 |[]=>rfl
 |b::l=>by
  show(A.zV (l.map u8)).map (fun r=>UInt8.ofNat ((b.toNat:Int).toNat)::r)=_;rw[qT l];simp
structure Buf (h:H)(v:Value)(q cap:Nat)(es:List UInt8):Prop where
 eq:v=.slice (some ⟨q,0,none⟩) es.length (2*cap+1)
 lt:q<h.next
 le:es.length≤cap
 get:∃cs,h.get q=some (.cells cs (some 1))∧cs.length=cap∧cs.take es.length=es.map u8
theorem Buf.keep {h h':H}{v:Value}{q cap:Nat}{es:List UInt8}(b:Buf h v q cap es)(hn:h.next≤h'.next)(hg:h'.get q=h.get q):Buf h' v q cap es:=by
 obtain⟨cs,g,r⟩:=b.get;exact⟨b.eq,kH b.lt hn,b.le,cs,by rw[hg];exact g,r⟩
theorem Buf.make (h:H){z:List Value}(hz:z.length=1)(cap:Nat)(hc:cap≤1100000000000):∃h',A.zP 1 1 z (.int .i64 0) (.int .i64 (cap:Int)) h=some (.slice (some ⟨h.next,0,none⟩) 0 (2*cap+1),h')∧Buf h' (.slice (some ⟨h.next,0,none⟩) 0 (2*cap+1)) h.next cap []∧Ext h h'∧h'.next=h.next+1:=by
 obtain⟨h',hh⟩:∃h',h'=h.push (.cells (A.zeros z cap) (some 1)):=⟨_,rfl⟩;have hl:∀n,(A.zeros z n).length=n:=fun n=>by rw[nM,hz,Nat.mul_one]
 refine⟨h',?_,⟨rfl,by rw[hh];exact Nat.lt_succ_self _,pR _,_,by rw[hh,H.get_push,kB rfl],hl cap,by simp⟩,by rw[hh];exact Ext.push h _,by rw[hh];rfl⟩;have e1:Nat.ble (1*cap) (2^47)=true:=ble_iff.2 (by omega);have e2:Nat.ble cap (2^47)=true:=ble_iff.2 (by omega);show(bif Nat.ble 0 cap&&Nat.ble (1*cap) (2^47)&&Nat.ble cap (2^47)then some (Value.slice (some ⟨h.next,0,none⟩) 0 (2*cap+1),h.push (.cells (A.zeros z cap) (some 1)))else none)=_
 rw[e1,e2,←hh,show Nat.ble 0 cap=true from ble_iff.2 (pR _)];rfl
theorem Buf.app1 {h:H}{v x:Value}{q cap:Nat}{es:List UInt8}{c:UInt8}(b:Buf h v q cap es)(he:A.elems 1 x h=some [u8 c])(hn:A.zD x=1)(hc:es.length+1≤cap):
 ∃v' h',A.zI 1 1 v x h=some (v',h')∧Buf h' v' q cap (es++[c])∧At q h h':=by
 obtain⟨cs,hg,hl,ht⟩:=b.get;rw[b.eq];have e0:Nat.beq 1 0=false:=rfl;have e1:Nat.ble (es.length+1) ((2*cap+1) / 2)=true:=ble_iff.2 (by omega);have e2:Nat.ble (0+(es.length+1)*1) cs.length=true:=ble_iff.2 (by omega);obtain⟨h',hh⟩:∃h',h'=h.put q (.cells (splice cs (0+es.length*1) [u8 c]) (some 1)):=⟨_,rfl⟩;refine⟨.slice (some ⟨q,0,none⟩) (es++[c]).length (2*cap+1),h',?_,⟨rfl,by rw[hh];exact b.lt,by rw[kL];exact hc,_,by rw[hh,H.get_put,kB rfl],?_,?_⟩,by rw[hh];exact At.put h q _⟩
 ·simp only[A.zI,he,hn,e0,cond_false,hg,e1,cond_true,e2,kL,List.length_singleton];rw[←hh]
 ·rw[aT];exact hl;simp only[List.length_singleton];omega
 ·have hle:es.length≤cs.length:=by omega
  simp only[splice,Nat.zero_add,Nat.mul_one];rw[List.take_append_of_le_length (by simp only[kL,kT,List.length_singleton];omega),List.map_append,ht];rw[pN (by simp)];rfl
theorem Buf.b2s {h:H}{v:Value}{q cap:Nat}{es:List UInt8}(b:Buf h v q cap es):A.b2s v h=some (str es):=by
 obtain⟨cs,hg,hl,ht⟩:=b.get;have hle:=b.le;have he:A.elems 1 v h=some (es.map u8):=by
  rw[b.eq];simp only[A.elems];by_cases h0:es.length=0
  ·have:es=[]:=List.length_eq_zero_iff.1 h0;subst this;rfl
  ·rw[show Nat.beq es.length 0=false by rw[T.beq_dec,kI];exact h0];simp only[cond_false,hg];rw[show Nat.ble (0+es.length*1) cs.length=true from ble_iff.2 (by omega)];simp only[cond_true,List.drop_zero,Nat.mul_one,ht]
 rw[b.eq]at he⊢;simp only[A.b2s,he,qT];rfl
theorem bMb (h:H){z:List Value}(hz:z.length=1)(a:Int)(b:UInt8)(ha:a=(b.toNat:Int)):∃h',A.zF 1 1 z [(0,1,.int .u8 a)] h=some (.slice (some ⟨h.next,0,none⟩) 1 3,h')∧A.elems 1 (.slice (some ⟨h.next,0,none⟩) 1 3) h'=some [u8 b]∧Ext h h'∧h'.next=h.next+1:=by
 subst ha;obtain⟨h',hh⟩:∃h',h'=h.push (.cells [u8 b] (some 1)):=⟨_,rfl⟩;refine⟨h',by rw[hh];exact bY h hz rfl rfl,?_,by rw[hh];exact Ext.push h _,by rw[hh];rfl⟩;have hg:h'.get h.next=some (.cells [u8 b] (some 1)):=by rw[hh,H.get_push,kB rfl]
 simp only[A.elems,hg];rfl
section
variable (fil:Bs→Bool)
theorem xZ {r:Row}(f:Bs)(q:Nat)(h:r.length≤16):(gE fil r f q).2.length≤16:=by
 unfold gE;split
 ·exact h
 ·split
  ·simpa using h
  ·split
   ·exact h
   ·rename_i h16;have:=nP r f;simp only[kL,kT,kM,kU];omega
theorem rC {r:Row}(f:Bs){q:Nat}(hq:q<256):(gE fil r f q).1<256:=by
 unfold gE;split
 ·show 128<256;omega
 ·split
  ·exact hq
  ·split
   ·show 128<256;omega
   ·exact hq
theorem aEf {r:Row}(f:Bs)(h:r.length≤16):(oZ r f).length≤16:=by
 unfold oZ;split
 ·simp only[kL,kT,kU];omega
 ·exact h
end
theorem lC {κ α:Type}[DecidableEq κ](c:κ)(a b:α):∀l:List (κ×α),aL (aL l c a) c b=aL l c b
 |[]=>by simp[aL]
 |(k,x)::r=>by
  simp only[aL];split
  ·rename_i e;subst e;simp[aL]
  ·rename_i e;simp only[aL,e,if_false,lC c a b r]
theorem eO {κ α:Type}[DecidableEq κ]{c:κ}{a:α}:∀{l:List (κ×α)},aE l c=some a→aL l c a=l
 |[],h=>by simp[aE]at h
 |(k,x)::r,h=>by
  simp only[aE]at h;simp only[aL];split
  ·rename_i e;rw[kB e]at h;cases h;rw[e]
  ·rename_i e;rw[kA e]at h;rw[eO h]
theorem Rep.frame {B h h':H}{nm:Col→Nat}{s:St}{a:Nat}(r:Rep B h nm s a)(hB:B.next≤h.next)(hn:h.next≤h'.next)(hg:∀C,live s nm C→h'.get (nm C)=h.get (nm C)):Rep B h' nm s a:=
 r.upd (fun _=>False) hn hB (fun _ h _=>⟨h,rfl⟩) (fun _ _ h=>h.elim) (fun _ _ _ _ h=>h.elim) (fun C hl _=>hg C hl)
  (fun C _=>⟨by cases C<;>simp[cO],by cases C<;>simp[iY]⟩) (fun _ _ _=>⟨id,id,id,fun h=>h rfl⟩) fun _ h=>h.elim
theorem Rep.row {B h h':H}{nm:Col→Nat}{s:St}{a:Nat}(r:Rep B h nm s a)(hB:Ext B h){c:Bs}{x:tG}(hs:aE s.seats c=some x){v:Value}(lr:ListR h (nm (.lst c)) v x.row)(hsv:∀i,sid v=some i→i=nm (.row c)){r':Row}(lt:ListTo h (nm (.lst c)) v h' r')(h16:r'.length≤16):
 ∃nm',nm' .chk=nm .chk∧nm' (.seat c)=nm (.seat c)∧Rep B h' nm' {s with seats:=aL s.seats c {x with row:=r'}} a∧Ext B h'∧h.next≤h'.next∧(∀C,live {s with seats:=aL s.seats c {x with row:=r'}} nm' C→(live s nm C∧nm' C=nm C)∨h.next≤nm' C)∧
  ∀j,j<h.next→(∀C,live s nm C→nm C≠j)→h'.get j=h.get j:=by
 obtain⟨v',lr',hsv',xb⟩:=lt;obtain⟨rr,hrr⟩:∃rr,rr=(sid v').getD (nm (.lst c)):=⟨_,rfl⟩;obtain⟨a1,a2,a3⟩:=aIb nm c (nm (.seat c)) (nm (.lst c)) rr;have lv:∀i,sid v=some i→live s nm (.row c):=fun i hi=>⟨⟨x,hs⟩,fun e=>lr.ne (by rw[hi,hsv i hi,e])⟩;have touched:∀j,(j=nm (.lst c)∨sid v=some j)→∃C,live s nm C∧atC c C∧nm C=j:=fun j hj=>by
  rcases hj with rfl|hj
  ·exact⟨.lst c,⟨x,hs⟩,rfl,rfl⟩
  ·exact⟨.row c,lv j hj,rfl,(hsv j hj).symm⟩
 have newrow:∀{l:List (Bs×tG)},live {s with seats:=l} (nmS nm c (nm (.seat c)) (nm (.lst c)) rr) (.row c)→(live s nm (.row c)∧rr=nm (.row c))∨(h.next≤rr∧rr<h'.next):=fun{l} hl=>by
  have hne:rr≠nm (.lst c):=fun e=>hl.2 (by rw[a3,a2,e])
  cases hv:sid v' with
  |none=>rw[hv]at hrr;exact absurd hrr hne
  |some i=>
   rw[hv]at hrr;have hrr:rr=i:=hrr;rcases hsv' i hv with h1|h1
   ·exact .inl ⟨lv i h1,hrr.trans (hsv i h1)⟩
   ·exact .inr ⟨by rw[hrr];exact h1,by rw[hrr];exact lr'.row.lt i hv⟩
 have hnew:∀C,atC c C→live {s with seats:=aL s.seats c {x with row:=r'}} (nmS nm c (nm (.seat c)) (nm (.lst c)) rr) C→(live s nm C∧nmS nm c (nm (.seat c)) (nm (.lst c)) rr C=nm C)∨(h.next≤nmS nm c (nm (.seat c)) (nm (.lst c)) rr C∧nmS nm c (nm (.seat c)) (nm (.lst c)) rr C<h'.next):=fun C hC hl=>by
  rcases bR hC with rfl|rfl|rfl
  ·exact .inl ⟨⟨x,hs⟩,a1⟩
  ·exact .inl ⟨⟨x,hs⟩,a2⟩
  ·rw[a3];exact newrow hl
 refine⟨nmS nm c (nm (.seat c)) (nm (.lst c)) rr,rfl,a1,?_,⟨kG hB.next xb.next,fun j hj=>?_⟩,xb.next,fun C hl=>?_,fun j hj hC=>xb.get j hj fun e=>?_⟩
 ·refine r.seat hB.next xb.next (fun d hd=>by rw[aD,kA (Ne.symm hd)]) lM False (fun C hl hC _=>xb.get _ (r.lt C hl).2 fun e=>?_) (fun _=>⟨cP hs,a1⟩) (fun h=>h.elim) (fun y hy=>?_) hnew (fun C C' hC hC' hl hl' hge he=>?_)
  ·obtain⟨C',g1,g2,g3⟩:=touched _ e;exact hC (by rw[←r.inj C' C g1 hl g3];exact g2)
  ·rw[aD,kB rfl]at hy;cases hy;rw[a1,a2,a3];refine⟨?_,h16,v',lr',fun i hi=>by rw[hrr,hi];rfl⟩;rw[xb.get _ (r.lt (.seat c) ⟨x,hs⟩).2 fun e=>?_]
   ·exact r.ok (.seat c) x hs
   ·obtain⟨C',g1,g2,g3⟩:=touched _ e;have:=r.inj C' (.seat c) g1 ⟨x,hs⟩ g3;subst this;rcases e with e|e
    ·have:=r.inj (.seat c) (.lst c) ⟨x,hs⟩ ⟨x,hs⟩ e;cases this
    ·have:=r.inj (.seat c) (.row c) ⟨x,hs⟩ (lv _ e) (hsv _ e);cases this
  ·have old:∀C,atC c C→C≠.row c→nmS nm c (nm (.seat c)) (nm (.lst c)) rr C<h.next:=fun C hC hr=>by
    rcases bR hC with rfl|rfl|rfl
    ·rw[a1];exact(r.lt (.seat c) ⟨x,hs⟩).2
    ·rw[a2];exact(r.lt (.lst c) ⟨x,hs⟩).2
    ·exact absurd rfl hr
   have h1:C=.row c:=Classical.byContradiction fun hr=>by have:=old C hC hr;omega
   have h2:C'=.row c:=Classical.byContradiction fun hr=>by have:=old C' hC' hr;omega
   rw[h1,h2]
 ·rw[xb.get j (kH hj hB.next) fun e=>?_]
  ·exact hB.get j hj
  ·obtain⟨C',g1,_,g3⟩:=touched _ e;have:=(r.lt C' g1).1;omega
 ·by_cases hC:atC c C
  ·exact(hnew C hC hl).imp_right (·.1)
  ·left;refine⟨?_,lM C hC⟩;have oth:∀d,d≠c→aE (aL s.seats c {x with row:=r'}) d=aE s.seats d:=fun d hd=>by rw[aD,kA (Ne.symm hd)]
   cases C with
   |seat d=>simpa only[live,oth d hC]using hl
   |lst d=>simpa only[live,oth d hC]using hl
   |row d=>simpa only[live,oth d hC,lM (.row d) hC,lM (.lst d) hC]using hl
   |_=>exact hl
 ·obtain⟨C',g1,_,g3⟩:=touched _ e;exact hC C' g1 g3
def FrameN (n0:Nat)(h:H)(nm:Col→Nat)(s:St)(h':H)(nm':Col→Nat)(s':St):Prop:=
 (∀j,j<n0→(∀C,live s nm C→nm C≠j)→h'.get j=h.get j)∧∀C,live s' nm' C→(∃C0,live s nm C0∧nm C0=nm' C)∨n0≤nm' C
theorem FrameN.trans {n0:Nat}{h h1 h2:H}{nm nm1 nm2:Col→Nat}{s s1 s2:St}(x:FrameN n0 h nm s h1 nm1 s1)(y:FrameN n0 h1 nm1 s1 h2 nm2 s2):FrameN n0 h nm s h2 nm2 s2:=by
 obtain⟨x1,x2⟩:=x;obtain⟨y1,y2⟩:=y;refine⟨fun j hj hn=>?_,fun C hC=>?_⟩
 ·rw[y1 j hj fun C hC e=>?_]
  ·exact x1 j hj hn
  ·rcases x2 C hC with⟨C0,g1,g2⟩|g
   ·exact hn C0 g1 (by rw[g2,e])
   ·omega
 ·rcases y2 C hC with⟨C0,g1,g2⟩|g
  ·rcases x2 C0 g1 with⟨C1,f1,f2⟩|f
   ·exact .inl ⟨C1,f1,by rw[f2,g2]⟩
   ·exact .inr (by omega)
  ·exact .inr g
theorem FrameN.refl {n0:Nat}{h:H}{nm:Col→Nat}{s:St}:FrameN n0 h nm s h nm s:=⟨fun _ _ _=>rfl,fun C hC=>.inl ⟨C,hC,rfl⟩⟩
theorem FrameN.same {n0:Nat}{h h':H}{nm:Col→Nat}{s:St}(hg:∀j,j<n0→h'.get j=h.get j):FrameN n0 h nm s h' nm s:=⟨fun j hj _=>hg j hj,fun C hC=>.inl ⟨C,hC,rfl⟩⟩
theorem FrameN.toR {h h':H}{nm nm':Col→Nat}{s s':St}(x:FrameN h.next h nm s h' nm' s')(hn:h.next≤h'.next):FrameR h nm s h' nm' s':=⟨x.1,x.2,hn⟩
theorem FrameR.toN {n0:Nat}{h h':H}{nm nm':Col→Nat}{s s':St}(x:FrameR h nm s h' nm' s')(hn:n0≤h.next):FrameN n0 h nm s h' nm' s':=
 ⟨fun j hj hn'=>x.1 j (by omega) hn',fun C hC=>(x.2.1 C hC).imp_right fun h=>by omega⟩
end Go.Proofs.YtpanfoafajepcaaGreatDoor.Ra

set_option maxRecDepth 100000
namespace Go.Proofs.YtpanfoafajepcaaGreatDoor.Ra
open Tryz (prog)
open Go Go.AM RaA RaI RaW
open _root_.Ra
section
variable {D:CF}{T0:H}{fil nam:Bs→Bool}{tak:Bs→Bs→Bool}(k2:K2 D T0 fil nam tak){B:H}{a:Nat}
include k2
theorem aXz (hT:HasT T0 B)(hB3:3≤B.next){v:Value}{n:cU}(no:NoteOk B v n)(kx:Pk.K1 (Value×H)){q p pc:Nat}{c:Bs}{L:Nat}:
 ∀(d i m:Nat) (h:H) (nm:Col→Nat) (s:St) (x:tG) (es:List UInt8) (x8:Value),i+d=n.subs.length→d<m→Rep B h nm s a→Ext B h→aE s.seats c=some x→nm (.seat c)=p→nm .chk=pc→Buf h x8 q n.subs.length es→es.length=i→(∀C,live s nm C→nm C≠q)→B.next≤q→
  ∃h' nm' x8',aGa (CI D) L kx m (.int .i64 (n.subs.length:Int)) (.int .i64 (i:Int)) (aB p) v x8 h=kx x8' h'∧nm' .chk=pc∧
   Rep B h' nm' {s with seats:=aL s.seats c {x with row:=(gL fil x.row (n.subs.drop i)).2}} a∧Ext B h'∧h.next≤h'.next∧Buf h' x8' q n.subs.length (es++(gL fil x.row (n.subs.drop i)).1.map UInt8.ofNat)∧FrameN q h nm s h' nm' {s with seats:=aL s.seats c {x with row:=(gL fil x.row (n.subs.drop i)).2}}:=by
 intro d
 induction d with
 |zero=>
  intro i m h nm s x es x8 hi hm r hB hs hp hpc b hes _ _;obtain⟨m,rfl⟩:∃r,m=r+1:=⟨m-1,by omega⟩;have hd:decide ((i:Int)<(n.subs.length:Int))=false:=kD (by omega);refine⟨h,nm,x8,?_,hpc,?_,hB,kF _,?_,?_⟩
  ·simp only[aGa,aPg,zZ,hd,RaK.S]
  ·rw[pM (by omega)];show Rep B h nm {s with seats:=aL s.seats c x} a;rw[eO hs];exact r
  ·rw[pM (by omega)];simpa[gL]using b
  ·rw[pM (by omega)];show FrameN q h nm s h nm {s with seats:=aL s.seats c x};rw[eO hs];exact FrameN.refl
 |succ d ih=>
  intro i m h nm s x es x8 hi hm r hB hs hp hpc b hes hq hqB;obtain⟨m,rfl⟩:∃r,m=r+1:=⟨m-1,by omega⟩;have hd:decide ((i:Int)<(n.subs.length:Int))=true:=kC (by omega);obtain⟨y,hy⟩:∃y,n.subs[i]?=some y:=⟨_,kN (by omega)⟩;have hys:=no.small y (List.mem_of_getElem? hy);obtain⟨off,qq,ei,l2⟩:=nH k2 (no.subs.ext hB) hy;obtain⟨h1,h2,e1,e2,l0,l1,x2,lt⟩:=jW k2 (h:=h) y;have hB2:=hB.trans x2;have r2:=r.ext hB.next x2;have sl:=ld k2 (r2.ok (.seat c) x hs) 0 rfl;rw[hp]at sl;obtain⟨h16,vv,lr,hsv⟩:=r2.ok (.lst c) x hs;obtain⟨h3,e29,lt3⟩:=T29 k2 (hT.ext k2.tab hB3 hB2) (kG hB3 hB2.next) h16 lr (by have:=(r2.lt (.lst c) ⟨x,hs⟩).1;omega) y.1 hys;obtain⟨nm3,k1,k3,r3,hB3',n23,hl3,hg3⟩:=r2.row hB2 hs lr hsv lt3 (xZ fil y.1 y.2 h16);have b2:=b.keep x2.next (x2.get q b.lt);have b3:=b2.keep n23 (hg3 q b2.lt fun C hC=>hq C hC);obtain⟨h4,e4,el4,x4,n4⟩:=bMb h3 (z:=RaI.Z5L) rfl ((gE fil x.row y.1 y.2).1:Int) (UInt8.ofNat (gE fil x.row y.1 y.2).1) (by
   have:=rC fil (r:=x.row) y.1 hys;rw[UInt8.toNat_ofNat',Nat.mod_eq_of_lt this])
  have b4:=b3.keep x4.next (x4.get q b3.lt);obtain⟨x8',h5,e5,b5,a5⟩:=b4.app1 el4 rfl (by omega);have hq3:∀C,live {s with seats:=aL s.seats c {x with row:=(gE fil x.row y.1 y.2).2}} nm3 C→nm3 C≠q:=fun C hC=>by
   rcases hl3 C hC with⟨g1,g2⟩|g1
   ·rw[g2];exact hq C g1
   ·have:=b2.lt;omega
  have n5:h3.next≤h5.next:=by rw[a5.1];exact x4.next
  have r5:Rep B h5 nm3 {s with seats:=aL s.seats c {x with row:=(gE fil x.row y.1 y.2).2}} a:=r3.frame hB3'.next n5 fun C hC=>by
   rw[a5.2 _ (hq3 C hC),x4.get _ (r3.lt C hC).2]
  have hB5:Ext B h5:=a5.ext (hB3'.trans x4) hqB;have w2:A.zA prog .add 3 (.int .i64 (i:Int)) (.int .i64 1)=some (.int .i64 ((i+1:Nat):Int)):=by rw[bG,aS (by have:=no.len;omega)]
  obtain⟨h',nm',x8'',e,g1,g2,g3,g4,g5,g6⟩:=ih (i+1) m h5 nm3 _ {x with row:=(gE fil x.row y.1 y.2).2} (es++[UInt8.ofNat (gE fil x.row y.1 y.2).1]) x8' (by omega) (by omega) r5 hB5 (by rw[aD,kB rfl]) (k3.trans hp) (k1.trans hpc) b5 (by simp[hes]) hq3 hqB;simp only[lC]at g2 g6;rw[show n.subs.drop i=y::n.subs.drop (i+1)from bT hy];refine⟨h',nm',x8'',?_,g1,g2,g3,?_,?_,?_⟩
  ·simp only[aGa,aPg,zZ,hd,RaK.S,ei,l2,e1,e2,sl,Nat.zero_add,l0,l1,e29,e4,e5,w2,e]
  ·have:=x2.next;omega
  ·simpa[gL,pU]using g5
  ·have hq2:=b2.lt;have f1:FrameN q h nm s h2 nm s:=FrameN.same fun j hj=>x2.get j (by have:=b.lt;omega);have f2:FrameN q h2 nm s h3 nm3 {s with seats:=aL s.seats c {x with row:=(gE fil x.row y.1 y.2).2}}:=(show FrameR h2 nm s h3 nm3 {s with seats:=aL s.seats c {x with row:=(gE fil x.row y.1 y.2).2}}from⟨hg3,fun C hC=>(hl3 C hC).imp_left fun h=>⟨C,h.1,h.2.symm⟩,n23⟩).toN (by omega);have f3:FrameN q h3 nm3 {s with seats:=aL s.seats c {x with row:=(gE fil x.row y.1 y.2).2}} h5 nm3 {s with seats:=aL s.seats c {x with row:=(gE fil x.row y.1 y.2).2}}:=FrameN.same fun j hj=>by rw[a5.2 j (by omega),x4.get j (by have:=b3.lt;omega)]
   exact((f1.trans f2).trans f3).trans g6
theorem aXy (hB3:3≤B.next){v:Value}{n:cU}(no:NoteOk B v n)(kx:Pk.K0 (Value×H)){p pc:Nat}{c:Bs}{L:Nat}:
 ∀(d i m:Nat) (h:H) (nm:Col→Nat) (s:St) (x:tG),i+d=n.subs.length→d<m→Rep B h nm s a→Ext B h→aE s.seats c=some x→nm (.seat c)=p→nm .chk=pc→
  ∃h' nm',aGb (CI D) L kx m (.int .i64 (n.subs.length:Int)) (.int .i64 (i:Int)) (aB p) v h=kx h'∧nm' .chk=pc∧
   Rep B h' nm' {s with seats:=aL s.seats c {x with row:=(n.subs.drop i).foldl (fun r y=>oZ r y.1) x.row}} a∧Ext B h'∧h.next≤h'.next∧FrameR h nm s h' nm' {s with seats:=aL s.seats c {x with row:=(n.subs.drop i).foldl (fun r y=>oZ r y.1) x.row}}:=by
 intro d
 induction d with
 |zero=>
  intro i m h nm s x hi hm r hB hs hp hpc;obtain⟨m,rfl⟩:∃r,m=r+1:=⟨m-1,by omega⟩;have hd:decide ((i:Int)<(n.subs.length:Int))=false:=kD (by omega);refine⟨h,nm,?_,hpc,?_,hB,kF _,?_⟩
  ·simp only[aGb,aPh,zZ,hd,RaK.S]
  ·rw[pM (by omega)];show Rep B h nm {s with seats:=aL s.seats c x} a;rw[eO hs];exact r
  ·rw[pM (by omega)];show FrameR h nm s h nm {s with seats:=aL s.seats c x};rw[eO hs];exact FrameR.ext (Ext.refl h)
 |succ d ih=>
  intro i m h nm s x hi hm r hB hs hp hpc;obtain⟨m,rfl⟩:∃r,m=r+1:=⟨m-1,by omega⟩;have hd:decide ((i:Int)<(n.subs.length:Int))=true:=kC (by omega);obtain⟨y,hy⟩:∃y,n.subs[i]?=some y:=⟨_,kN (by omega)⟩;obtain⟨off,qq,ei,l2⟩:=nH k2 (no.subs.ext hB) hy;obtain⟨h1,h2,e1,e2,l0,l1,x2,lt⟩:=jW k2 (h:=h) y;have hB2:=hB.trans x2;have r2:=r.ext hB.next x2;have sl:=ld k2 (r2.ok (.seat c) x hs) 0 rfl;rw[hp]at sl;obtain⟨h16,vv,lr,hsv⟩:=r2.ok (.lst c) x hs;obtain⟨h3,bb,e39,lt3⟩:=T39 k2 (kG hB3 hB2.next) h16 lr y.1;obtain⟨nm3,k1,k3,r3,hB3',n23,hl3,hg3⟩:=r2.row hB2 hs lr hsv lt3 (aEf y.1 h16);have w2:A.zA prog .add 3 (.int .i64 (i:Int)) (.int .i64 1)=some (.int .i64 ((i+1:Nat):Int)):=by rw[bG,aS (by have:=no.len;omega)]
  obtain⟨h',nm',e,g1,g2,g3,g4,g5⟩:=ih (i+1) m h3 nm3 _ {x with row:=oZ x.row y.1} (by omega) (by omega) r3 hB3' (by rw[aD,kB rfl]) (k3.trans hp) (k1.trans hpc);simp only[lC]at g2 g5;rw[show n.subs.drop i=y::n.subs.drop (i+1)from bT hy];refine⟨h',nm',?_,g1,g2,g3,by have:=x2.next;omega,((FrameR.ext x2).trans (show FrameR h2 nm s h3 nm3 _ from⟨hg3,fun C hC=>(hl3 C hC).imp_left fun h=>⟨C,h.1,h.2.symm⟩,n23⟩)).trans g5⟩;simp only[aGb,aPh,zZ,hd,RaK.S,ei,l2,e1,e2,sl,Nat.zero_add,l0,e39,w2,e]
omit k2 in
theorem bLl {t:Nat}(ht:(prog.underlying t).map (fun d=>match d with| .map _ _=>true|_=>false)=some true)(l:Nat):A.zA prog .eql t (aP l) (.map none)=some (.bool false):=by
 obtain⟨d,hd,h1⟩:=Option.map_eq_some_iff.1 ht;cases d<;>simp at h1
 simp[A.zA,A.yP,aJ,A.yG,hd]
theorem T26 {h:H}{nm:Col→Nat}{s:St}(hT:HasT T0 B)(hB3:3≤B.next)(r:Rep B h nm s a)(hB:Ext B h)(e:Nat→Value)(v:Value)(n:cU)(no:NoteOk B v n):
 ∃h' nm' b,CI D 26 [aB (nm .mdl),cD e v n] h=some (.tuple ⟨[str (((bL fil nam s n).1.getD []).map UInt8.ofNat),.bool b,.bool (bL fil nam s n).1.isSome]⟩,h')∧nm' .chk=nm .chk∧Rep B h' nm' (bL fil nam s n).2 a∧Ext B h'∧FrameR h nm s h' nm' (bL fil nam s n).2:=by
 obtain⟨h1,hh1⟩:∃h1,h1=h.push (.cells (bH e v n) (some 0)):=⟨_,rfl⟩;have e1:A.box 35 (cD e v n) h=some (aB h.next,h1):=by rw[hh1];rfl
 have x1:Ext h h1:=by rw[hh1];exact Ext.push h _
 have n1:h1.next=h.next+1:=by rw[hh1];rfl
 have g1:h1.get h.next=some (.cells (bH e v n) (some 0)):=by rw[hh1,H.get_push,kB rfl]
 have r1:=r.ext hB.next x1;have hB1:=hB.trans x1;have n_0:=ld k2 g1 0 rfl;have n_2:=ld k2 g1 2 rfl;have n_3:=ld k2 g1 3 rfl;have n_4:=ld k2 g1 4 rfl;have n_26:=ld k2 g1 26 rfl;have l35:A.load true 35 (aB h.next) h1=some (cD e v n):=by rw[aV,g1];rfl
 have l4:A.load true 4 (.pointer (some ⟨h.next,28,none⟩)) h1=some (.agg ⟨aR n.msg⟩):=by rw[aV,g1];rfl
 have m0:=ld k2 (r1.ok .mdl) 0 rfl;have m1:=ld k2 (r1.ok .mdl) 1 rfl;have z43:=tE (t:=43) (by kernel_rfl) (nm .mdl);have z53:=bLl (t:=53) (by kernel_rfl) (nm .seats);have q:=fun L v' h'=>bFm L (aB (nm .mdl)) (cD e v n) h (r:=(v',h')) (k2.no 26 _ _ (by decide));have ex:∀{o:Option (List Nat)×St} {h2:H} {nm2:Col→Nat},bL fil nam s n=o→nm2 .chk=nm .chk→Rep B h2 nm2 o.2 a→Ext B h2→FrameR h nm s h2 nm2 o.2→∀b,CI D 26 [aB (nm .mdl),cD e v n] h=some (.tuple ⟨[str ((o.1.getD []).map UInt8.ofNat),.bool b,.bool o.1.isSome]⟩,h2)→
  ∃h' nm' b,CI D 26 [aB (nm .mdl),cD e v n] h=some (.tuple ⟨[str (((bL fil nam s n).1.getD []).map UInt8.ofNat),.bool b,.bool (bL fil nam s n).1.isSome]⟩,h')∧nm' .chk=nm .chk∧Rep B h' nm' (bL fil nam s n).2 a∧Ext B h'∧FrameR h nm s h' nm' (bL fil nam s n).2:=fun ho a1 a2 a3 a4 b hb=>⟨_,_,b,by rw[ho];exact hb,a1,by rw[ho];exact a2,a3,by rw[ho];exact a4⟩
 by_cases h5:n.kind=5
 ·have d5:decide ((n.kind:Int)=5)=true:=kC (by omega);obtain⟨h2,e36,r2,hB2,n2,f2⟩:=T36 k2 hT hB3 r1 hB1 n.msg;refine ex (o:=(if(dR nam s n.msg).1 then some []else none,(dR nam s n.msg).2)) (by unfold bL;rw[kB h5]) rfl r2 hB2 ((FrameR.ext x1).trans f2) false (q 0 _ _ ?_)
  cases hk:(dR nam s n.msg).1 with
  |true=>
   rw[hk]at e36;simp only[F26,nF,qE,nE,qD,aUm,e1,RaK.S,z43,Nat.zero_add,m0,m1,z53,n_0,zQ,d5,l4,e36];rfl
  |false=>
   rw[hk]at e36;simp only[F26,nF,qE,nE,qD,aUm,e1,RaK.S,z43,Nat.zero_add,m0,m1,z53,n_0,zQ,d5,l4,e36];rfl
 have d5:decide ((n.kind:Int)=5)=false:=kD (by omega);by_cases h2:n.kind=2
 case neg=>
  have d2:decide ((n.kind:Int)=2)=false:=kD (by omega);refine ex (o:=(some [],s)) (by unfold bL;rw[kA h5,kB h2]) rfl r1 hB1 (FrameR.ext x1) false (q 0 _ _ ?_);simp only[F26,nF,qE,nE,qD,sN,e1,RaK.S,z43,Nat.zero_add,m0,z53,n_0,zQ,d5,bP,d2];rfl
 have d2:decide ((n.kind:Int)=2)=true:=kC (by omega);have h2':¬n.kind≠2:=fun e=>e h2;by_cases hp1:n.ptype=1
 ·have p1:decide ((n.ptype:Int)=1)=true:=kC (by omega);obtain⟨h3,nm3,b,e37,k3,r3,hB3',n3,f3⟩:=T37 k2 r1 hB1 e v n;have t0:A.zB 0 (.tuple ⟨[.bool b,.bool (aO s n).isSome]⟩)=some (.bool b):=rfl;have t1:A.zB 1 (.tuple ⟨[.bool b,.bool (aO s n).isSome]⟩)=some (.bool (aO s n).isSome):=rfl;refine ex (o:=(if(aO s n).isSome then some []else none,(aO s n).getD s)) (by unfold bL;rw[kA h5,kA h2',kB hp1];cases aO s n<;>rfl) k3 r3 hB3' ((FrameR.ext x1).trans f3) b (q 0 _ _ ?_)
  cases hz:(aO s n).isSome with
  |true=>
   rw[hz]at e37 t0 t1;simp only[F26,nF,qE,nE,qD,sN,e1,RaK.S,z43,Nat.zero_add,Nat.add_zero,m0,z53,n_0,zQ,d5,bP,d2,n_4,p1,l35,e37,t0,t1];rfl
  |false=>
   rw[hz]at e37 t0 t1;simp only[F26,nF,qE,nE,qD,sN,e1,RaK.S,z43,Nat.zero_add,Nat.add_zero,m0,z53,n_0,zQ,d5,bP,d2,n_4,p1,l35,e37,t0,t1];rfl
 have p1:decide ((n.ptype:Int)=1)=false:=kD (by omega);have e38:=T38 k2 r1 n.client;have ap:bL fil nam s n=(match aE s.seats n.client with
  |none=>(none,s)
  |some x=>
   if n.conn<1∨x.conn≠n.conn then(none,s)
   else if n.ptype=8 then(some (gL fil x.row n.subs).1,{s with seats:=aL s.seats n.client {x with row:=(gL fil x.row n.subs).2}})
   else if n.ptype=10 then(some [],{s with seats:=aL s.seats n.client {x with row:=n.subs.foldl (fun r y=>oZ r y.1) x.row}})
   else if n.ptype=14∨n.ptype=0 then(some [],{s with seats:=if x.clean then fL s.seats n.client else aL s.seats n.client {x with conn:=0}})
   else(none,s)):=by unfold bL;rw[kA h5,kA h2',kA hp1];rfl
 cases hs:aE s.seats n.client with
 |none=>
  rw[hs]at e38 ap;have z94:A.zA prog .eql 94 (.pointer none) (.pointer none)=some (.bool true):=by kernel_rfl
  refine ex (o:=(none,s)) ap rfl r1 hB1 (FrameR.ext x1) false (q 0 _ _ ?_);simp only[F26,nF,qE,nE,qD,sN,xP,tD,xO,xN,e1,RaK.S,z43,Nat.zero_add,Nat.add_zero,m0,z53,n_0,zQ,d5,bP,d2,n_4,p1,n_3,e38,z94];rfl
 |some x=>
  rw[hs]at e38 ap;have z94:=tE (t:=94) (by kernel_rfl) (nm (.seat n.client));have gs:=r1.ok (.seat n.client) x hs;have s1:=ld k2 gs 1 rfl;by_cases hc1:n.conn<1
  ·refine ex (o:=(none,s)) (by rw[ap];simp only[kB (show n.conn<1∨x.conn≠n.conn from .inl hc1)]) rfl r1 hB1 (FrameR.ext x1) false (q 0 _ _ ?_);simp only[F26,nF,qE,nE,qD,sN,xP,tD,xO,xN,e1,RaK.S,z43,Nat.zero_add,Nat.add_zero,m0,z53,n_0,zQ,d5,bP,d2,n_4,p1,n_3,e38,z94,n_2,zZ,kC hc1];rfl
  have dc:=kD hc1;by_cases hxc:x.conn=n.conn
  case neg=>
   refine ex (o:=(none,s)) (by rw[ap];simp only[kB (show n.conn<1∨x.conn≠n.conn from .inr hxc)]) rfl r1 hB1 (FrameR.ext x1) false (q 0 _ _ ?_);simp only[F26,nF,qE,nE,qD,sN,xP,tD,xO,xN,e1,RaK.S,z43,Nat.zero_add,Nat.add_zero,m0,z53,n_0,zQ,d5,bP,d2,n_4,p1,n_3,e38,z94,n_2,zZ,dc,s1,kD hxc];rfl
  have dxc:=kC hxc;have hcc:¬(n.conn<1∨x.conn≠n.conn):=fun h=>h.elim hc1 fun h=>h hxc;simp only[kA hcc]at ap;have no1:=no.subs.ext hB1;have ln:A.zH v=some (.int .i64 (n.subs.length:Int)):=by have:=no1.len.1;rwa [bM,pA]at this
  by_cases hp8:n.ptype=8
  ·rw[kB hp8]at ap;have p8:decide ((n.ptype:Int)=8)=true:=kC (by omega);obtain⟨h3,e3,b3,x3,n3⟩:=Buf.make h1 (z:=RaI.Z5L) rfl n.subs.length (by have:=no.len;omega);have r3:=r1.ext hB1.next x3;have hB3':=hB1.trans x3;have g3:h3.get h.next=some (.cells (bH e v n) (some 0)):=by rw[x3.get _ (by omega)];exact g1
   have n_26':=ld k2 g3 26 rfl;obtain⟨h',nm',x8',el,k',r',hB',n',b',f'⟩:=aXz k2 hT hB3 no (fun x8 h=>aPf h x8 fun x4 x5 x6 h=>some (Value.tuple ⟨[x4,x5,x6]⟩,h)) (q:=h1.next) (L:=n.subs.length+1) n.subs.length 0 (n.subs.length+1) h3 nm s x [] _ (by omega) (by omega) r3 hB3' hs rfl rfl b3 rfl (fun C hC=>by have:=(r1.lt C hC).2;omega) hB1.next;rw[List.drop_zero]at r' b' f';refine ex ap k' r' hB' (FrameN.toR (((FrameN.same fun j hj=>(x1.trans x3).get j hj).trans ⟨fun j hj hn=>f'.1 j (by omega) hn,fun C hC=>(f'.2 C hC).imp_right fun h=>by omega⟩)) (by omega)) false (q (n.subs.length+1) _ _ ?_);have el:aGa (CI D) _ (fun x8 h=>aPf h x8 fun x4 x5 x6 h=>some (Value.tuple ⟨[x4,x5,x6]⟩,h)) (n.subs.length+1) (.int .i64 (n.subs.length:Int)) (.int .i64 0) (aB (nm (.seat n.client))) v _ h3=_:=el;have bb:A.b2s x8' h'=_:=b'.b2s;simp only[F26,nF,qE,nE,qD,sN,xP,tD,xO,xN,aAx,aEq,aEp,bHj,aQk,bHi,e1,RaK.S,z43,Nat.zero_add,Nat.add_zero,m0,z53,n_0,zQ,d5,bP,d2,n_4,p1,n_3,e38,z94,n_2,zZ,dc,s1,dxc,p8,n_26,ln,e3,n_26',el];simp only[aPf,bb,RaK.S];rfl
  rw[kA hp8]at ap;have p8:decide ((n.ptype:Int)=8)=false:=kD (by omega);by_cases hp10:n.ptype=10
  ·rw[kB hp10]at ap;have p10:decide ((n.ptype:Int)=10)=true:=kC (by omega);obtain⟨h',nm',el,k',r',hB',n',f'⟩:=aXy k2 hB3 no (fun h=>aFr h fun x4 x5 x6 h=>some (Value.tuple ⟨[x4,x5,x6]⟩,h)) (L:=n.subs.length+1) n.subs.length 0 (n.subs.length+1) h1 nm s x (by omega) (by omega) r1 hB1 hs rfl rfl;rw[List.drop_zero]at r' f';refine ex ap k' r' hB' ((FrameR.ext x1).trans f') false (q (n.subs.length+1) _ _ ?_);have el:aGb (CI D) _ (fun h=>aFr h fun x4 x5 x6 h=>some (Value.tuple ⟨[x4,x5,x6]⟩,h)) (n.subs.length+1) (.int .i64 (n.subs.length:Int)) (.int .i64 0) (aB (nm (.seat n.client))) v h1=_:=el;simp only[F26,nF,qE,nE,qD,sN,xP,tD,xO,xN,aAx,aEq,aEp,aFs,bHk,e1,RaK.S,z43,Nat.zero_add,Nat.add_zero,m0,z53,n_0,zQ,d5,bP,d2,n_4,p1,n_3,e38,z94,n_2,zZ,dc,s1,dxc,p8,p10,n_26,ln,el];rfl
  rw[kA hp10]at ap;have p10:decide ((n.ptype:Int)=10)=false:=kD (by omega);have lq:=r1.lt (.seat n.client) ⟨x,hs⟩;by_cases hpd:n.ptype=14∨n.ptype=0
  case neg=>
   rw[kA hpd]at ap;have p14:decide ((n.ptype:Int)=14)=false:=kD (by omega);have p0:decide ((n.ptype:Int)=0)=false:=kD (by omega);refine ex ap rfl r1 hB1 (FrameR.ext x1) false (q 0 _ _ ?_);simp only[F26,nF,qE,nE,qD,sN,xP,tD,xO,xN,aAx,aEq,aEp,aFs,aIt,aIs,e1,RaK.S,z43,Nat.zero_add,Nat.add_zero,m0,z53,n_0,zQ,d5,bP,d2,n_4,p1,n_3,e38,z94,n_2,zZ,dc,s1,dxc,p8,p10,p14,p0];rfl
  rw[kB hpd]at ap;obtain⟨h2,hh2⟩:∃h2,h2=h1.put (nm (.seat n.client)) (.cells [aB (nm (.lst n.client)),.int .i64 0,.bool x.clean] (some 0)):=⟨_,rfl⟩;have w2:A.store 1 (.pointer (some ⟨nm (.seat n.client),1,none⟩)) (.int .i64 0) h1=some h2:=by rw[qU,gs,hh2];rfl
  have g2:h2.get (nm (.seat n.client))=some (.cells [aB (nm (.lst n.client)),.int .i64 0,.bool x.clean] (some 0)):=by rw[hh2,H.get_put,kB rfl]
  have s2:=ld k2 g2 2 rfl;have o2:∀j,j≠nm (.seat n.client)→h2.get j=h1.get j:=fun j hj=>by rw[hh2,H.get_put,kA hj]
  have n2:h2.next=h1.next:=by rw[hh2];rfl
  have hB2:Ext B h2:=⟨by rw[n2];exact hB1.next,fun j hj=>by rw[o2 j (by omega)];exact hB1.get j hj⟩;have ns:nm .seats≠nm (.seat n.client):=fun e=>by have:=r1.inj .seats (.seat n.client) trivial ⟨x,hs⟩ e;cases this
  have nd:nm .mdl≠nm (.seat n.client):=fun e=>by have:=r1.inj .mdl (.seat n.client) trivial ⟨x,hs⟩ e;cases this
  have nv:h.next≠nm (.seat n.client):=fun e=>by have:=(r.lt (.seat n.client) ⟨x,hs⟩).2;omega
  cases hxl:x.clean with
  |false=>
   rw[hxl]at s2;have r2:Rep B h2 nm {s with seats:=aL s.seats n.client {x with conn:=0}} a:=by
    refine r1.seat hB1.next (by rw[n2];exact kF _) (fun d hd=>by rw[aD,kA (Ne.symm hd)]) (fun _ _=>rfl) False (fun C hl hC _=>o2 _ fun e=>hC (by have:=r1.inj C (.seat n.client) hl ⟨x,hs⟩ e;rw[this];exact rfl)) (fun _=>⟨cP hs,rfl⟩) (fun h=>h.elim) (fun y hy=>?_) (fun C hC hl=>.inl ⟨?_,rfl⟩) (fun C C' hC hC' hl hl' hge he=>?_)
    ·rw[aD,kB rfl]at hy;cases hy;refine⟨g2,?_⟩;have ls:=r1.ok (.lst n.client) x hs;exact ls.but (by rw[n2];exact kF _) (o2 _ fun e=>by have:=r1.inj (.lst n.client) (.seat n.client) ⟨x,hs⟩ ⟨x,hs⟩ e;cases this) fun hne=>o2 _ fun e=>by have:=r1.inj (.row n.client) (.seat n.client) ⟨⟨x,hs⟩,hne⟩ ⟨x,hs⟩ e;cases this
    ·rcases bR hC with rfl|rfl|rfl
     ·exact⟨x,hs⟩
     ·exact⟨x,hs⟩
     ·exact⟨⟨x,hs⟩,hl.2⟩
    ·have:live s nm C:=by
      rcases bR hC with rfl|rfl|rfl
      ·exact⟨x,hs⟩
      ·exact⟨x,hs⟩
      ·exact⟨⟨x,hs⟩,hl.2⟩
     have:=(r1.lt C this).2;omega
   rw[kA (show¬x.clean=true by rw[hxl];simp)]at ap;refine ex ap rfl r2 hB2 ⟨fun j hj hn=>by rw[o2 j fun e=>hn (.seat n.client) ⟨x,hs⟩ e.symm];exact x1.get j hj,iF (fun d hd=>by rw[aD,kA (Ne.symm hd)]) (fun _ _=>rfl) (fun C hC hl=>.inl ⟨by
    rcases bR hC with rfl|rfl|rfl
    ·exact⟨x,hs⟩
    ·exact⟨x,hs⟩
    ·exact⟨⟨x,hs⟩,hl.2⟩,rfl⟩),by omega⟩ false (q 0 _ _ ?_)
   by_cases h14:n.ptype=14
   ·have p14:decide ((n.ptype:Int)=14)=true:=kC (by omega);simp only[F26,nF,qE,nE,qD,sN,xP,tD,xO,xN,aAx,aEq,aEp,aFs,aIt,aIs,aFr,e1,RaK.S,z43,Nat.zero_add,Nat.add_zero,m0,z53,n_0,zQ,d5,bP,d2,n_4,p1,n_3,e38,z94,n_2,zZ,dc,s1,dxc,p8,p10,p14,w2,s2];rfl
   ·have p14:decide ((n.ptype:Int)=14)=false:=kD (by omega);have p0:decide ((n.ptype:Int)=0)=true:=kC (by omega);simp only[F26,nF,qE,nE,qD,sN,xP,tD,xO,xN,aAx,aEq,aEp,aFs,aIt,aIs,aFr,e1,RaK.S,z43,Nat.zero_add,Nat.add_zero,m0,z53,n_0,zQ,d5,bP,d2,n_4,p1,n_3,e38,z94,n_2,zZ,dc,s1,dxc,p8,p10,p14,p0,w2,s2];rfl
  |true=>
   rw[hxl]at s2;have m2:MapR h2 (nm .seats) bO (s.seats.map fun x=>(x.1,aB (nm (.seat x.1)))):=(r1.ok .seats).congr (o2 _ ns);obtain⟨h3,u3,m3,a3⟩:=aRo m2 n.client;rw[nW (fun c (_:tG)=>aB (nm (.seat c)))]at m3;have d0:A.load false 1 (.pointer (some ⟨nm .mdl,0,none⟩)) h2=some (aP (nm .seats)):=ld k2 (by rw[o2 _ nd];exact r1.ok .mdl) 0 rfl;have n3':A.load false 1 (.pointer (some ⟨h.next,3,none⟩)) h2=some (str n.client):=ld k2 (by rw[o2 _ nv];exact g1) 3 rfl;have dead:aE (fL s.seats n.client) n.client=none:=by rw[lE r.keysS,kB rfl]
   have r3:Rep B h3 nm {s with seats:=fL s.seats n.client} a:=by
    refine r1.seat hB1.next (by rw[a3.1,n2];exact kF _) (fun d hd=>by rw[lE r.keysS,kA (Ne.symm hd)]) (fun _ _=>rfl) True (fun C hl hC ht=>?_) (fun h=>absurd trivial h) (fun _=>m3) (fun y hy=>by rw[dead]at hy;cases hy) (fun C hC hl=>?_) (fun C C' hC hC' hl hl' hge he=>?_)
    ·rw[a3.2 _ fun e=>ht trivial (r1.inj _ _ hl trivial e),o2 _ fun e=>hC (by have:=r1.inj C (.seat n.client) hl ⟨x,hs⟩ e;rw[this];exact rfl)]
    ·have:∃y,aE (fL s.seats n.client) n.client=some y:=by
      rcases bR hC with rfl|rfl|rfl
      ·exact hl
      ·exact hl
      ·exact hl.1
     rw[dead]at this;obtain⟨_,h⟩:=this;cases h
    ·have:∃y,aE (fL s.seats n.client) n.client=some y:=by
      rcases bR hC with rfl|rfl|rfl
      ·exact hl
      ·exact hl
      ·exact hl.1
     rw[dead]at this;obtain⟨_,h⟩:=this;cases h
   rw[kB hxl]at ap;refine ex ap rfl r3 (a3.ext hB2 (r1.lt .seats trivial).1) ⟨fun j hj hn=>by rw[a3.2 j fun e=>hn .seats trivial e.symm,o2 j fun e=>hn (.seat n.client) ⟨x,hs⟩ e.symm];exact x1.get j hj,iF (fun d hd=>by rw[lE r.keysS,kA (Ne.symm hd)]) (fun _ _=>rfl) (fun C hC hl=>by
    have:∃y,aE (fL s.seats n.client) n.client=some y:=by
     rcases bR hC with rfl|rfl|rfl
     ·exact hl
     ·exact hl
     ·exact hl.1
    rw[dead]at this;obtain⟨_,h⟩:=this;cases h),by rw[a3.1];omega⟩ false (q 0 _ _ ?_)
   by_cases h14:n.ptype=14
   ·have p14:decide ((n.ptype:Int)=14)=true:=kC (by omega);simp only[F26,nF,qE,nE,qD,sN,xP,tD,xO,xN,aAx,aEq,aEp,aFs,aIt,aIs,aFr,e1,RaK.S,z43,Nat.zero_add,Nat.add_zero,m0,z53,n_0,zQ,d5,bP,d2,n_4,p1,n_3,e38,z94,n_2,zZ,dc,s1,dxc,p8,p10,p14,w2,s2,d0,n3',u3];rfl
   ·have p14:decide ((n.ptype:Int)=14)=false:=kD (by omega);have p0:decide ((n.ptype:Int)=0)=true:=kC (by omega);simp only[F26,nF,qE,nE,qD,sN,xP,tD,xO,xN,aAx,aEq,aEp,aFs,aIt,aIs,aFr,e1,RaK.S,z43,Nat.zero_add,Nat.add_zero,m0,z53,n_0,zQ,d5,bP,d2,n_4,p1,n_3,e38,z94,n_2,zZ,dc,s1,dxc,p8,p10,p14,p0,w2,s2,d0,n3',u3];rfl
end
end Go.Proofs.YtpanfoafajepcaaGreatDoor.Ra
