/-
 WiresChecks returns true: of any bytes; calls of which the answer is known ahead (awake and small closed ones) are run by an abstract machine (proved to simulate the model),in the kernel; the card's listed variables are tied to the program's text. No condition.
-/
import Derived.Test.YtohapjojkjjflaaGreatDoorRows
import Derived.Test.YtohapjojkjjflaaGreatDoorTie
import Derived.Test.YtohapjojkjjflaaGreatDoorCards
import Derived.WalkKit
import Derived.ProofKit
import Derived.OpenShut
import Derived.LaidMore
import Derived.Lay
import Derived.Stop.Joined
import Derived.SevenTiedAt
import Derived.Test.YtohapjojkjjflaaGreatDoorWzDoor
namespace Go.Proofs.YtohapjojkjjflaaGreatDoor.wiresChecks
open Go Go.ChangeShapes Go.WideShapes Go.ChangeAt Go.RowKit Go.AM
theorem own:ownKnob Tryz.prog.godebug=none:=by kernel_rfl
theorem zeros:bM Tryz.prog=true:=by kernel_rfl
theorem mixed:Tryz.prog.follows .mixedOrders=true:=by kernel_rfl
theorem names:fL Tryz.prog=true:=by kernel_rfl
theorem three_in {P:Program}{h:AM.H}{t u s:TypeId}{xs:List Value}(ty:aAl P h [t,u,s] xs):∃a b c,xs=[a,b,c]∧TyV P h t a∧TyV P h u b∧TyV P h s c:=by
 cases xs with
 |nil=>exact ty.elim
 |cons a r=>cases r with
  |nil=>exact ty.2.elim
  |cons b r=>cases r with
   |nil=>exact ty.2.2.elim
   |cons c r=>cases r with
    |nil=>exact⟨a,b,c,rfl,ty.1,ty.2.1,ty.2.2.1⟩
    |cons d r=>exact ty.2.2.2.elim
theorem run (h:AM.H)(xs:List Value)(_:Go.AM.Start h)(g0:h.get 0=some (.cells (cK Go.Pinned.utf8FirstZ) none))(g1:h.get 1=some (.cells (cK Wz.RA) none))(n3:2≤h.next)(ty:aAl Tryz.prog h [22,3,9] xs):∃n h',aA Tryz.prog 2 Wz.tab.orc n 3 xs h=some (.bool true,h'):=by
 obtain⟨a,b,c,rfl,t1,t2,t3⟩:=three_in ty;obtain⟨l,hr,rg,sl,od⟩:=Wz.row_in t1;obtain⟨n,rfl⟩:=Wz.conn_in t2;obtain⟨s,rfl⟩:=Wz.text_in t3;obtain⟨h',e⟩:=Wz.lawT (b:=s) (conn:=n) g0 g1 n3 hr rg sl od;exact⟨1003100,h',e⟩
theorem first_len:Go.Pinned.utf8FirstZ.length=256:=by kernel_rfl
theorem ra_len:Wz.RA.length=32:=rfl
theorem ra_laid:Rows.laid_unicode_utf8_acceptRanges (H:=Unit)=.agg ((List.range 16).map fun k=>.agg [.lit (.int .u8 ((Wz.RA[2*k]?.getD 0:Nat):Int)),.lit (.int .u8 ((Wz.RA[2*k+1]?.getD 0:Nat):Int))]):=by kernel_rfl
theorem ro_of {W:World}(hL:laidMet Tryz.prog Rows.wiresChecksRow.laid W):RO 2 Wz.mu2 (Wz.h2 Go.Pinned.utf8FirstZ Wz.RA) W∧0<W.heap.size:=by
 obtain⟨ps,hL,_,_⟩:=hL;have hL:DataW.LaidVars Tryz.prog W [("unicode/utf8.acceptRanges",Rows.laid_unicode_utf8_acceptRanges),("unicode/utf8.first",Rows.laid_unicode_utf8_first)] ps:=hL;obtain⟨⟨c1,y1,z1,f1,p1,g1,d1⟩,q2,hL⟩:=Wz.laid_at (k:=1) (t:=136) hL (by kernel_rfl) (by kernel_rfl);obtain⟨⟨c0,y0,z0,f0,p0,g0,d0⟩,_⟩:=Wz.laid_at (k:=0) (t:=133) hL (by kernel_rfl) (by kernel_rfl);obtain⟨l0,xs,hx,e0⟩:=Wz.arr_bytes (n:=256) (e:=5) Tryz.underlying133 Tryz.underlying5 (by kernel_rfl) (by kernel_rfl) d0;obtain⟨l1,ys,hy,e1⟩:=Wz.arr_pairs (n:=16) (s:=135) (e:=5) Tryz.underlying136 Tryz.underlying135 ⟨_,rfl,rfl,rfl⟩ ⟨_,rfl,rfl,rfl⟩ Tryz.underlying5 (by kernel_rfl) (by kernel_rfl) (by kernel_rfl) d1;have hs:1<W.heap.size:=(Array.getElem?_eq_some_iff.1 g1).1;refine⟨Wz.ro2 first_len ra_len hs g0 g1 (by simpa using l0) (by simpa using l1) (fun i x hi=>?_) (fun i x hi=>?_),by omega⟩
 ·have hi':i<256:=by have:=(List.getElem?_eq_some_iff.1 hi).1;rw[first_len]at this;exact this
  obtain⟨b,hb,hxb⟩:=e0 i hi';have hx':xs=Go.Pinned.utf8FirstZ.map fun(n:Nat)=>DataW.lit (.int .u8 (n:Int)):=by
   have h1:DataW.agg xs=Go.Pinned.utf8First:=hx.symm;have h2:Go.Pinned.utf8First=DataW.agg (Go.Pinned.utf8FirstZ.map fun(n:Nat)=>DataW.lit (.int .u8 (n:Int))):=by kernel_rfl
   rw[h2]at h1;exact DataW.agg.inj h1
  rw[hx',kX,hi]at hxb;have h3:(DataW.lit (H:=Unit) (.int .u8 (x:Int)))=.lit (.int .u8 (b:Int)):=kP hxb;injection h3 with h4;injection h4 with _ h5;rw[h5,←Array.getElem?_toList];exact hb
 ·have hi':i<32:=by have:=(List.getElem?_eq_some_iff.1 hi).1;rw[ra_len]at this;exact this
  obtain⟨b,zs,hb,hyb,hzb⟩:=e1 i (by omega);have hy':DataW.agg ys=_:=hy.symm.trans ra_laid;have hy':=DataW.agg.inj hy';rw[hy',kX,List.getElem?_range (by omega)]at hyb;have hyb:=DataW.agg.inj (kP hyb);rw[←hyb]at hzb;have hxi:Wz.RA[i]?.getD 0=x:=by rw[hi];rfl
  have hbx:(DataW.lit (H:=Unit) (.int .u8 (x:Int)))=.lit (.int .u8 (b:Int)):=by
   rcases Nat.mod_two_eq_zero_or_one i with hm|hm
   ·rw[hm,show 2*(i / 2)=i by omega,hxi]at hzb;exact kP hzb
   ·rw[hm,show 2*(i / 2)+1=i by omega,hxi]at hzb;exact kP hzb
  injection hbx with h4;injection h4 with _ h5;rw[h5,←Array.getElem?_toList];exact hb
set_option maxRecDepth 100000 in
theorem lifted (os:Os)(started:os.Started)(H:Type)(enc:TypeId×Value→H):
 ReturnsInHanded {} Tryz.checked os 3 .any (fun w args=>(Rows.wiresChecksSpec.pre enc Tryz.prog Tryz.f3 [] false w args∧laidMetH Tryz.prog Rows.wiresChecksRow.laid w)∧sizedMet enc Tryz.prog Tryz.f3 (OpenSpec.ofChange Rows.wiresChecksSpec) false w args)
  (Rows.wiresChecksSpec.post enc Tryz.prog Tryz.f3 false true false false):=by
 refine returnsInHanded_of_change_and (C:=Tryz.checked) (X:=fun w _=>laidMetH Tryz.prog Rows.wiresChecksRow.laid w) (fun _ _ _ hh h=>h.of_heap hh) own started (by kernel_rfl) Tryz.func3
  (ChangeSpec.witness_shaped (enc:=enc) (C:=Tryz.checked) (os:=os) (X:=fun w _=>laidMetH Tryz.prog Rows.wiresChecksRow.laid w) false (World.laidAll Tryz.prog os Rows.wiresChecksRow.laid) #[.slice none 0 0,.int .i64 0,.string ⟨#[]⟩] 8 (World.laidAll_os _ _ _) (World.shaped_of_RefB (by kernel_rfl) (by kernel_rfl)) (by kernel_rfl) (by kernel_rfl) (by kernel_rfl)
   (by rw[MakeChecks.laidMetH_plain _ _ _ (by kernel_rfl)];exact laidMet_laidAll _ (by kernel_rfl) (by kernel_rfl))) ?_
 intro W base args ds gs before hval0 hW _ _ hL _;have hW':=hW;obtain⟨p,q,hA0,hV,rfl,hfz,hnd⟩:=hW;have hA:DataW.TrodAll enc Tryz.prog W 0 (fun _=>true) true Tryz.f3.params.toList args.toList ds p:=hA0;rw[Tryz.params3]at hA;obtain⟨rfl,rfl⟩:=trodVars_none hV;have hlen:=nS _ _ _ _ hA;rw[MakeChecks.laidMetH_plain _ _ _ (by kernel_rfl)]at hL;obtain⟨ro,hpos⟩:=ro_of hL;have hcalls:=Wz.door_callsO (base:=0) ro hpos zeros mixed names Wz.tab_closed Tryz.func3 (by kernel_rfl) (ts:=[22,3,9]) (n:=8) (List.all_eq_true.1 (by kernel_rfl)) (args:=args)
  (fun j t v h1 h2=>hval0 j t v (by rw[Tryz.params3];simpa using h1) (by simpa using h2)) hA run
 refine hcalls.mono fun e W' ⟨he,hg⟩=>?_;subst he
 match ds,hlen with
 |[d1,d2,d3],_=>
  refine⟨_,rfl,[d1,d2,d3],[],_,[],p,[],hW',?_,?_,?_,hg.frame _,fun h=>by cases h⟩
  ·exact trodAll_cons_mk (shut_bool Tryz.underlying4 _) trodAll_mk0
  ·rw[List.append_nil,Tryz.params3];exact lL (by kernel_rfl) hg _ _ _ _ (fun t ht=>by
    have hall:([22,3,9].all fun u=>Tryz.prog.readableRec u&&decide (u<Tryz.prog.types.size))=true:=by kernel_rfl
    have:=List.all_eq_true.1 hall t ht;rw[kO]at this;exact⟨this.1,of_decide_eq_true this.2⟩) hA
  ·rfl
theorem fnamed:Tryz.pinned.checked.prog.funcNamed Rows.wiresChecksRow.func=some 3:=by kernel_rfl
set_option maxHeartbeats 4000000 in
theorem facts:joinedFacts Tryz.pinned.checked.prog 3 Tryz.f3 Rows.wiresChecksSpec Rows.wiresChecksRow=true:=by
 unfold joinedFacts
 repeat' with_reducible refine Bool.and_eq_true_iff.mpr ⟨?_,?_⟩
 all_goals (as_aux_lemma=>kernel_rfl)
theorem inst:Tryz.f3.isInstance Tryz.pinned.checked.prog Rows.wiresChecksRow.origin Rows.wiresChecksRow.targs:=of_decide_eq_true (by kernel_rfl)
theorem wrapper:Tryz.f3.isWrapper Tryz.pinned.checked.prog Rows.wiresChecksRow.wrapper Rows.wiresChecksRow.mainSum:=by
 unfold Func.isWrapper;first|(rw[kB (by decide+kernel)];kernel_rfl)|(rw[kA (by decide+kernel)];exact⟨rfl,rfl⟩)
theorem over:Rows.WiresChecksSaid:=
 OpenClaim.holds_of_wide 3 Tryz.f3 rfl rfl rfl rfl rfl rfl rfl ⟨rfl,rfl,rfl,rfl,rfl⟩ rfl rfl rfl rfl rfl fnamed Tryz.func3 facts inst wrapper
  (fun os started H enc _=>lifted os started H enc)
theorem proved:Rows.WiresChecksCardSaid:=
 Claim7.holds_tied_plain_at .later [] Rows.wiresChecksCard.laidKinds true Rows.wiresChecksCard.stood.harness false
  over (fun _ h=>by cases h) (by as_aux_lemma=>kernel_rfl) (fun _ h=>by cases h) wiresChecks_row_tie rfl ⟨rfl,rfl⟩ (by as_aux_lemma=>kernel_rfl) rfl
  (fun f fn hf hfn=>by
   obtain rfl:f=3:=kP ((show Tryz.prog.funcNamed Rows.wiresChecksRow.func=some 3 by as_aux_lemma=>kernel_rfl).symm.trans hf)|>.symm;obtain rfl:fn=Tryz.f3:=(kP (Tryz.func3.symm.trans hfn)).symm;exact⟨by as_aux_lemma=>kernel_rfl,fun j t ht=>by
    rw[Tryz.params3]at ht;have hm:t∈[22,3,9]:=by simpa using Array.mem_of_getElem? ht
    have hall:([22,3,9].all fun u=>!Tryz.prog.wantsStandIn u)=true:=by as_aux_lemma=>kernel_rfl
    exact(show Tryz.prog.wantsStandIn t=false by simpa using List.all_eq_true.1 hall t hm)⟩)
  (by as_aux_lemma=>kernel_rfl)
#print axioms proved
end Go.Proofs.YtohapjojkjjflaaGreatDoor.wiresChecks
