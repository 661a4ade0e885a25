/-
 RoutesAhead returns true: of any rows of notes,and whatever place; calls of which the answer is known ahead (awake and small closed ones) are run by an abstract machine (proved to simulate the model),in the kernel; the card's listed variables are tied to the program's text. No condition.
-/
import Derived.Test.YtpanfoafajepcaaGreatDoorRows
import Derived.Test.YtpanfoafajepcaaGreatDoorTie
import Derived.Test.YtpanfoafajepcaaGreatDoorCards
import Derived.WalkKit
import Derived.ProofKit
import Derived.OpenShut
import Derived.LaidMore
import Derived.Lay
import Derived.Stop.Joined
import Derived.SevenTiedAt
import Derived.Test.YtpanfoafajepcaaGreatDoorRcU
namespace Go.Proofs.YtpanfoafajepcaaGreatDoor.routesAhead
open Go Go.ChangeShapes Go.WideShapes Go.ChangeAt Go.RowKit Go.AM
theorem own:ownKnob Tryz.prog.godebug=none:=by kernel_rfl
theorem zeros:aK Tryz.prog=true:=by kernel_rfl
theorem mixed:Tryz.prog.follows .mixedOrders=true:=by kernel_rfl
theorem names:eJ Tryz.prog=true:=by kernel_rfl
theorem first_len:Go.Pinned.utf8FirstZ.length=256:=by kernel_rfl
theorem ra_len:Ra.RA.length=32:=rfl
theorem ra_laid:Rows.laid_unicode_utf8_acceptRanges (H:=Unit)=.agg ((List.range 16).map fun k=>.agg [.lit (.int .u8 ((Ra.RA[2*k]?.getD 0:Nat):Int)),.lit (.int .u8 ((Ra.RA[2*k+1]?.getD 0:Nat):Int))]):=by kernel_rfl
theorem ro_of {W:World}(hL:laidMet Tryz.prog Rows.routesAheadRow.laid W):RO 3 Ra.mu3 (Ra.h3 Go.Pinned.utf8FirstZ Ra.RA) W∧0<W.heap.size:=by
 obtain⟨ps,hL,_,_⟩:=hL;have hL:DataW.LaidVars Tryz.prog W [("unicode/utf8.acceptRanges",Rows.laid_unicode_utf8_acceptRanges),("unicode/utf8.first",Rows.laid_unicode_utf8_first)] ps:=hL;obtain⟨⟨c1,y1,z1,f1,p1,g1,d1⟩,q2,hL⟩:=Ra.laid_at (k:=2) (t:=178) hL (by kernel_rfl) (by kernel_rfl);obtain⟨⟨c0,y0,z0,f0,p0,g0,d0⟩,_⟩:=Ra.laid_at (k:=1) (t:=175) hL (by kernel_rfl) (by kernel_rfl);obtain⟨l0,xs,hx,e0⟩:=Ra.arr_bytes (n:=256) (e:=5) Tryz.underlying175 Tryz.underlying5 (by kernel_rfl) (by kernel_rfl) d0;obtain⟨l1,ys,hy,e1⟩:=Ra.arr_pairs (n:=16) (s:=177) (e:=5) Tryz.underlying178 Tryz.underlying177 ⟨_,rfl,rfl,rfl⟩ ⟨_,rfl,rfl,rfl⟩ Tryz.underlying5 (by kernel_rfl) (by kernel_rfl) (by kernel_rfl) d1;have hs:2<W.heap.size:=(Array.getElem?_eq_some_iff.1 g1).1;refine⟨Ra.ro3 first_len ra_len hs g0 g1 (by simpa using l0) (by simpa using l1) (fun i x hi=>?_) (fun i x hi=>?_),by omega⟩
 ·have hi':i<256:=by have:=(List.getElem?_eq_some_iff.1 hi).1;rw[first_len]at this;exact this
  obtain⟨b,hb,hxb⟩:=e0 i hi';have hx':xs=Go.Pinned.utf8FirstZ.map fun(n:Nat)=>DataW.lit (.int .u8 (n:Int)):=by
   have h1:DataW.agg xs=Go.Pinned.utf8First:=hx.symm;have h2:Go.Pinned.utf8First=DataW.agg (Go.Pinned.utf8FirstZ.map fun(n:Nat)=>DataW.lit (.int .u8 (n:Int))):=by kernel_rfl
   rw[h2]at h1;exact DataW.agg.inj h1
  rw[hx',kX,hi]at hxb;have h3:(DataW.lit (H:=Unit) (.int .u8 (x:Int)))=.lit (.int .u8 (b:Int)):=kP hxb;injection h3 with h4;injection h4 with _ h5;rw[h5,←Array.getElem?_toList];exact hb
 ·have hi':i<32:=by have:=(List.getElem?_eq_some_iff.1 hi).1;rw[ra_len]at this;exact this
  obtain⟨b,zs,hb,hyb,hzb⟩:=e1 i (by omega);have hy':DataW.agg ys=_:=hy.symm.trans ra_laid;have hy':=DataW.agg.inj hy';rw[hy',kX,List.getElem?_range (by omega)]at hyb;have hyb:=DataW.agg.inj (kP hyb);rw[←hyb]at hzb;have hxi:Ra.RA[i]?.getD 0=x:=by rw[hi];rfl
  have hbx:(DataW.lit (H:=Unit) (.int .u8 (x:Int)))=.lit (.int .u8 (b:Int)):=by
   rcases Nat.mod_two_eq_zero_or_one i with hm|hm
   ·rw[hm,show 2*(i / 2)=i by omega,hxi]at hzb;exact kP hzb
   ·rw[hm,show 2*(i / 2)+1=i by omega,hxi]at hzb;exact kP hzb
  injection hbx with h4;injection h4 with _ h5;rw[h5,←Array.getElem?_toList];exact hb
set_option maxRecDepth 100000 in
theorem lifted (os:Os)(started:os.Started)(H:Type)(enc:TypeId×Value→H):
 ReturnsInHanded {} Tryz.checked os 3 .any (fun w args=>(Rows.routesAheadSpec.pre enc Tryz.prog Tryz.f3 [] false w args∧laidMetH Tryz.prog Rows.routesAheadRow.laid w)∧sizedMet enc Tryz.prog Tryz.f3 (OpenSpec.ofChange Rows.routesAheadSpec) false w args)
  (Rows.routesAheadSpec.post enc Tryz.prog Tryz.f3 false true false false):=by
 refine returnsInHanded_of_change_and (C:=Tryz.checked) (X:=fun w _=>laidMetH Tryz.prog Rows.routesAheadRow.laid w) (fun _ _ _ hh h=>h.of_heap hh) own started (by kernel_rfl) Tryz.func3
  (ChangeSpec.witness_shaped (enc:=enc) (C:=Tryz.checked) (os:=os) (X:=fun w _=>laidMetH Tryz.prog Rows.routesAheadRow.laid w) false (World.laidAll Tryz.prog os Rows.routesAheadRow.laid) #[.slice none 0 0,.slice none 0 0,.int .u8 0] 8 (World.laidAll_os _ _ _) (World.shaped_of_RefB (by kernel_rfl) (by kernel_rfl)) (by kernel_rfl) (by kernel_rfl) (by kernel_rfl)
   (by rw[MakeChecks.laidMetH_plain _ _ _ (by kernel_rfl)];exact laidMet_laidAll _ (by kernel_rfl) (by kernel_rfl))) ?_
 intro W base args ds gs before hval0 hW _ _ hL _;have hW':=hW;obtain⟨p,q,hA0,hV,rfl,hfz,hnd⟩:=hW;have hA:DataW.TrodAll enc Tryz.prog W 0 (fun _=>true) true Tryz.f3.params.toList args.toList ds p:=hA0;rw[Tryz.params3]at hA;obtain⟨rfl,rfl⟩:=trodVars_none hV;have hlen:=oC _ _ _ _ hA;rw[MakeChecks.laidMetH_plain _ _ _ (by kernel_rfl)]at hL;obtain⟨ro,hpos⟩:=ro_of hL;have hcalls:=Ra.law_calls (base:=0) ro hpos zeros mixed names (n:=8) (List.all_eq_true.1 (by kernel_rfl)) (args:=args)
  (fun j t v h1 h2=>hval0 j t v (by rw[Tryz.params3];simpa using h1) (by simpa using h2)) hA
 refine hcalls.mono fun e W' ⟨he,hg⟩=>?_;subst he
 match ds,hlen with
 |[d1,d2,d3],_=>
  refine⟨_,rfl,[d1,d2,d3],[],_,[],p,[],hW',?_,?_,?_,hg.frame _,fun h=>by cases h⟩
  ·exact trodAll_cons_mk (shut_bool Tryz.underlying4 _) trodAll_mk0
  ·rw[List.append_nil,Tryz.params3];exact lI (by kernel_rfl) hg _ _ _ _ (fun t ht=>by
    have hall:([22,22,5].all fun u=>Tryz.prog.readableRec u&&decide (u<Tryz.prog.types.size))=true:=by kernel_rfl
    have:=List.all_eq_true.1 hall t ht;rw[kO]at this;exact⟨this.1,of_decide_eq_true this.2⟩) hA
  ·rfl
theorem fnamed:Tryz.pinned.checked.prog.funcNamed Rows.routesAheadRow.func=some 3:=by kernel_rfl
set_option maxHeartbeats 4000000 in
theorem facts:joinedFacts Tryz.pinned.checked.prog 3 Tryz.f3 Rows.routesAheadSpec Rows.routesAheadRow=true:=by
 unfold joinedFacts
 repeat' with_reducible refine Bool.and_eq_true_iff.mpr ⟨?_,?_⟩
 all_goals (as_aux_lemma=>kernel_rfl)
theorem inst:Tryz.f3.isInstance Tryz.pinned.checked.prog Rows.routesAheadRow.origin Rows.routesAheadRow.targs:=of_decide_eq_true (by kernel_rfl)
theorem wrapper:Tryz.f3.isWrapper Tryz.pinned.checked.prog Rows.routesAheadRow.wrapper Rows.routesAheadRow.mainSum:=by
 unfold Func.isWrapper;first|(rw[kB (by decide+kernel)];kernel_rfl)|(rw[kA (by decide+kernel)];exact⟨rfl,rfl⟩)
theorem over:Rows.RoutesAheadSaid:=
 OpenClaim.holds_of_wide 3 Tryz.f3 rfl rfl rfl rfl rfl rfl rfl ⟨rfl,rfl,rfl,rfl,rfl⟩ rfl rfl rfl rfl rfl fnamed Tryz.func3 facts inst wrapper
  (fun os started H enc _=>lifted os started H enc)
theorem proved:Rows.RoutesAheadCardSaid:=
 Claim7.holds_tied_plain_at .later [] Rows.routesAheadCard.laidKinds true Rows.routesAheadCard.stood.harness false
  over (fun _ h=>by cases h) (by as_aux_lemma=>kernel_rfl) (fun _ h=>by cases h) routesAhead_row_tie rfl ⟨rfl,rfl⟩ (by as_aux_lemma=>kernel_rfl) rfl
  (fun f fn hf hfn=>by
   obtain rfl:f=3:=kP ((show Tryz.prog.funcNamed Rows.routesAheadRow.func=some 3 by as_aux_lemma=>kernel_rfl).symm.trans hf)|>.symm;obtain rfl:fn=Tryz.f3:=(kP (Tryz.func3.symm.trans hfn)).symm;exact⟨by as_aux_lemma=>kernel_rfl,fun j t ht=>by
    rw[Tryz.params3]at ht;have hm:t∈[22,22,5]:=by simpa using Array.mem_of_getElem? ht
    have hall:([22,22,5].all fun u=>!Tryz.prog.wantsStandIn u)=true:=by as_aux_lemma=>kernel_rfl
    exact(show Tryz.prog.wantsStandIn t=false by simpa using List.all_eq_true.1 hall t hm)⟩)
  (by as_aux_lemma=>kernel_rfl)
#print axioms proved
end Go.Proofs.YtpanfoafajepcaaGreatDoor.routesAhead
