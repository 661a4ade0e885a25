/-
 RoutesChecks returns true: of any row of notes: the place of the first note that is wrong is the document's; calls of which the answer is known ahead (awake and small closed ones) are run by an abstract machine (proved to simulate the model),in the kernel; the card's listed variables are tied to the program's text. No condition.
-/
import Derived.Test.YtbmdhjdgpeleoaaGreatDoorRows
import Derived.Test.YtbmdhjdgpeleoaaGreatDoorTie
import Derived.Test.YtbmdhjdgpeleoaaGreatDoorCards
import Derived.WalkKit
import Derived.ProofKit
import Derived.OpenShut
import Derived.LaidMore
import Derived.Lay
import Derived.Stop.Joined
import Derived.SevenTiedAt
import Derived.Test.YtbmdhjdgpeleoaaGreatDoorTeW
namespace Go.Proofs.YtbmdhjdgpeleoaaGreatDoor.routesChecks
open Go Go.ChangeShapes Go.WideShapes Go.ChangeAt Go.RowKit Go.AM
theorem own:ownKnob Tryz.prog.godebug=none:=by kernel_rfl
theorem zeros:aL Tryz.prog=true:=by kernel_rfl
theorem mixed:Tryz.prog.follows .mixedOrders=true:=by kernel_rfl
theorem names:iB Tryz.prog=true:=by kernel_rfl
theorem first_len:Go.Pinned.utf8FirstZ.length=256:=by kernel_rfl
theorem ra_len:Ra.RA.length=32:=rfl
theorem ra_laid:Rows.laid_unicode_utf8_acceptRanges (H:=Unit)=.agg ((List.range 16).map fun k=>.agg [.lit (.int .u8 ((Ra.RA[2*k]?.getD 0:Nat):Int)),.lit (.int .u8 ((Ra.RA[2*k+1]?.getD 0:Nat):Int))]):=by kernel_rfl
theorem ro_of {w:kE}(L:laidMet Tryz.prog Rows.routesChecksRow.laid w):RO 3 Ra.mu3 (Ra.h3 Go.Pinned.utf8FirstZ Ra.RA) w∧0<w.heap.size:=by
 obtain⟨M,L,_,_⟩:=L;have L:DataW.LaidVars Tryz.prog w [("unicode/utf8.acceptRanges",Rows.laid_unicode_utf8_acceptRanges),("unicode/utf8.first",Rows.laid_unicode_utf8_first)] M:=L;obtain⟨⟨c1,W,Y,Q,S,p,v⟩,U,L⟩:=Ra.laid_at (k:=2) (t:=206) L (by kernel_rfl) (by kernel_rfl);obtain⟨⟨O,V,X,P,R,C,u⟩,_⟩:=Ra.laid_at (k:=1) (t:=203) L (by kernel_rfl) (by kernel_rfl);obtain⟨J,r,G,z⟩:=Ra.arr_bytes (n:=256) (e:=5) Tryz.underlying203 Tryz.underlying5 (by kernel_rfl) (by kernel_rfl) u;obtain⟨K,N,I,B⟩:=Ra.arr_pairs (n:=16) (s:=205) (e:=5) Tryz.underlying206 Tryz.underlying205 ⟨_,rfl,rfl,rfl⟩ ⟨_,rfl,rfl,rfl⟩ Tryz.underlying5 (by kernel_rfl) (by kernel_rfl) (by kernel_rfl) v;have E:2<w.heap.size:=(sT.1 p).1;refine⟨Ra.ro3 first_len ra_len E C p (by simpa using J) (by simpa using K) (fun i x c=>?_) (fun i x c=>?_),by omega⟩
 ·have d:i<256:=by have:=(pX.1 c).1;rw[first_len]at this;exact this
  obtain⟨b,j,f⟩:=z i d;have o:r=Go.Pinned.utf8FirstZ.map fun(n:Nat)=>DataW.lit (.int .u8 (n:Int)):=by
   have q:DataW.agg r=Go.Pinned.utf8First:=G.symm;have D:Go.Pinned.utf8First=DataW.agg (Go.Pinned.utf8FirstZ.map fun(n:Nat)=>DataW.lit (.int .u8 (n:Int))):=by kernel_rfl
   rw[D]at q;exact DataW.agg.inj q
  rw[o,pL,c]at f;have h3:(DataW.lit (H:=Unit) (.int .u8 (x:Int)))=.lit (.int .u8 (b:Int)):=pB f;injection h3 with h4;injection h4 with _ h5;rw[h5,←Array.getElem?_toList];exact j
 ·have d:i<32:=by have:=(pX.1 c).1;rw[ra_len]at this;exact this
  obtain⟨b,Z,j,y,h⟩:=B i (by omega);have a:DataW.agg N=_:=I.symm.trans ra_laid;have a:=DataW.agg.inj a;rw[a,pL,List.getElem?_range (by omega)]at y;have y:=DataW.agg.inj (pB y);rw[←y]at h;have g:Ra.RA[i]?.getD 0=x:=by rw[c];rfl
  have l:(DataW.lit (H:=Unit) (.int .u8 (x:Int)))=.lit (.int .u8 (b:Int)):=by
   rcases Nat.mod_two_eq_zero_or_one i with m|m
   ·rw[m,show 2*(i / 2)=i by omega,g]at h;exact pB h
   ·rw[m,show 2*(i / 2)+1=i by omega,g]at h;exact pB h
  injection l with h4;injection h4 with _ h5;rw[h5,←Array.getElem?_toList];exact j
set_option maxRecDepth 100000 in
theorem lifted (os:Os)(s:os.Started)(H:Type)(enc:kF×kA→H):
 ReturnsInHanded {} Tryz.checked os 3 .any (fun w a=>(Rows.routesChecksSpec.pre enc Tryz.prog Tryz.f3 [] false w a∧laidMetH Tryz.prog Rows.routesChecksRow.laid w)∧sizedMet enc Tryz.prog Tryz.f3 (OpenSpec.ofChange Rows.routesChecksSpec) false w a)
  (Rows.routesChecksSpec.post enc Tryz.prog Tryz.f3 false true false false):=by
 refine returnsInHanded_of_change_and (C:=Tryz.checked) (X:=fun w _=>laidMetH Tryz.prog Rows.routesChecksRow.laid w) (fun _ _ _ E h=>h.of_heap E) own s (by kernel_rfl) Tryz.func3
  (ChangeSpec.witness_shaped (enc:=enc) (C:=Tryz.checked) (os:=os) (X:=fun w _=>laidMetH Tryz.prog Rows.routesChecksRow.laid w) false (World.laidAll Tryz.prog os Rows.routesChecksRow.laid) #[.slice none 0 0] 8 (World.laidAll_os _ _ _) (World.shaped_of_RefB (by kernel_rfl) (by kernel_rfl)) (by kernel_rfl) (by kernel_rfl) (by kernel_rfl)
   (by rw[MakeChecks.laidMetH_plain _ _ _ (by kernel_rfl)];exact laidMet_laidAll _ (by kernel_rfl) (by kernel_rfl))) ?_
 intro W d a o K before b r _ _ L _;have m:=r;obtain⟨p,q,k,V,rfl,D,G⟩:=r;have i:DataW.TrodAll enc Tryz.prog W 0 (fun _=>true) true Tryz.f3.params.toList a.toList o p:=k;rw[Tryz.params3]at i;obtain⟨rfl,rfl⟩:=trodVars_none V;have l:=xA _ _ _ _ i;rw[MakeChecks.laidMetH_plain _ _ _ (by kernel_rfl)]at L;obtain⟨J,g⟩:=ro_of L;have c:=Ra.law_calls (base:=0) J g zeros mixed names (n:=8) (mB.1 (by kernel_rfl)) (args:=a)
  (fun j t v y z=>b j t v (by rw[Tryz.params3];simpa using y) (by simpa using z)) i
 refine c.mono fun e W' ⟨B,x⟩=>?_;subst B
 match o,l with
 |[d1],_=>
  refine⟨_,rfl,[d1],[],_,[],p,[],m,?_,?_,?_,x.frame _,fun h=>by cases h⟩
  ·exact trodAll_cons_mk (shut_bool Tryz.underlying4 _) trodAll_mk0
  ·rw[dD,Tryz.params3];exact tC (by kernel_rfl) x _ _ _ _ (fun t I=>by
    have f:([22].all fun u=>Tryz.prog.readableRec u&&decide (u<Tryz.prog.types.size))=true:=by kernel_rfl
    have:=mB.1 f t I;rw[pA]at this;exact⟨this.1,tE this.2⟩) i
  ·rfl
theorem fnamed:Tryz.pinned.checked.prog.funcNamed Rows.routesChecksRow.func=some 3:=by kernel_rfl
set_option maxHeartbeats 4000000 in
theorem facts:joinedFacts Tryz.pinned.checked.prog 3 Tryz.f3 Rows.routesChecksSpec Rows.routesChecksRow=true:=by
 unfold joinedFacts
 repeat' with_reducible refine Bool.and_eq_true_iff.mpr ⟨?_,?_⟩
 all_goals (as_aux_lemma=>kernel_rfl)
theorem inst:Tryz.f3.isInstance Tryz.pinned.checked.prog Rows.routesChecksRow.origin Rows.routesChecksRow.targs:=tE (by kernel_rfl)
theorem wrapper:Tryz.f3.isWrapper Tryz.pinned.checked.prog Rows.routesChecksRow.wrapper Rows.routesChecksRow.mainSum:=by
 unfold Func.isWrapper;first|(rw[kM (by decide+kernel)];kernel_rfl)|(rw[kL (by decide+kernel)];exact⟨rfl,rfl⟩)
theorem over:Rows.RoutesChecksSaid:=
 OpenClaim.holds_of_wide 3 Tryz.f3 rfl rfl rfl rfl rfl rfl rfl ⟨rfl,rfl,rfl,rfl,rfl⟩ rfl rfl rfl rfl rfl fnamed Tryz.func3 facts inst wrapper
  (fun o s H enc _=>lifted o s H enc)
theorem proved:Rows.RoutesChecksCardSaid:=
 Claim7.holds_tied_plain_at .later [] Rows.routesChecksCard.laidKinds true Rows.routesChecksCard.stood.harness false
  over (fun _ h=>by cases h) (by as_aux_lemma=>kernel_rfl) (fun _ h=>by cases h) routesChecks_row_tie rfl ⟨rfl,rfl⟩ (by as_aux_lemma=>kernel_rfl) rfl
  (fun f n d b=>by
   obtain rfl:f=3:=pB ((show Tryz.prog.funcNamed Rows.routesChecksRow.func=some 3 by as_aux_lemma=>kernel_rfl).symm.trans d)|>.symm;obtain rfl:n=Tryz.f3:=(pB (Tryz.func3.symm.trans b)).symm;exact⟨by as_aux_lemma=>kernel_rfl,fun j t c=>by
    rw[Tryz.params3]at c;have m:t∈[22]:=by simpa using Array.mem_of_getElem? c
    have a:([22].all fun u=>!Tryz.prog.wantsStandIn u)=true:=by as_aux_lemma=>kernel_rfl
    exact(show Tryz.prog.wantsStandIn t=false by simpa using mB.1 a t m)⟩)
  (by as_aux_lemma=>kernel_rfl)
#print axioms proved
end Go.Proofs.YtbmdhjdgpeleoaaGreatDoor.routesChecks
