import Derived.Test.YtpanfoafajepcaaGreatDoorProg
import Derived.Test.YtpanfoafajepcaaGreatDoorGv
import Derived.Test.YtpanfoafajepcaaGreatDoorRaZ
import Derived.Test.YtpanfoafajepcaaGreatDoorGe
import Derived.Test.YtpanfoafajepcaaGreatDoorGu
set_option linter.unusedVariables false
set_option linter.defProp false
set_option maxRecDepth 100000
namespace Go.Proofs.YtpanfoafajepcaaGreatDoor.RaX
open Tryz (prog)
open Go Go.AM RaZ
open Go.AM.Pk
variable (C:CF)(L:Nat){β:Type}(h:H)(K:KK β)(B:V)
noncomputable def bMt:Code:=(Tryz.f66.body).getD .skip
noncomputable def aWf (kr:K1 β):=aF (A.box 1 B h) fun a b=>kr (.func (.func 85) ⟨[]⟩ ⟨[a]⟩) b
theorem bCb:execK prog C L 3 4 [2] (g bMt 1) [2] [] (r1 0 B) h K=aWf h B (R K [2]):=by kernel_rfl
noncomputable def F66 (C:CF)(L:Nat)(B:V)(h:H):O (V×H):=aWf h B (fun E h=>some (E,h))
def bEl {D:CF}(L:Nat)(B:V)(h:H){r:V×H}(q:D 66 [B] h=none):=(ti q Tryz.func66 (bCb _ L h _ B) (by kernel_rfl) (by kernel_rfl):F66 (aH prog 3 D) L B h=some r→aH prog 3 D 66 [B] h=some r)
end Go.Proofs.YtpanfoafajepcaaGreatDoor.RaX

set_option linter.unusedVariables false
set_option maxRecDepth 100000
namespace Go.Proofs.YtpanfoafajepcaaGreatDoor.RaY
open Tryz (prog)
open Go Go.AM
noncomputable def Z31:Value:=(.agg ⟨[(.string ⟨⟨[]⟩⟩),(.string ⟨⟨[]⟩⟩),(.int .u8 0),(.bool false)]⟩)
noncomputable def Z31L:List Value:=[(.string ⟨⟨[]⟩⟩),(.string ⟨⟨[]⟩⟩),(.int .u8 0),(.bool false)]
noncomputable def aRt:Code:=(Tryz.f63.body).getD .skip
noncomputable def bJu:Code:=cL aRt
noncomputable def aQe (C:CF)(L:Nat){β:Type}(J G:Value)(h:H)(kn:Kv3 β):Option β:=aF (A.box 1 J h) fun t2 hq1=>kn G (.slice none 0 0) t2 hq1
theorem aYu (C:CF)(L:Nat){β:Type}(J G:Value)(h:H)(K:Ex→T Value→Kv0 β):
  execK prog C L 3 13 [4] bJu [1,4,7,2] [] (fs [(0,J),(1,G)]) h K=
   aQe C L J G h (fun G E B h=>K .normal (fs [(1,G),(4,E),(2,B)]) h):=by
 kernel_rfl
noncomputable def aNv:Code:=cR aRt
noncomputable def aRr:Code:=cL aNv
noncomputable def bJt:Code:=cL aRr
noncomputable def aQd (C:CF)(L:Nat){β:Type}(G E B:Value)(h:H)(kn:Kv3 β):Option β:=kn G E B h
theorem aYt (C:CF)(L:Nat){β:Type}(G E B:Value)(h:H)(K:Ex→T Value→Kv0 β):
  execK prog C L 3 13 [4] bJt [6,4,7,2] [] (fs [(1,G),(4,E),(2,B)]) h K=
   aQd C L G E B h (fun I E B h=>K .normal (fs [(6,I),(4,E),(2,B)]) h):=by
 kernel_rfl
noncomputable def aRq:Code:=cR aRr
noncomputable def aRp:Code:=cL aRq
noncomputable def cadK:Code:=cL aRp
noncomputable def bJh (C:CF)(L:Nat){β:Type}(I E B N:Value)(h:H)(kn:Kv2 β):Option β:=aF (A.box 4 Z31 h) fun t5 hq1=>bnd (A.store 4 t5 N hq1) fun hq2=>kn t5 B hq2
theorem epadK (C:CF)(L:Nat){β:Type}(I E B N:Value)(h:H)(K:Ex→T Value→Kv0 β):
  execK prog C L 3 13 [] cadK [5,2] [] (fs [(6,I),(4,E),(2,B),(7,N)]) h K=
   bJh C L I E B N h (fun M B h=>K .normal (fs [(5,M),(2,B)]) h):=by
 kernel_rfl
noncomputable def cadE:Code:=cR aRp
noncomputable def bJi (C:CF)(L:Nat){β:Type}(M B:Value)(h:H)(kn:Kv0 β):Option β:=bnd (A.load false 1 B h) fun t8=>bnd (A.load true 4 M h) fun t9=>aF (A.zF 4 1 Z31L [(0,4,t9)] h) fun t10 hq1=>aF (A.zI 4 40 t8 t10 hq1) fun t11 hq2=>bnd (A.store 1 B t11 hq2) fun hq3=>kn hq3
theorem epadE (C:CF)(L:Nat){β:Type}(M B:Value)(h:H)(K:Ex→T Value→Kv0 β):
  execK prog C L 3 13 [] cadE [] [] (fs [(5,M),(2,B)]) h K=
   bJi C L M B h (fun h=>K .normal (fs []) h):=by
 kernel_rfl
noncomputable def aQp (C:CF)(L:Nat){β:Type}(I E B:Value)(h:H)(kn:Kv1 β)(kr:Kv1 β)(kx0:Kv1 β):Option β:=bif aFd prog I then(callV C I [.func (.yield h.next) #[] #[]] (h.push (.loop 13 (fs [(6,I),(4,E),(2,B)]) [7] cadK cadE .ready))).bind fun(_,h2)=>iU h.next h2 (fun h=>kn B h) (fun h=>kr E h) (exL [(0,fun h=>kx0 B h)])
 else none
theorem bAq (C:CF)(L:Nat){β:Type}(I E B:Value)(h:H)(K:Ex→T Value→Kv0 β):
  execK prog C L 3 13 [4] aRp [2] [(0,[2])] (fs [(6,I),(4,E),(2,B)]) h K=
   aQp C L I E B h (fun B h=>K .normal (fs [(2,B)]) h) (fun E h=>K .ret (fs [(4,E)]) h) (fun B h=>K (.exit 0) (fs [(2,B)]) h):=by
 rw[wX (g:=(.tmp 6)) (gv:=I) (ps:=[7]) (assign:=cadK) (body:=cadE) (by kernel_rfl) (by kernel_rfl)];unfold aQp;rfl
noncomputable def aQw (C:CF)(L:Nat){β:Type}(I E B:Value)(h:H)(kn:Kv1 β)(kr:Kv1 β):Option β:=aQp C L I E B h kn kr kn
theorem bBa (C:CF)(L:Nat){β:Type}(I E B:Value)(h:H)(K:Ex→T Value→Kv0 β):
  execK prog C L 3 13 [4] aRq [2] [] (fs [(6,I),(4,E),(2,B)]) h K=
   aQw C L I E B h (fun B h=>K .normal (fs [(2,B)]) h) (fun E h=>K .ret (fs [(4,E)]) h):=by
 rw[wY (b:=aRp) (id:=0) (by kernel_rfl),bAq];unfold aQw;rfl
noncomputable def aNk (C:CF)(L:Nat){β:Type}(G E B:Value)(h:H)(kn:Kv1 β)(kr:Kv1 β):Option β:=aQd C L G E B h (fun I E B h=>aQw C L I E B h kn kr)
theorem bBi (C:CF)(L:Nat){β:Type}(G E B:Value)(h:H)(K:Ex→T Value→Kv0 β):
  execK prog C L 3 13 [4] aRr [2] [] (fs [(1,G),(4,E),(2,B)]) h K=
   aNk C L G E B h (fun B h=>K .normal (fs [(2,B)]) h) (fun E h=>K .ret (fs [(4,E)]) h):=by
 rw[nY (a:=bJt) (b:=aRq) (by kernel_rfl) (show live [4] aRq [2] []=[6,4,7,2] by kernel_rfl),aYt];unfold aNk;exact(congrArg (aQd C L G E B h) (funext fun I=>funext fun E=>funext fun B=>funext fun h=>(aCv _ _ _).trans (bBa C L I E B h K)))
noncomputable def aWx:Code:=cR aNv
noncomputable def aVx (C:CF)(L:Nat){β:Type}(B:Value)(h:H)(kr:Kv1 β):Option β:=bnd (A.load false 1 B h) fun t12=>kr t12 h
theorem aYs (C:CF)(L:Nat){β:Type}(B:Value)(h:H)(K:Ex→T Value→Kv0 β):
  execK prog C L 3 13 [4] aWx [4] [] (fs [(2,B)]) h K=
   aVx C L B h (fun E h=>K .ret (fs [(4,E)]) h):=by
 kernel_rfl
noncomputable def aRa (C:CF)(L:Nat){β:Type}(G E B:Value)(h:H)(kr:Kv1 β):Option β:=aNk C L G E B h (fun B h=>aVx C L B h kr) kr
theorem bBl (C:CF)(L:Nat){β:Type}(G E B:Value)(h:H)(K:Ex→T Value→Kv0 β):
  execK prog C L 3 13 [4] aNv [4] [] (fs [(1,G),(4,E),(2,B)]) h K=
   aRa C L G E B h (fun E h=>K .ret (fs [(4,E)]) h):=by
 rw[nY (a:=aRr) (b:=aWx) (by kernel_rfl) (show live [4] aWx [4] []=[2] by kernel_rfl),bBi];unfold aRa;exact(congr (congrArg (aNk C L G E B h) (funext fun B=>funext fun h=>(aCv _ _ _).trans (aYs C L B h K))) (funext fun E=>funext fun h=>aSb _ _ _))
noncomputable def aRd (C:CF)(L:Nat){β:Type}(J G:Value)(h:H)(kr:Kv1 β):Option β:=aQe C L J G h (fun G E B h=>aRa C L G E B h kr)
theorem bCd (C:CF)(L:Nat){β:Type}(J G:Value)(h:H)(K:Ex→T Value→Kv0 β):
  execK prog C L 3 13 [4] aRt [4] [] (fs [(0,J),(1,G)]) h K=
   aRd C L J G h (fun E h=>K .ret (fs [(4,E)]) h):=by
 rw[nY (a:=bJu) (b:=aNv) (by kernel_rfl) (show live [4] aNv [4] []=[1,4,7,2] by kernel_rfl),aYu];unfold aRd;exact(congrArg (aQe C L J G h) (funext fun G=>funext fun E=>funext fun B=>funext fun h=>(aCv _ _ _).trans (bBl C L G E B h K)))
noncomputable def F63 (C:CF)(L:Nat)(J G:Value)(h:H):Option (Value×H):=aRd C L J G h
  (fun E h=>some (E,h))
theorem bEn {D:CF}(L:Nat)(J G:Value)(h:H){r:Value×H}(q:D 63 [J,G] h=none)(hr:F63 (aH prog 3 D) L J G h=some r):aH prog 3 D 63 [J,G] h=some r:=by
 refine aAo (L:=L) q (c:=aRt) (nt:=13) (RR:=[4]) (fr:=fs [(0,J),(1,G)]) Tryz.func63 (by kernel_rfl) (by kernel_rfl) (by kernel_rfl) (by kernel_rfl) (by kernel_rfl) ?_;rw[bCd];refine Eq.trans ?_ hr;kernel_rfl
end Go.Proofs.YtpanfoafajepcaaGreatDoor.RaY
