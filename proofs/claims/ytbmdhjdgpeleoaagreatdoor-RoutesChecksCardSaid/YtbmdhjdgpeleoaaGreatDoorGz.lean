import Derived.Test.YtbmdhjdgpeleoaaGreatDoorProg
import Derived.Test.YtbmdhjdgpeleoaaGreatDoorGq
import Derived.Test.YtbmdhjdgpeleoaaGreatDoorGd
set_option linter.unusedVariables false
set_option linter.defProp false
set_option maxRecDepth 100000
namespace Go.Proofs.YtbmdhjdgpeleoaaGreatDoor.TaX
open Tryz (prog)
open Go Go.AM TaZ Go.AM.Pk
section
variable (C:CF)(L:Nat){β:Type}(h:H)(K:KK β)(B:V)
noncomputable def cBe:Code:=(Tryz.f100.body).getD .skip
noncomputable def aYq (k:K1 β):=aD (A.box 1 B h) fun a b=>k (.func (.func 120) ⟨[]⟩ ⟨[a]⟩) b
def bMm:execK prog C L 3 4 [2] (g cBe 1) [2] [] (r1 0 B) h K=aYq h B (R K [2]):=by kernel_rfl
noncomputable def cKs (C:CF)(L:Nat)(B:V)(h:H):O (V×H):=aYq h B (fun E h=>some (E,h))
def bNo {D:CF}(L:Nat)(B:V)(h:H){r:V×H}(q:D 100 [B] h=none):=(ti q Tryz.func100 (bMm _ L h _ B) (by kernel_rfl):cKs (iD prog 3 D) L B h=some r→iD prog 3 D 100 [B] h=some r)
end
end Go.Proofs.YtbmdhjdgpeleoaaGreatDoor.TaX
namespace Go.Proofs.YtbmdhjdgpeleoaaGreatDoor.TaY
open Tryz (prog)
open Go Go.AM
variable {Y:Type}
noncomputable def Z30:kA:=(.agg ⟨[(.string ⟨⟨[]⟩⟩),(.string ⟨⟨[]⟩⟩),(iU 0),(.bool false)]⟩)
noncomputable def Z30L:kC kA:=[(.string ⟨⟨[]⟩⟩),(.string ⟨⟨[]⟩⟩),(iU 0),(.bool false)]
noncomputable def bKo:Code:=(Tryz.f97.body).getD .skip
noncomputable def cJv:Code:=cL bKo
noncomputable def bHu (C:CF)(L:Nat)(J G:kA)(h:H)(k:Kv3 Y):kB Y:=aD (A.box 1 J h) fun t q=>k G (.slice none 0 0) t q
def bVq (C:CF)(L:Nat)(J G:kA)(h:H)(K:Ex→T kA→Kv0 Y):
  execK prog C L 3 13 [4] cJv [1,4,7,2] [] (fs [(0,J),(1,G)]) h K=
   bHu C L J G h (fun G E B h=>K .normal (fs [(1,G),(4,E),(2,B)]) h):=by
 kernel_rfl
noncomputable def bEh:Code:=cR bKo
noncomputable def bKn:Code:=cL bEh
noncomputable def cJu:Code:=cL bKn
noncomputable def bHt (C:CF)(L:Nat)(G E B:kA)(h:H)(k:Kv3 Y):kB Y:=k G E B h
def bVp (C:CF)(L:Nat)(G E B:kA)(h:H)(K:Ex→T kA→Kv0 Y):
  execK prog C L 3 13 [4] cJu [6,4,7,2] [] (fs [(1,G),(4,E),(2,B)]) h K=
   bHt C L G E B h (fun I E B h=>K .normal (fs [(6,I),(4,E),(2,B)]) h):=by
 kernel_rfl
noncomputable def bKm:Code:=cR bKn
noncomputable def bKl:Code:=cL bKm
noncomputable def cagR:Code:=cL bKl
noncomputable def cJf (C:CF)(L:Nat)(I E B N:kA)(h:H)(k:Kv2 Y):kB Y:=aD (A.box 4 Z30 h) fun t q=>bnd (A.store 4 t N q) fun a=>k t B a
def epagR (C:CF)(L:Nat)(I E B N:kA)(h:H)(K:Ex→T kA→Kv0 Y):
  execK prog C L 3 13 [] cagR [5,2] [] (fs [(6,I),(4,E),(2,B),(7,N)]) h K=
   cJf C L I E B N h (fun M B h=>K .normal (fs [(5,M),(2,B)]) h):=by
 kernel_rfl
noncomputable def cafZ:Code:=cR bKl
noncomputable def cJg (C:CF)(L:Nat)(M B:kA)(h:H)(k:Kv0 Y):kB Y:=bnd (A.load false 1 B h) fun d=>bnd (A.load true 4 M h) fun e=>aD (A.zC 4 1 Z30L [(0,4,e)] h) fun t q=>aD (A.zF 4 40 d t q) fun c a=>bnd (A.store 1 B c a) fun b=>k b
def epafZ (C:CF)(L:Nat)(M B:kA)(h:H)(K:Ex→T kA→Kv0 Y):
  execK prog C L 3 13 [] cafZ [] [] (fs [(5,M),(2,B)]) h K=
   cJg C L M B h (fun h=>K .normal (fs []) h):=by
 kernel_rfl
noncomputable def bIl (C:CF)(L:Nat)(I E B:kA)(h:H)(n:Kv1 Y)(r:Kv1 Y)(k:Kv1 Y):kB Y:=bif aTj prog I then(callV C I [.func (.yield h.next) #[] #[]] (h.push (.loop 13 (fs [(6,I),(4,E),(2,B)]) [7] cagR cafZ .ready))).bind fun(_,a)=>oU h.next a (fun h=>n B h) (fun h=>r E h) (exL [(0,fun h=>k B h)])
 else none
def bXs (C:CF)(L:Nat)(I E B:kA)(h:H)(K:Ex→T kA→Kv0 Y):
  execK prog C L 3 13 [4] bKl [2] [(0,[2])] (fs [(6,I),(4,E),(2,B)]) h K=
   bIl C L I E B h (fun B h=>K .normal (fs [(2,B)]) h) (fun E h=>K .ret (fs [(4,E)]) h) (fun B h=>K (.exit 0) (fs [(2,B)]) h):=by
 rw[aHb (g:=(.tmp 6)) (gv:=I) (ps:=[7]) (assign:=cagR) (body:=cafZ) (by kernel_rfl) (by kernel_rfl)];unfold bIl;rfl
noncomputable def bIt (C:CF)(L:Nat)(I E B:kA)(h:H)(k:Kv1 Y)(r:Kv1 Y):kB Y:=bIl C L I E B h k r k
def bXy (C:CF)(L:Nat)(I E B:kA)(h:H)(K:Ex→T kA→Kv0 Y):
  execK prog C L 3 13 [4] bKm [2] [] (fs [(6,I),(4,E),(2,B)]) h K=
   bIt C L I E B h (fun B h=>K .normal (fs [(2,B)]) h) (fun E h=>K .ret (fs [(4,E)]) h):=by
 rw[aHc (b:=bKl) (id:=0) (by kernel_rfl),bXs];unfold bIt;rfl
noncomputable def bDo (C:CF)(L:Nat)(G E B:kA)(h:H)(k:Kv1 Y)(r:Kv1 Y):kB Y:=bHt C L G E B h (fun I E B h=>bIt C L I E B h k r)
def bYa (C:CF)(L:Nat)(G E B:kA)(h:H)(K:Ex→T kA→Kv0 Y):
  execK prog C L 3 13 [4] bKn [2] [] (fs [(1,G),(4,E),(2,B)]) h K=
   bDo C L G E B h (fun B h=>K .normal (fs [(2,B)]) h) (fun E h=>K .ret (fs [(4,E)]) h):=by
 rw[wW (a:=cJu) (b:=bKm) (by kernel_rfl) (show live [4] bKm [2] []=[6,4,7,2] by kernel_rfl),bVp];unfold bDo;exact(sX (bHt C L G E B h) (funext fun I=>funext fun E=>funext fun B=>funext fun h=>(aNh _ _ _).trans (bXy C L I E B h K)))
noncomputable def bTz:Code:=cR bEh
noncomputable def bRp (C:CF)(L:Nat)(B:kA)(h:H)(k:Kv1 Y):kB Y:=bnd (A.load false 1 B h) fun t=>k t h
def bVo (C:CF)(L:Nat)(B:kA)(h:H)(K:Ex→T kA→Kv0 Y):
  execK prog C L 3 13 [4] bTz [4] [] (fs [(2,B)]) h K=
   bRp C L B h (fun E h=>K .ret (fs [(4,E)]) h):=by
 kernel_rfl
noncomputable def bJc (C:CF)(L:Nat)(G E B:kA)(h:H)(k:Kv1 Y):kB Y:=bDo C L G E B h (fun B h=>bRp C L B h k) k
def bYb (C:CF)(L:Nat)(G E B:kA)(h:H)(K:Ex→T kA→Kv0 Y):
  execK prog C L 3 13 [4] bEh [4] [] (fs [(1,G),(4,E),(2,B)]) h K=
   bJc C L G E B h (fun E h=>K .ret (fs [(4,E)]) h):=by
 rw[wW (a:=bKn) (b:=bTz) (by kernel_rfl) (show live [4] bTz [4] []=[2] by kernel_rfl),bYa];unfold bJc;exact(congr (sX (bDo C L G E B h) (funext fun B=>funext fun h=>(aNh _ _ _).trans (bVo C L B h K))) (funext fun E=>funext fun h=>bKu _ _ _))
noncomputable def bJg (C:CF)(L:Nat)(J G:kA)(h:H)(k:Kv1 Y):kB Y:=bHu C L J G h (fun G E B h=>bJc C L G E B h k)
def bYe (C:CF)(L:Nat)(J G:kA)(h:H)(K:Ex→T kA→Kv0 Y):
  execK prog C L 3 13 [4] bKo [4] [] (fs [(0,J),(1,G)]) h K=
   bJg C L J G h (fun E h=>K .ret (fs [(4,E)]) h):=by
 rw[wW (a:=cJv) (b:=bEh) (by kernel_rfl) (show live [4] bEh [4] []=[1,4,7,2] by kernel_rfl),bVq];unfold bJg;exact(sX (bHu C L J G h) (funext fun G=>funext fun E=>funext fun B=>funext fun h=>(aNh _ _ _).trans (bYb C L G E B h K)))
noncomputable def F97 (C:CF)(L:Nat)(J G:kA)(h:H):kB (kA×H):=bJg C L J G h
  (fun E h=>some (E,h))
def cBi {D:CF}(L:Nat)(J G:kA)(h:H){r:kA×H}(q:D 97 [J,G] h=none)(a:F97 (iD prog 3 D) L J G h=some r):iD prog 3 D 97 [J,G] h=some r:=by
 refine aJu (L:=L) q (c:=bKo) (nt:=13) (RR:=[4]) (fr:=fs [(0,J),(1,G)]) Tryz.func97 (by kernel_rfl) (by kernel_rfl) (by kernel_rfl) (by kernel_rfl) (by kernel_rfl) ?_;rw[bYe];refine Eq.trans ?_ a;kernel_rfl
end Go.Proofs.YtbmdhjdgpeleoaaGreatDoor.TaY
