import Derived.Test.YtpanfoafajepcaaGreatDoorProg
import Derived.Test.YtpanfoafajepcaaGreatDoorGq
import Derived.Test.YtpanfoafajepcaaGreatDoorRaK
set_option linter.unusedVariables false
set_option linter.defProp false
set_option maxRecDepth 100000
namespace Go.Proofs.YtpanfoafajepcaaGreatDoor.RaA
open Tryz (prog)
open Go Go.AM RaK
open Go.AM.Pk
noncomputable def Z157L:List V:=[(.bool false),(.bool false),(.bool false),(.bool false),(.bool false),(.bool false),(.bool false),(.bool false),(.bool false),(.bool false),(.bool false),(.bool false),(.bool false),(.bool false),(.bool false),(.bool false),(.bool false),(.bool false),(.bool false),(.bool false),(.bool false),(.bool false),(.bool false),(.bool false),(.bool false),(.bool false),(.bool false),(.bool false),(.bool false),(.bool false),(.bool false),(.bool false),(.bool false),(.bool false),(.bool false),(.bool false),(.bool false),(.bool false),(.bool false),(.bool false),(.bool false),(.bool false),(.bool false),(.bool false),(.bool false),(.bool false),(.bool false),(.bool false),(.bool false),(.bool false),(.bool false),(.bool false),(.bool false),(.bool false),(.bool false),(.bool false),(.bool false),(.bool false),(.bool false),(.bool false),(.bool false),(.bool false),(.bool false),(.bool false),(.bool false),(.bool false),(.bool false),(.bool false),(.bool false),(.bool false),(.bool false),(.bool false),(.bool false),(.bool false),(.bool false),(.bool false),(.bool false),(.bool false),(.bool false),(.bool false),(.bool false),(.bool false),(.bool false),(.bool false),(.bool false),(.bool false),(.bool false),(.bool false),(.bool false),(.bool false),(.bool false),(.bool false),(.bool false),(.bool false),(.bool false),(.bool false),(.bool false),(.bool false),(.bool false),(.bool false),(.bool false),(.bool false),(.bool false),(.bool false),(.bool false),(.bool false),(.bool false),(.bool false),(.bool false),(.bool false),(.bool false),(.bool false),(.bool false),(.bool false),(.bool false),(.bool false),(.bool false),(.bool false),(.bool false),(.bool false),(.bool false),(.bool false),(.bool false),(.bool false),(.bool false),(.bool false),(.bool false),(.bool false),(.bool false),(.bool false),(.bool false),(.bool false),(.bool false),(.bool false),(.bool false),(.bool false),(.bool false),(.bool false),(.bool false),(.bool false),(.bool false),(.bool false),(.bool false),(.bool false),(.bool false),(.bool false),(.bool false),(.bool false),(.bool false),(.bool false),(.bool false),(.bool false),(.bool false),(.bool false),(.bool false),(.bool false),(.bool false),(.bool false),(.bool false),(.bool false),(.bool false),(.bool false),(.bool false),(.bool false),(.bool false),(.bool false),(.bool false),(.bool false),(.bool false),(.bool false),(.bool false),(.bool false),(.bool false),(.bool false),(.bool false),(.bool false),(.bool false),(.bool false),(.bool false),(.bool false),(.bool false),(.bool false),(.bool false),(.bool false),(.bool false),(.bool false),(.bool false),(.bool false),(.bool false),(.bool false),(.bool false),(.bool false),(.bool false),(.bool false),(.bool false),(.bool false),(.bool false),(.bool false),(.bool false),(.bool false),(.bool false),(.bool false),(.bool false),(.bool false),(.bool false),(.bool false),(.bool false),(.bool false),(.bool false),(.bool false),(.bool false),(.bool false),(.bool false),(.bool false),(.bool false),(.bool false),(.bool false),(.bool false),(.bool false),(.bool false),(.bool false),(.bool false),(.bool false),(.bool false),(.bool false),(.bool false),(.bool false),(.bool false),(.bool false),(.bool false),(.bool false),(.bool false),(.bool false),(.bool false),(.bool false),(.bool false),(.bool false),(.bool false),(.bool false),(.bool false),(.bool false),(.bool false),(.bool false),(.bool false),(.bool false),(.bool false),(.bool false),(.bool false),(.bool false),(.bool false),(.bool false),(.bool false),(.bool false),(.bool false),(.bool false),(.bool false)]
noncomputable def Z157:V:=.agg ⟨Z157L⟩
noncomputable def Z9L:List V:=[(.string ⟨⟨[]⟩⟩)]
noncomputable def Z177L:List V:=[(.int .u8 0),(.int .u8 0)]
noncomputable def Z177:V:=.agg ⟨Z177L⟩
variable (C:CF)(L:Nat){β:Type}(h:H)(K:KK β)(B D Y S W G U P E I J Z xa xi xj xk xl xm xe xn xb xf xg xd xh xc xo:V)
noncomputable def bMz:Code:=(Tryz.f52.body).getD .skip
noncomputable def aWk (kr:K1 β):=aF (C 67 [B] h) fun c d=>bnd (A.zA prog .geq 3 c (.int .i64 0)) fun e=>aC e fun f=>kr (.bool f) d
theorem bCl:execK prog C L 3 6 [2] (g bMz 1) [2] [] (r1 0 B) h K=aWk C h B (R K [2]):=by kernel_rfl
noncomputable def F52 (C:CF)(L:Nat)(B:V)(h:H):O (V×H):=aWk C h B (fun Y h=>some (Y,h))
def bEu (Q:Orc)(n:Nat)(B:V)(h:H)(q:Q 52 [B]=none):=(tq q Tryz.func52 (bCl _ n h _ B) (by kernel_rfl) (by kernel_rfl):_=F52 (aI prog 3 Q n) n B h)
noncomputable def aRs:Code:=(Tryz.f67.body).getD .skip
noncomputable def aTv (kr:K1 β)(kn:K2 β):=bnd (A.zG B) fun c=>bnd (A.zA prog .gtr 3 c (.int .i64 65535)) fun d=>aC d fun e=>(bif e then
 kr (.int .i64 (-1)) h
 else
 kn B (.int .i64 0) h)
noncomputable def bGv (kn:K3 β):=aF (A.zZ B h) fun b c=>kn b B S c
noncomputable def aEo (kx0:K1 β)(kn:K4 β):=aF (A.yC J h) fun a b=>bnd (A.zB 0 a) fun c=>aC c fun d=>(bif d then
 kn a S J B b
 else
 kx0 S b)
noncomputable def aIl (kn:K5 β):=bnd (A.zB 1 Z) fun a=>bnd (A.zB 2 Z) fun b=>kn b a S J B h
noncomputable def aLz (kn:K4 β):=bnd (A.zA prog .eql 21 G (.int .i32 0)) fun b=>aC b fun c=>(bif c then
 kn (.bool true) S J B h
 else
 bnd (A.zA prog .eql 21 G (.int .i32 65533)) fun i=>aC i fun j=>(bif j then
 bnd (A.zO B (some W) none) fun n=>aF (C 86 [n] h) fun o p=>aC o fun q=>bnd (A.un prog .not (.bool q)) fun r=>aC r fun s=>kn (.bool s) S J B p
 else
 kn (.bool false) S J B h))
noncomputable def aLy (kr:K1 β)(kn:K3 β):=aW xl (kr (.int .i64 (-1)) h) (kn S J B h)
noncomputable def aEx (kr:K1 β)(kn:K3 β):=aLz C h B S W G J (fun xl S J B h=>aLy h B S J xl kr kn)
theorem aZu:execK prog C L 3 31 [2] (g aRs 7834) [3,10,0] [(1,[10,0,3]),(0,[3])] (r5 5 4 3 10 0 G W S J B) h K=aEx C h B S W G J (R K [2]) (N K [3,10,0]):=by unfold aEx;refine(y 1 [27,3,10,0] ?_ ?_ ?_)<;>intros<;>kernel_rfl
noncomputable def aOw (kn:K3 β):=bnd (A.zA prog .add 3 S (.int .i64 1)) fun b=>kn J B b h
noncomputable def xQ (C:CF)(L:Nat){β:Type}(kr kx0:K1 β):Nat→K3 β
 |0,_,_,_,_=>none
 |n+1,J,B,S,h=>aEo h B S J kx0 (fun Z S J B h=>aIl h B S J Z (fun G W S J B h=>aEx C h B S W G J kr (fun S J B h=>aOw h B S J (fun J B S h=>xQ C L kr kx0 n J B S h))))
theorem aZl (C:CF)(L:Nat){β:Type}(K:KK β):∀n,M (fun fr h=>Lw prog C L 3 31 [2] (g aRs 244) [10,0,3] [(0,[3])] n fr h K) [10,0,3]=xQ C L (R K [2]) (X K 0 [3]) n:=by refine lw [10,0,3] [10,0,3] (F:=fun kn J B S h=>aEo h B S J (X K 0 [3]) (fun Z S J B h=>aIl h B S J Z (fun G W S J B h=>aEx C h B S W G J (R K [2]) (fun S J B h=>aOw h B S J kn)))) ?_ ?_ (fun kn=>w3 fun J B S h=>(y 2 [11,3,10,0] ?_ (w4 fun Z S J B h=>(bk 1 (y 1 [5,4,3,10,0] ?_ (w5 fun G W S J B h=>(q [3,10,0] (fun k=>(aZu C L h _ B S W G J)) ?_ ?_)) ?_) ?_)) ?_))<;>intros<;>kernel_rfl
noncomputable def aQy (kr kn:K1 β):=bGv h B S (fun J B S h=>xQ C L kr kn L J B S h)
theorem bBg:execK prog C L 3 31 [2] (g aRs 30) [3] [] (r2 0 3 B S) h K=aQy C L h B S (R K [2]) (N K [3]):=by unfold aQy;refine(y 1 [10,0,3] ?_ (w3 fun J B S h=>(bk 0 (lp (c3 (aZl C L _ L) J B S h) ?_) ?_)) ?_)<;>intros<;>kernel_rfl
noncomputable def aLx (C:CF)(L:Nat){β:Type}(S:V)(h:H)(kr:K1 β):=kr S h
noncomputable def aNm (kr:K1 β):=aTv h B kr (fun B S h=>aQy C L h B S kr (fun S h=>aLx C L S h kr))
theorem bCa:execK prog C L 3 31 [2] (g aRs 1) [2] [] (r1 0 B) h K=aNm C L h B (R K [2]):=by unfold aNm;refine(y 3 [0,3] ?_ (w2 fun B S h=>(q [3] (fun k=>(bBg C L h _ B S)) ?_ ?_)) ?_)<;>intros<;>kernel_rfl
noncomputable def F67 (C:CF)(L:Nat)(B:V)(h:H):O (V×H):=aNm C L h B (fun Y h=>some (Y,h))
def bEk (Q:Orc)(n:Nat)(B:V)(h:H)(q:Q 67 [B]=none):=(tq q Tryz.func67 (bCa _ n h _ B) (by kernel_rfl) (by kernel_rfl):_=F67 (aI prog 3 Q n) n B h)
noncomputable def bMr:Code:=(Tryz.f69.body).getD .skip
noncomputable def aWd (kr:K1 β):=aF (C 88 [B,D] h) fun d e=>bnd (A.zA prog .geq 3 d (.int .i64 0)) fun f=>aC f fun i=>kr (.bool i) e
theorem bBy:execK prog C L 3 9 [4] (g bMr 1) [4] [] (r2 0 1 B D) h K=aWd C h B D (R K [4]):=by kernel_rfl
noncomputable def F69 (C:CF)(L:Nat)(B D:V)(h:H):O (V×H):=aWd C h B D (fun W h=>some (W,h))
def bEi (Q:Orc)(n:Nat)(B D:V)(h:H)(q:Q 69 [B,D]=none):=(tq q Tryz.func69 (bBy _ n h _ B D) (by kernel_rfl) (by kernel_rfl):_=F69 (aI prog 3 Q n) n B D h)
noncomputable def bMs:Code:=(Tryz.f68.body).getD .skip
noncomputable def aWe (kr:K1 β):=aF (C 87 [B,D,(.int .i64 0),(.int .i64 (-1))] h) fun d e=>kr d e
theorem bBz:execK prog C L 3 8 [4] (g bMs 1) [4] [] (r2 0 1 B D) h K=aWe C h B D (R K [4]):=by kernel_rfl
noncomputable def F68 (C:CF)(L:Nat)(B D:V)(h:H):O (V×H):=aWe C h B D (fun W h=>some (W,h))
def bEj (Q:Orc)(n:Nat)(B D:V)(h:H)(q:Q 68 [B,D]=none):=(tq q Tryz.func68 (bBz _ n h _ B D) (by kernel_rfl) (by kernel_rfl):_=F68 (aI prog 3 Q n) n B D h)
noncomputable def bMn:Code:=(Tryz.f86.body).getD .skip
noncomputable def aVz (kr:K1 β):=aF (C 98 [B] h) fun c d=>bnd (A.zB 0 c) fun f=>bnd (A.zB 1 c) fun i=>bnd (A.zA prog .gtr 3 i (.int .i64 1)) fun m=>aC m fun n=>kr (.bool n) d
theorem bBu:execK prog C L 3 12 [2] (g bMn 1) [2] [] (r1 0 B) h K=aVz C h B (R K [2]):=by kernel_rfl
noncomputable def F86 (C:CF)(L:Nat)(B:V)(h:H):O (V×H):=aVz C h B (fun Y h=>some (Y,h))
def bEe (Q:Orc)(n:Nat)(B:V)(h:H)(q:Q 86 [B]=none):=(tq q Tryz.func86 (bBu _ n h _ B) (by kernel_rfl) (by kernel_rfl):_=F86 (aI prog 3 Q n) n B h)
noncomputable def aJo:Code:=(Tryz.f88.body).getD .skip
noncomputable def aTs (kr:K1 β)(kn:K2 β):=bnd (A.zA prog .eql 9 D (.string ⟨⟨[]⟩⟩)) fun c=>aC c fun d=>(bif d then
 kr (.int .i64 (-1)) h
 else
 bnd (A.zG D) fun i=>bnd (A.zA prog .eql 3 i (.int .i64 1)) fun j=>aC j fun k=>(bif k then
 bnd (A.zC D (.int .i64 0)) fun m=>bnd (A.conv prog 5 21 m) fun n=>bnd (A.zA prog .geq 21 n (.int .i32 128)) fun q=>aC q fun r=>(bif r then
 aF (C 102 [B,(.int .i32 65533)] h) fun v w=>kr v w
 else
 aF (C 102 [B,n] h) fun b1 c1=>kr b1 c1)
 else
 kn B D h))
noncomputable def aTr (kn:K3 β):=bnd (A.zG B) fun b=>aF (C 103 [b] h) fun c d=>aC c fun e=>kn (.bool e) B D d
noncomputable def bGq (kn:K4 β):=aF (C 104 [D] h) fun b c=>bnd (A.zB 0 b) fun e=>bnd (A.zB 1 b) fun f=>aC f fun i=>aF (A.box 256 Z157 c) fun j k=>bnd (A.store 256 j e k) fun m=>kn (.bool i) j B D m
noncomputable def bGp (kn:K3 β):=kn (.int .i64 0) U B h
noncomputable def aLu (kr:K1 β)(kx0:K0 β)(kn:K3 β):=bnd (A.zG B) fun c=>bnd (A.zA prog .lss 3 E c) fun d=>aC d fun e=>(bif e then
 bnd (A.zC B E) fun j=>aF (C 105 [U,j] h) fun k l=>aC k fun m=>(bif m then
 kr E l
 else
 bnd (A.zA prog .add 3 E (.int .i64 1)) fun q=>kn q U B l)
 else
 kx0 h)
noncomputable def aEt (C:CF)(L:Nat){β:Type}(kr:K1 β)(kx0:K0 β):Nat→K3 β
 |0,_,_,_,_=>none
 |n+1,E,U,B,h=>aLu C h B U E kr kx0 (fun E U B h=>aEt C L kr kx0 n E U B h)
theorem aZd (C:CF)(L:Nat){β:Type}(K:KK β):∀n,M (fun fr h=>Lw prog C L 3 55 [4] (g aJo 15716) [8,6,0] [(0,[])] n fr h K) [8,6,0]=aEt C L (R K [4]) (X K 0 []) n:=by refine lw [8,6,0] [8,6,0] (F:=fun kn E U B h=>aLu C h B U E (R K [4]) (X K 0 []) kn) ?_ ?_ ?_<;>intros<;>kernel_rfl
noncomputable def aQl (kr:K1 β)(kn:K0 β):=bGp h B U (fun E U B h=>aEt C L kr kn L E U B h)
theorem bAd:execK prog C L 3 55 [4] (g aJo 1964) [] [] (r4 32 6 0 1 xe U B D) h K=aQl C L h B U (R K [4]) (N K []):=by unfold aQl;refine(y 1 [8,6,0] ?_ (w3 fun E U B h=>(bk 0 (lp (c3 (aZd C L _ L) E U B h) ?_) ?_)) ?_)<;>intros<;>kernel_rfl
noncomputable def aOs (C:CF)(L:Nat){β:Type}(h:H)(kr:K1 β):=kr (.int .i64 (-1)) h
noncomputable def bKy (kn:K2 β):=kn B D h
noncomputable def bGr (kn:K2 β):=kn B D h
noncomputable def aNh (kr:K1 β)(kn:K2 β):=aTr C h B D (fun xk B D h=>aW xk (bGq C h B D (fun xe U B D h=>aW xe (aQl C L h B U kr (fun h=>aOs C L h kr)) (bKy h B D kn))) (bGr h B D kn))
theorem bBb:execK prog C L 3 55 [4] (g aJo 30) [0,1] [] (r2 0 1 B D) h K=aNh C L h B D (R K [4]) (N K [0,1]):=by unfold aNh;refine(y 1 [26,0,1] ?_ (w3 fun xk B D h=>(cd (y 2 [32,6,0,1] ?_ (w4 fun xe U B D h=>(cd (q [] (fun k=>(bAd C L h _ B D U xe)) ?_ ?_) ?_ ?_)) ?_) ?_ ?_)) ?_)<;>intros<;>kernel_rfl
noncomputable def bGo (kn:K2 β):=aF (A.zZ B h) fun b c=>kn b D c
noncomputable def aIk (kr:K1 β)(kx2:K0 β)(kn:K2 β):=aF (A.yC xb h) fun a b=>bnd (A.zB 0 a) fun c=>aC c fun d=>(bif d then
 bnd (A.zB 1 a) fun e=>bnd (A.zB 2 a) fun f=>aF (C 102 [D,f] b) fun m n=>bnd (A.zA prog .geq 3 m (.int .i64 0)) fun o=>aC o fun p=>(bif p then
 kr e n
 else
 kn xb D n)
 else
 kx2 b)
noncomputable def aCl (C:CF)(L:Nat){β:Type}(kr:K1 β)(kx2:K0 β):Nat→K2 β
 |0,_,_,_=>none
 |n+1,xb,D,h=>aIk C h D xb kr kx2 (fun xb D h=>aCl C L kr kx2 n xb D h)
theorem aZg (C:CF)(L:Nat){β:Type}(K:KK β):∀n,M (fun fr h=>Lw prog C L 3 55 [4] (g aJo 500) [45,1] [(2,[])] n fr h K) [45,1]=aCl C L (R K [4]) (X K 2 []) n:=by refine lw [45,1] [45,1] (F:=fun kn xb D h=>aIk C h D xb (R K [4]) (X K 2 []) kn) ?_ ?_ ?_<;>intros<;>kernel_rfl
noncomputable def aQo (kr:K1 β)(kn:K0 β):=bGo h B D (fun xb D h=>aCl C L kr kn L xb D h)
theorem bAk:execK prog C L 3 55 [4] (g aJo 62) [] [] (r2 0 1 B D) h K=aQo C L h B D (R K [4]) (N K []):=by unfold aQo;refine(y 1 [45,1] ?_ (w2 fun xb D h=>(bk 2 (lp (c2 (aZg C L _ L) xb D h) ?_) ?_)) ?_)<;>intros<;>kernel_rfl
noncomputable def aLt (C:CF)(L:Nat){β:Type}(h:H)(kr:K1 β):=kr (.int .i64 (-1)) h
noncomputable def aNl (kr:K1 β):=aTs C h B D kr (fun B D h=>aNh C L h B D kr (fun B D h=>aQo C L h B D kr (fun h=>aLt C L h kr)))
theorem bBs:execK prog C L 3 55 [4] (g aJo 1) [4] [] (r2 0 1 B D) h K=aNl C L h B D (R K [4]):=by unfold aNl;refine(y 3 [0,1] ?_ (w2 fun B D h=>(q [0,1] (fun k=>(bBb C L h _ B D)) (w2 fun B D h=>(q [] (fun k=>(bAk C L h _ B D)) ?_ ?_)) ?_)) ?_)<;>intros<;>kernel_rfl
noncomputable def F88 (C:CF)(L:Nat)(B D:V)(h:H):O (V×H):=aNl C L h B D (fun W h=>some (W,h))
def bEc (Q:Orc)(n:Nat)(B D:V)(h:H)(q:Q 88 [B,D]=none):=(tq q Tryz.func88 (bBs _ n h _ B D) (by kernel_rfl) (by kernel_rfl):_=F88 (aI prog 3 Q n) n B D h)
noncomputable def bJw:Code:=(Tryz.f87.body).getD .skip
noncomputable def bGt (kr:K1 β)(kn:K4 β):=bnd (A.zA prog .eql 3 S (.int .i64 0)) fun c=>aC c fun d=>(bif d then
 kr (.slice none 0 0) h
 else
 bnd (A.zA prog .eql 9 D (.string ⟨⟨[]⟩⟩)) fun i=>aC i fun j=>(bif j then
 aF (C 99 [B,S] h) fun m n=>kr m n
 else
 bnd (A.zA prog .lss 3 S (.int .i64 0)) fun q=>aC q fun r=>(bif r then
 aF (C 100 [B,D] h) fun u v=>bnd (A.zA prog .add 3 u (.int .i64 1)) fun w=>kn w D Y B v
 else
 kn S D Y B h)))
noncomputable def bGs (kn:K6 β):=bnd (A.zG B) fun c=>bnd (A.zA prog .add 3 c (.int .i64 1)) fun d=>bnd (A.zS prog .min ⟨[3,3]⟩ 3 [S,d]) fun e=>aF (A.zP 1 16 Z9L e e h) fun j k=>bnd (A.zA prog .sub 3 e (.int .i64 1)) fun n=>kn n D Y B j (.int .i64 0) k
noncomputable def aLv (kx0:K3 β)(kn:K6 β):=bnd (A.zA prog .lss 3 J S) fun c=>aC c fun d=>(bif d then
 aF (C 101 [B,D] h) fun i j=>bnd (A.zA prog .lss 3 i (.int .i64 0)) fun m=>aC m fun n=>(bif n then
 kx0 B I J j
 else
 bnd (A.zA prog .add 3 i Y) fun t=>bnd (A.zO B none (some t)) fun u=>bnd (A.zL 1 I J) fun v=>bnd (A.store 1 v u j) fun y=>bnd (A.zG D) fun c1=>bnd (A.zA prog .add 3 i c1) fun d1=>bnd (A.zO B (some d1) none) fun e1=>bnd (A.zA prog .add 3 J (.int .i64 1)) fun j1=>kn S D Y e1 I j1 y)
 else
 kx0 B I J h)
noncomputable def aCm (C:CF)(L:Nat){β:Type}(kx0:K3 β):Nat→K6 β
 |0,_,_,_,_,_,_,_=>none
 |n+1,S,D,Y,B,I,J,h=>aLv C h B D Y S I J kx0 (fun S D Y B I J h=>aCm C L kx0 n S D Y B I J h)
theorem aZh (C:CF)(L:Nat){β:Type}(K:KK β):∀n,M (fun fr h=>Lw prog C L 3 66 [8] (g bJw 4088) [3,1,2,0,9,10] [(0,[0,9,10])] n fr h K) [3,1,2,0,9,10]=aCm C L (X K 0 [0,9,10]) n:=by refine lw [3,1,2,0,9,10] [3,1,2,0,9,10] (F:=fun kn S D Y B I J h=>aLv C h B D Y S I J (X K 0 [0,9,10]) kn) ?_ ?_ ?_<;>intros<;>kernel_rfl
noncomputable def aOt (C:CF)(L:Nat){β:Type}(B I J:V)(h:H)(kr:K1 β):=bnd (A.zL 1 I J) fun d=>bnd (A.store 1 d B h) fun f=>bnd (A.zA prog .add 3 J (.int .i64 1)) fun k=>bnd (A.zM 1 I none (some k) none f) fun l=>kr l f
noncomputable def aRb (kr:K1 β):=bGt C h B D Y S kr (fun S D Y B h=>bGs h B D Y S (fun S D Y B I J h=>aCm C L (fun B I J h=>aOt C L B I J h kr) L S D Y B I J h))
theorem bBt:execK prog C L 3 66 [8] (g bJw 1) [8] [] (r4 0 1 2 3 B D Y S) h K=aRb C L h B D Y S (R K [8]):=by unfold aRb;refine(y 4 [3,1,2,0] ?_ (w4 fun S D Y B h=>(y 4 [3,1,2,0,9,10] ?_ (w6 fun S D Y B I J h=>(q [0,9,10] (A:=fun z=>aCm C L z L S D Y B I J h) (fun k=>(bk 0 (lp (c6 (aZh C L _ L) S D Y B I J h) ?_) ?_)) ?_ ?_)) ?_)) ?_)<;>intros<;>kernel_rfl
noncomputable def F87 (C:CF)(L:Nat)(B D Y S:V)(h:H):O (V×H):=aRb C L h B D Y S (fun E h=>some (E,h))
def bEd (Q:Orc)(n:Nat)(B D Y S:V)(h:H)(q:Q 87 [B,D,Y,S]=none):=(tq q Tryz.func87 (bBt _ n h _ B D Y S) (by kernel_rfl) (by kernel_rfl):_=F87 (aI prog 3 Q n) n B D Y S h)
noncomputable def bMm:Code:=(Tryz.f98.body).getD .skip
noncomputable def aVy (kr:K2 β):=bnd (A.zA prog .neq 9 B (.string ⟨⟨[]⟩⟩)) fun d=>aC d fun e=>(bif e then
 bnd (A.zC B (.int .i64 0)) fun j=>bnd (A.zA prog .lss 5 j (.int .u8 128)) fun k=>aC k fun l=>(bif l then
 bnd (A.zC B (.int .i64 0)) fun o=>bnd (A.conv prog 5 21 o) fun p=>kr p (.int .i64 1) h
 else
 aF (C 116 [B] h) fun t u=>bnd (A.zB 0 t) fun w=>bnd (A.zB 1 t) fun y=>kr w y u)
 else
 aF (C 116 [B] h) fun d1 e1=>bnd (A.zB 0 d1) fun i1=>bnd (A.zB 1 d1) fun j1=>kr i1 j1 e1)
theorem bBq:execK prog C L 3 19 [2,3] (g bMm 1) [2,3] [] (r1 0 B) h K=aVy C h B (R K [2,3]):=by kernel_rfl
noncomputable def F98 (C:CF)(L:Nat)(B:V)(h:H):O (V×H):=aVy C h B (fun Y S h=>some (.tuple ⟨[Y,S]⟩,h))
def bEb (Q:Orc)(n:Nat)(B:V)(h:H)(q:Q 98 [B]=none):=(tq q Tryz.func98 (bBq _ n h _ B) (by kernel_rfl) (by kernel_rfl):_=F98 (aI prog 3 Q n) n B h)
noncomputable def nK:Code:=(Tryz.f102.body).getD .skip
noncomputable def aVt (kn:K2 β):=kn D B h
noncomputable def aVs (kn:K3 β):=bnd (A.zA prog .leq 21 (.int .i32 0) D) fun b=>aC b fun c=>(bif c then
 bnd (A.zA prog .lss 21 D (.int .i32 128)) fun f=>aC f fun i=>kn (.bool i) D B h
 else
 kn (.bool false) D B h)
noncomputable def bIu (kr:K1 β):=bnd (A.conv prog 21 5 D) fun c=>aF (C 120 [B,c] h) fun d e=>kr d e
noncomputable def aQb (kn:K3 β):=bnd (A.zA prog .eql 21 D (.int .i32 65533)) fun b=>aC b fun c=>kn (.bool c) D B h
noncomputable def bIv (kn:K1 β):=aF (A.zZ B h) fun b c=>kn b c
noncomputable def aVp (kr:K1 β)(kx9:K0 β)(kn:K1 β):=aF (A.yC xc h) fun a b=>bnd (A.zB 0 a) fun c=>aC c fun d=>(bif d then
 bnd (A.zB 1 a) fun e=>bnd (A.zB 2 a) fun f=>bnd (A.zA prog .eql 21 f (.int .i32 65533)) fun l=>aC l fun m=>(bif m then
 kr e b
 else
 kn xc b)
 else
 kx9 b)
noncomputable def aJc (C:CF)(L:Nat){β:Type}(kr:K1 β)(kx9:K0 β):Nat→K1 β
 |0,_,_=>none
 |n+1,xc,h=>aVp h xc kr kx9 (fun xc h=>aJc C L kr kx9 n xc h)
theorem aYq (C:CF)(L:Nat){β:Type}(K:KK β):∀n,M (fun fr h=>Lw prog C L 3 187 [4] (g nK 1764) [175] [(9,[]),(0,[4])] n fr h K) [175]=aJc C L (R K [4]) (X K 9 []) n:=by refine lw [175] [175] (F:=fun kn xc h=>aVp h xc (R K [4]) (X K 9 []) kn) ?_ ?_ ?_<;>intros<;>kernel_rfl
noncomputable def aQj (kr:K1 β)(kn:K0 β):=bIv h B (fun xc h=>aJc C L kr kn L xc h)
theorem aZz:execK prog C L 3 187 [4] (g nK 220) [] [(0,[4])] (r3 171 1 0 xh D B) h K=aQj C L h B (R K [4]) (N K []):=by unfold aQj;refine(y 1 [175] ?_ (w1 fun xc h=>(bk 9 (lp (c1 (aYq C L _ L) xc h) ?_) ?_)) ?_)<;>intros<;>kernel_rfl
noncomputable def bLg (kr:K1 β):=kr (.int .i64 (-1)) h
noncomputable def aVr (kn:K3 β):=aF (C 121 [D] h) fun b c=>aC b fun d=>bnd (A.un prog .not (.bool d)) fun e=>aC e fun f=>kn (.bool f) D B c
noncomputable def bIw (kr:K1 β):=kr (.int .i64 (-1)) h
noncomputable def bJc (kn:K2 β):=bnd (A.conv prog 21 9 D) fun b=>kn B b h
noncomputable def aVq (kn:K4 β):=bnd (A.zG P) fun b=>bnd (A.zA prog .sub 3 b (.int .i64 1)) fun c=>kn c c B P h
noncomputable def aQa (kx1:K0 β)(kn:K4 β):=bnd (A.zG B) fun c=>bnd (A.zA prog .lss 3 I c) fun d=>aC d fun e=>(bif e then
 kn P B I E h
 else
 kx1 h)
noncomputable def bJb (kn:K5 β):=bnd (A.zC B I) fun c=>bnd (A.zC P E) fun f=>bnd (A.zA prog .neq 5 c f) fun i=>aC i fun j=>kn (.bool j) P B I E h
noncomputable def bJa (kr:K1 β)(kn:K4 β):=aW xn (bnd (A.zA prog .add 3 I (.int .i64 1)) fun c=>bnd (A.zO B (some c) none) fun d=>bnd (A.zC P E) fun i=>aF (C 120 [d,i] h) fun j k=>bnd (A.zA prog .lss 3 j (.int .i64 0)) fun n=>aC n fun o=>(bif o then
 kr (.int .i64 (-1)) k
 else
 bnd (A.zA prog .add 3 j (.int .i64 1)) fun s=>bnd (A.zA prog .add 3 I s) fun t=>kn P B t E k)) (kn P B I E h)
noncomputable def aMy (kr:K1 β)(kn:K4 β):=bJb h B P E I (fun xn P B I E h=>bJa C h B P E I xn kr kn)
theorem aZo:execK prog C L 3 187 [4] (g nK 1832840) [7,0,9,8] [(2,[8,9,0,7]),(1,[]),(0,[4])] (r4 7 0 9 8 P B I E) h K=aMy C h B P E I (R K [4]) (N K [7,0,9,8]):=by unfold aMy;refine(y 1 [33,7,0,9,8] ?_ ?_ ?_)<;>intros<;>kernel_rfl
noncomputable def bLh (kn:K5 β):=kn (.int .i64 1) P B I E h
noncomputable def bIz (kx3:K2 β)(kn:K5 β):=bnd (A.zG P) fun c=>bnd (A.zA prog .lss 3 xa c) fun d=>aC d fun e=>(bif e then
 bnd (A.zA prog .sub 3 I xa) fun k=>bnd (A.zC B k) fun l=>bnd (A.zA prog .sub 3 E xa) fun p=>bnd (A.zC P p) fun q=>bnd (A.zA prog .neq 5 l q) fun r=>aC r fun s=>(bif s then
 none
 else
 bnd (A.zA prog .add 3 xa (.int .i64 1)) fun u=>kn u P B I E h)
 else
 kx3 I E h)
noncomputable def aVu (C:CF)(L:Nat){β:Type}(kx3:K2 β):Nat→K5 β
 |0,_,_,_,_,_,_=>none
 |n+1,xa,P,B,I,E,h=>bIz h B P E I xa kx3 (fun xa P B I E h=>aVu C L kx3 n xa P B I E h)
theorem aYi (C:CF)(L:Nat){β:Type}(K:KK β):∀n,M (fun fr h=>Lw prog C L 3 187 [4] (g nK 29325460) [12,7,0,9,8] [(3,[9,8]),(2,[8,9,0,7]),(1,[]),(0,[4])] n fr h K) [12,7,0,9,8]=aVu C L (X K 3 [9,8]) n:=by refine lw [12,7,0,9,8] [12,7,0,9,8] (F:=fun kn xa P B I E h=>bIz h B P E I xa (X K 3 [9,8]) kn) ?_ ?_ ?_<;>intros<;>kernel_rfl
noncomputable def aQg (kn:K2 β):=bLh h B P E I (fun xa P B I E h=>aVu C L kn L xa P B I E h)
theorem aZr:execK prog C L 3 187 [4] (g nK 3665682) [9,8] [(2,[8,9,0,7]),(1,[]),(0,[4])] (r4 7 0 9 8 P B I E) h K=aQg C L h B P E I (N K [9,8]):=by unfold aQg;refine(y 1 [12,7,0,9,8] ?_ (w5 fun xa P B I E h=>(bk 3 (lp (c5 (aYi C L _ L) xa P B I E h) ?_) ?_)) ?_)<;>intros<;>kernel_rfl
noncomputable def bIy (kr:K1 β):=bnd (A.zA prog .sub 3 I E) fun c=>kr c h
noncomputable def aCo (C:CF)(L:Nat){β:Type}(kr:K1 β)(kx1:K0 β):Nat→K4 β
 |0,_,_,_,_,_=>none
 |n+1,E,I,B,P,h=>aQa h B P E I kx1 (fun P B I E h=>aMy C h B P E I kr (fun P B I E h=>aQg C L h B P E I (fun I E h=>bIy h E I kr)))
theorem aZj (C:CF)(L:Nat){β:Type}(K:KK β):∀n,M (fun fr h=>Lw prog C L 3 187 [4] (g nK 114552) [8,9,0,7] [(1,[]),(0,[4])] n fr h K) [8,9,0,7]=aCo C L (R K [4]) (X K 1 []) n:=by refine lw [8,9,0,7] [8,9,0,7] (F:=fun kn E I B P h=>aQa h B P E I (X K 1 []) (fun P B I E h=>aMy C h B P E I (R K [4]) (fun P B I E h=>aQg C L h B P E I (fun I E h=>bIy h E I (R K [4]))))) ?_ ?_ (fun kn=>w4 fun E I B P h=>(y 1 [7,0,9,8] ?_ (w4 fun P B I E h=>(bk 2 (sc (q [7,0,9,8] (fun k=>(aZo C L h _ B P E I)) (w4 fun P B I E h=>(q [9,8] (fun k=>(aZr C L h _ B P E I)) ?_ ?_)) ?_) ?_) ?_)) ?_))<;>intros<;>kernel_rfl
noncomputable def bIx (kr:K1 β):=kr (.int .i64 (-1)) h
noncomputable def aJf (C:CF)(L:Nat){β:Type}(B P:V)(h:H)(kr:K1 β):=aVq h B P (fun E I B P h=>aCo C L kr (fun h=>bIx h kr) L E I B P h)
theorem bBh:execK prog C L 3 187 [4] (g nK 1789) [4] [(0,[4])] (r2 0 7 B P) h K=aJf C L B P h (R K [4]):=by unfold aJf;refine(y 3 [8,9,0,7] ?_ (w4 fun E I B P h=>(q [] (A:=fun z=>aCo C L (R K [4]) z L E I B P h) (fun k=>(bk 1 (lp (c4 (aZj C L _ L) E I B P h) ?_) ?_)) (w0 fun h=>(s0 [1,9,7,0,8] ?_ ?_)) ?_)) ?_)<;>intros<;>kernel_rfl
noncomputable def aFb (C:CF)(L:Nat){β:Type}(xd D B:V)(h:H)(kr:K1 β):=aQb h B D (fun xh D B h=>aW xh (aQj C L h B kr (fun h=>bLg h kr)) (aVr C h B D (fun xo D B h=>aW xo (bIw h kr) (bJc h B D (fun B P h=>aJf C L B P h kr)))))
theorem bBn:execK prog C L 3 187 [4] (g nK 27) [4] [(0,[4])] (r3 160 1 0 xd D B) h K=aFb C L xd D B h (R K [4]):=by unfold aFb;refine(y 1 [171,1,0] ?_ (w3 fun xh D B h=>(cd (q [] (fun k=>(aZz C L h _ B D xh)) ?_ ?_) (y 1 [183,1,0] ?_ (w3 fun xo D B h=>(cd ?_ (sc (y 1 [0,7] ?_ (w2 fun B P h=>(bBh C L h _ B P)) ?_) ?_) ?_)) ?_) ?_)) ?_)<;>intros<;>kernel_rfl
noncomputable def aJg (C:CF)(L:Nat){β:Type}(D B:V)(h:H)(kr:K1 β):=aVs h B D (fun xd D B h=>aW xd (bIu C h B D kr) (aFb C L xd D B h kr))
theorem bBp:execK prog C L 3 187 [4] (g nK 3) [4] [] (r2 1 0 D B) h K=aJg C L D B h (R K [4]):=by unfold aJg;refine(bk 0 (y 1 [160,1,0] ?_ (w3 fun xd D B h=>(cd ?_ (bBn C L h _ B D xd) ?_)) ?_) ?_)<;>intros<;>kernel_rfl
noncomputable def aCe (kr:K1 β):=aVt h B D (fun D B h=>aJg C L D B h kr)
theorem aSv:execK prog C L 3 187 [4] (g nK 1) [4] [] (r2 0 1 B D) h K=aCe C L h B D (R K [4]):=by unfold aCe;refine(y 1 [1,0] ?_ (w2 fun D B h=>(bBp C L h _ B D)) ?_)<;>intros<;>kernel_rfl
noncomputable def aXm (C:CF)(L:Nat)(B D:V)(h:H):O (V×H):=aCe C L h B D (fun W h=>some (W,h))
def aTh (Q:Orc)(n:Nat)(B D:V)(h:H)(q:Q 102 [B,D]=none):=(tq q Tryz.func102 (aSv _ n h _ B D) (by kernel_rfl) (by kernel_rfl):_=aXm (aI prog 3 Q n) n B D h)
noncomputable def bDx:Code:=(Tryz.f103.body).getD .skip
noncomputable def aJu (kr:K1 β):=bnd (A.zA prog .gtr 3 B (.int .i64 8)) fun c=>aC c fun d=>kr (.bool d) h
theorem aSu:execK prog C L 3 5 [2] (g bDx 1) [2] [] (r1 0 B) h K=aJu h B (R K [2]):=by kernel_rfl
noncomputable def bKl (C:CF)(L:Nat)(B:V)(h:H):O (V×H):=aJu h B (fun Y h=>some (Y,h))
def aTg (Q:Orc)(n:Nat)(B:V)(h:H)(q:Q 103 [B]=none):=(tq q Tryz.func103 (aSu _ n h _ B) (by kernel_rfl) (by kernel_rfl):_=bKl (aI prog 3 Q n) n B h)
noncomputable def bDw:Code:=(Tryz.f105.body).getD .skip
noncomputable def aJt (kr:K1 β):=bnd (A.z B) fun d=>bnd (A.yM 256 1 d D) fun e=>bnd (A.load false 1 e h) fun f=>aC f fun i=>kr (.bool i) h
theorem aSt:execK prog C L 3 10 [4] (g bDw 1) [4] [] (r2 0 1 B D) h K=aJt h B D (R K [4]):=by kernel_rfl
noncomputable def bKk (C:CF)(L:Nat)(B D:V)(h:H):O (V×H):=aJt h B D (fun W h=>some (W,h))
def aTf (Q:Orc)(n:Nat)(B D:V)(h:H)(q:Q 105 [B,D]=none):=(tq q Tryz.func105 (aSt _ n h _ B D) (by kernel_rfl) (by kernel_rfl):_=bKk (aI prog 3 Q n) n B D h)
noncomputable def aOg:Code:=(Tryz.f100.body).getD .skip
noncomputable def bJe (kr:K1 β)(kn:K3 β):=bnd (A.zG D) fun c=>bnd (A.zA prog .eql 3 c (.int .i64 0)) fun d=>aC d fun e=>(bif e then
 aF (C 117 [B] h) fun i j=>bnd (A.zA prog .add 3 i (.int .i64 1)) fun k=>kr k j
 else
 bnd (A.zG D) fun n=>bnd (A.zA prog .eql 3 n (.int .i64 1)) fun o=>aC o fun p=>(bif p then
 bnd (A.zC D (.int .i64 0)) fun s=>aF (C 118 [B,s] h) fun t u=>kr t u
 else
 kn (.int .i64 0) B D h))
noncomputable def bJd (kr:K1 β)(kn:K3 β):=aF (C 101 [B,D] h) fun c d=>bnd (A.zA prog .eql 3 c (.int .i64 (-1))) fun i=>aC i fun j=>(bif j then
 kr G d
 else
 bnd (A.zA prog .add 3 G (.int .i64 1)) fun n=>bnd (A.zG D) fun s=>bnd (A.zA prog .add 3 c s) fun t=>bnd (A.zO B (some t) none) fun u=>kn n u D d)
noncomputable def aVv (C:CF)(L:Nat){β:Type}(kr:K1 β):Nat→K3 β
 |0,_,_,_,_=>none
 |n+1,G,B,D,h=>bJd C h B D G kr (fun G B D h=>aVv C L kr n G B D h)
theorem aYj (C:CF)(L:Nat){β:Type}(K:KK β):∀n,M (fun fr h=>Lw prog C L 3 34 [4] (g aOg 124) [5,0,1] [(0,[4])] n fr h K) [5,0,1]=aVv C L (R K [4]) n:=by refine lw [5,0,1] [5,0,1] (F:=fun kn G B D h=>bJd C h B D G (R K [4]) kn) ?_ ?_ ?_<;>intros<;>kernel_rfl
noncomputable def aFf (kr:K1 β):=bJe C h B D kr (fun G B D h=>aVv C L kr L G B D h)
theorem aSx:execK prog C L 3 34 [4] (g aOg 1) [4] [] (r2 0 1 B D) h K=aFf C L h B D (R K [4]):=by unfold aFf;refine(y 4 [5,0,1] ?_ (w3 fun G B D h=>(bk 0 (lp (c3 (aYj C L _ L) G B D h) ?_) ?_)) ?_)<;>intros<;>kernel_rfl
noncomputable def bKn (C:CF)(L:Nat)(B D:V)(h:H):O (V×H):=aFf C L h B D (fun W h=>some (W,h))
def aTj (Q:Orc)(n:Nat)(B D:V)(h:H)(q:Q 100 [B,D]=none):=(tq q Tryz.func100 (aSx _ n h _ B D) (by kernel_rfl) (by kernel_rfl):_=bKn (aI prog 3 Q n) n B D h)
noncomputable def bDy:Code:=(Tryz.f101.body).getD .skip
noncomputable def aJv (kr:K1 β):=aF (C 119 [B,D] h) fun d e=>kr d e
theorem aSw:execK prog C L 3 8 [4] (g bDy 1) [4] [] (r2 0 1 B D) h K=aJv C h B D (R K [4]):=by kernel_rfl
noncomputable def bKm (C:CF)(L:Nat)(B D:V)(h:H):O (V×H):=aJv C h B D (fun W h=>some (W,h))
def aTi (Q:Orc)(n:Nat)(B D:V)(h:H)(q:Q 101 [B,D]=none):=(tq q Tryz.func101 (aSw _ n h _ B D) (by kernel_rfl) (by kernel_rfl):_=bKm (aI prog 3 Q n) n B D h)
noncomputable def aKd:Code:=(Tryz.f116.body).getD .skip
noncomputable def aVo (kr:K2 β)(kn:K4 β):=bnd (A.zG B) fun d=>bnd (A.zA prog .lss 3 d (.int .i64 1)) fun i=>aC i fun j=>(bif j then
 kr (.int .i32 65533) (.int .i64 0) h
 else
 bnd (A.zC B (.int .i64 0)) fun n=>bnd (A.yM 256 1 (.pointer (some ⟨1,0,none⟩)) n) fun q=>bnd (A.load false 1 q h) fun r=>kn r d B n h)
noncomputable def aVn (kr:K2 β)(kn:K5 β):=bnd (A.zA prog .geq 5 U (.int .u8 240)) fun b=>aC b fun c=>(bif c then
 bnd (A.conv prog 5 21 U) fun e=>bnd (A.zA prog .shl 21 e (.int .u64 31)) fun f=>bnd (A.zA prog .shr 21 f (.int .u64 31)) fun i=>bnd (A.zC B (.int .i64 0)) fun l=>bnd (A.conv prog 5 21 l) fun m=>bnd (A.zA prog .andNot 21 m i) fun o=>bnd (A.zA prog .and 21 (.int .i32 65533) i) fun q=>bnd (A.zA prog .or 21 o q) fun r=>kr r (.int .i64 1) h
 else
 bnd (A.zA prog .and 5 U (.int .u8 7)) fun v=>bnd (A.conv prog 5 3 v) fun w=>bnd (A.zA prog .shr 5 U (.int .u64 4)) fun a1=>bnd (A.yM 16 2 (.pointer (some ⟨2,0,none⟩)) a1) fun b1=>bnd (A.load true 2 b1 h) fun c1=>aF (A.box 2 Z177 h) fun d1 e1=>bnd (A.store 2 d1 c1 e1) fun i1=>kn W d1 w B G i1)
noncomputable def aIw (kr:K2 β)(kn:K4 β):=bnd (A.zA prog .lss 3 W E) fun c=>aC c fun d=>(bif d then
 kr (.int .i32 65533) (.int .i64 1) h
 else
 bnd (A.zC B (.int .i64 1)) fun j=>bnd (A.u 0 I) fun m=>bnd (A.load false 1 m h) fun n=>bnd (A.zA prog .lss 5 j n) fun o=>aC o fun p=>(bif p then
 kr (.int .i32 65533) (.int .i64 1) h
 else
 bnd (A.u 1 I) fun u=>bnd (A.load false 1 u h) fun v=>bnd (A.zA prog .lss 5 v j) fun y=>aC y fun z=>(bif z then
 kr (.int .i32 65533) (.int .i64 1) h
 else
 kn E B G j h)))
noncomputable def aVm (kr:K2 β)(kn:K5 β):=bnd (A.zA prog .leq 3 E (.int .i64 2)) fun b=>aC b fun c=>(bif c then
 bnd (A.zA prog .and 5 G (.int .u8 31)) fun e=>bnd (A.conv prog 5 21 e) fun f=>bnd (A.zA prog .shl 21 f (.int .u64 6)) fun i=>bnd (A.zA prog .and 5 J (.int .u8 63)) fun k=>bnd (A.conv prog 5 21 k) fun l=>bnd (A.zA prog .or 21 i l) fun m=>kr m (.int .i64 2) h
 else
 bnd (A.zC B (.int .i64 2)) fun q=>kn E B G J q h)
noncomputable def aFx (kr:K2 β)(kn:K5 β):=bnd (A.zA prog .lss 5 Z (.int .u8 128)) fun b=>aC b fun c=>(bif c then
 kr (.int .i32 65533) (.int .i64 1) h
 else
 bnd (A.zA prog .lss 5 (.int .u8 191) Z) fun k=>aC k fun l=>(bif l then
 kr (.int .i32 65533) (.int .i64 1) h
 else
 kn E B G J Z h))
noncomputable def aMw (kr:K2 β)(kn:K4 β):=bnd (A.zA prog .leq 3 E (.int .i64 3)) fun b=>aC b fun c=>(bif c then
 bnd (A.zA prog .and 5 G (.int .u8 15)) fun e=>bnd (A.conv prog 5 21 e) fun f=>bnd (A.zA prog .shl 21 f (.int .u64 12)) fun i=>bnd (A.zA prog .and 5 J (.int .u8 63)) fun k=>bnd (A.conv prog 5 21 k) fun l=>bnd (A.zA prog .shl 21 l (.int .u64 6)) fun m=>bnd (A.zA prog .or 21 i m) fun n=>bnd (A.zA prog .and 5 Z (.int .u8 63)) fun p=>bnd (A.conv prog 5 21 p) fun q=>bnd (A.zA prog .or 21 n q) fun r=>kr r (.int .i64 3) h
 else
 kn B G J Z h)
noncomputable def aPz (kr:K2 β):=bnd (A.zC B (.int .i64 3)) fun b=>bnd (A.zA prog .lss 5 b (.int .u8 128)) fun e=>aC e fun f=>(bif f then
 kr (.int .i32 65533) (.int .i64 1) h
 else
 bnd (A.zA prog .lss 5 (.int .u8 191) b) fun n=>aC n fun o=>(bif o then
 kr (.int .i32 65533) (.int .i64 1) h
 else
 bnd (A.zA prog .and 5 G (.int .u8 7)) fun t=>bnd (A.conv prog 5 21 t) fun u=>bnd (A.zA prog .shl 21 u (.int .u64 18)) fun v=>bnd (A.zA prog .and 5 J (.int .u8 63)) fun y=>bnd (A.conv prog 5 21 y) fun z=>bnd (A.zA prog .shl 21 z (.int .u64 12)) fun a1=>bnd (A.zA prog .or 21 v a1) fun b1=>bnd (A.zA prog .and 5 Z (.int .u8 63)) fun d1=>bnd (A.conv prog 5 21 d1) fun e1=>bnd (A.zA prog .shl 21 e1 (.int .u64 6)) fun f1=>bnd (A.zA prog .or 21 b1 f1) fun i1=>bnd (A.zA prog .and 5 b (.int .u8 63)) fun k1=>bnd (A.conv prog 5 21 k1) fun l1=>bnd (A.zA prog .or 21 i1 l1) fun m1=>kr m1 (.int .i64 4) h))
noncomputable def aAw (C:CF)(L:Nat){β:Type}(E B G J Z:V)(h:H)(kr:K2 β):=aFx h B G E J Z kr (fun E B G J Z h=>aMw h B G E J Z kr (fun B G J Z h=>aPz h B G J Z kr))
theorem bAm:execK prog C L 3 117 [2,3] (g aKd 16383) [2,3] [] (r5 8 0 5 10 11 E B G J Z) h K=aAw C L E B G J Z h (R K [2,3]):=by unfold aAw;refine(y 1 [8,0,5,10,11] ?_ (w5 fun E B G J Z h=>(y 1 [0,5,10,11] ?_ ?_ ?_)) ?_)<;>intros<;>kernel_rfl
noncomputable def xS (C:CF)(L:Nat){β:Type}(W I E B G:V)(h:H)(kr:K2 β):=aIw h B W G E I kr (fun E B G J h=>aVm h B G E J kr (fun E B G J Z h=>aAw C L E B G J Z h kr))
theorem bBe:execK prog C L 3 117 [2,3] (g aKd 511) [2,3] [] (r5 4 9 8 0 5 W I E B G) h K=xS C L W I E B G h (R K [2,3]):=by unfold xS;refine(y 3 [8,0,5,10] ?_ (w4 fun E B G J h=>(y 2 [8,0,5,10,11] ?_ (w5 fun E B G J Z h=>(bAm C L h _ B G E J Z)) ?_)) ?_)<;>intros<;>kernel_rfl
noncomputable def wC (C:CF)(L:Nat){β:Type}(B:V)(h:H)(kr:K2 β):=aVo h B kr (fun U W B G h=>aVn h B W G U kr (fun W I E B G h=>xS C L W I E B G h kr))
theorem aSs:execK prog C L 3 117 [2,3] (g aKd 1) [2,3] [] (r1 0 B) h K=wC C L B h (R K [2,3]):=by unfold wC;refine(y 5 [6,4,0,5] ?_ (w4 fun U W B G h=>(y 3 [4,9,8,0,5] ?_ (w5 fun W I E B G h=>(bBe C L h _ B W G E I)) ?_)) ?_)<;>intros<;>kernel_rfl
noncomputable def aXl (C:CF)(L:Nat)(B:V)(h:H):O (V×H):=wC C L B h (fun Y S h=>some (.tuple ⟨[Y,S]⟩,h))
def aTe (Q:Orc)(n:Nat)(B:V)(h:H)(q:Q 116 [B]=none):=(tq q Tryz.func116 (aSs _ n h _ B) (by kernel_rfl) (by kernel_rfl):_=aXl (aI prog 3 Q n) n B h)
noncomputable def bDv:Code:=(Tryz.f120.body).getD .skip
noncomputable def aJs (kr:K1 β):=aF (C 127 [B,D] h) fun d e=>kr d e
theorem aSq:execK prog C L 3 8 [4] (g bDv 1) [4] [] (r2 0 1 B D) h K=aJs C h B D (R K [4]):=by kernel_rfl
noncomputable def bKj (C:CF)(L:Nat)(B D:V)(h:H):O (V×H):=aJs C h B D (fun W h=>some (W,h))
def aTc (Q:Orc)(n:Nat)(B D:V)(h:H)(q:Q 120 [B,D]=none):=(tq q Tryz.func120 (aSq _ n h _ B D) (by kernel_rfl) (by kernel_rfl):_=bKj (aI prog 3 Q n) n B D h)
noncomputable def aOf:Code:=(Tryz.f121.body).getD .skip
noncomputable def aMv (kn:K1 β):=kn B h
noncomputable def aMu (kn:K2 β):=bnd (A.zA prog .leq 21 (.int .i32 0) B) fun b=>aC b fun c=>(bif c then
 bnd (A.zA prog .lss 21 B (.int .i32 55296)) fun f=>aC f fun i=>kn (.bool i) B h
 else
 kn (.bool false) B h)
noncomputable def bIj (kr:K1 β):=kr (.bool true) h
noncomputable def aPy (kr:K1 β)(kn:K0 β):=bnd (A.zA prog .lss 21 (.int .i32 57343) B) fun b=>aC b fun c=>(bif c then
 bnd (A.zA prog .leq 21 B (.int .i32 1114111)) fun f=>aC f fun i=>(bif i then
 kr (.bool true) h
 else
 kn h)
 else
 kn h)
noncomputable def aGj (kr:K1 β)(kn:K0 β):=aMu h B (fun S B h=>aW S (bIj h kr) (aPy h B kr kn))
theorem bAa:execK prog C L 3 17 [2] (g aOf 12) [] [(0,[])] (r1 0 B) h K=aGj h B (R K [2]) (N K []):=by unfold aGj;refine(y 1 [3,0] ?_ (w2 fun S B h=>(cd ?_ ?_ ?_)) ?_)<;>intros<;>kernel_rfl
noncomputable def aVj (kr:K1 β):=kr (.bool false) h
noncomputable def uH (kr:K1 β):=aMv h B (fun B h=>aGj h B kr (fun h=>aVj h kr))
theorem aSp:execK prog C L 3 17 [2] (g aOf 1) [2] [] (r1 0 B) h K=uH h B (R K [2]):=by unfold uH;refine(y 1 [0] ?_ (w1 fun B h=>(q [] (fun k=>(bk 0 (bAa C L h _ B) ?_)) ?_ ?_)) ?_)<;>intros<;>kernel_rfl
noncomputable def aNx (C:CF)(L:Nat)(B:V)(h:H):O (V×H):=uH h B (fun Y h=>some (Y,h))
def aTb (Q:Orc)(n:Nat)(B:V)(h:H)(q:Q 121 [B]=none):=(tq q Tryz.func121 (aSp _ n h _ B) (by kernel_rfl) (by kernel_rfl):_=aNx (aI prog 3 Q n) n B h)
noncomputable def aKc:Code:=(Tryz.f119.body).getD .skip
noncomputable def aVl (kn:K3 β):=bnd (A.zG D) fun c=>kn B D c h
noncomputable def aVk (kn:K4 β):=bnd (A.zA prog .eql 3 G (.int .i64 0)) fun b=>aC b fun c=>(bif c then
 kn (.bool true) B D G h
 else
 bnd (A.zA prog .eql 9 D B) fun k=>aC k fun l=>kn (.bool l) B D G h)
noncomputable def bIr (kr:K1 β):=kr (.int .i64 0) h
noncomputable def bIt (kn:K4 β):=bnd (A.zA prog .eql 3 G (.int .i64 1)) fun b=>aC b fun c=>kn (.bool c) B D G h
noncomputable def bIs (kr:K1 β):=bnd (A.zC D (.int .i64 0)) fun c=>aF (C 127 [B,c] h) fun d e=>kr d e
noncomputable def bLf (kn:K4 β):=bnd (A.zG B) fun c=>bnd (A.zA prog .geq 3 G c) fun d=>aC d fun e=>kn (.bool e) B D G h
noncomputable def bLd (kr:K1 β):=kr (.int .i64 (-1)) h
noncomputable def bLe (kr:K1 β)(kn:K3 β):=bnd (A.load false 1 (.pointer (some ⟨0,0,none⟩)) h) fun b=>bnd (A.zA prog .leq 3 G b) fun c=>aC c fun d=>(bif d then
 bnd (A.zG B) fun i=>bnd (A.zA prog .leq 3 i (.int .i64 64)) fun j=>aC j fun k=>(bif k then
 aF (C 123 [B,D] h) fun p q=>kr p q
 else
 kn B D G h)
 else
 kn B D G h)
noncomputable def aNb (kr:K1 β)(kn:K3 β):=aVk h B D G (fun xi B D G h=>aW xi (bIr h kr) (bIt h B D G (fun xj B D G h=>aW xj (bIs C h B D kr) (bLf h B D G (fun xm B D G h=>aW xm (bLd h kr) (bLe C h B D G kr kn))))))
theorem bAg:execK prog C L 3 143 [4] (g aKc 28) [0,1,5] [(0,[0,1,5])] (r3 0 1 5 B D G) h K=aNb C h B D G (R K [4]) (N K [0,1,5]):=by unfold aNb;refine(y 1 [16,0,1,5] ?_ (w4 fun xi B D G h=>(cd ?_ (y 1 [24,0,1,5] ?_ (w4 fun xj B D G h=>(cd ?_ (y 1 [31,0,1,5] ?_ (w4 fun xm B D G h=>(cd ?_ ?_ ?_)) ?_) ?_)) ?_) ?_)) ?_)<;>intros<;>kernel_rfl
noncomputable def bLc (kn:K8 β):=bnd (A.zC D (.int .i64 0)) fun b=>bnd (A.zC D (.int .i64 1)) fun e=>bnd (A.zG B) fun k=>bnd (A.zA prog .sub 3 k G) fun m=>bnd (A.zA prog .add 3 m (.int .i64 1)) fun n=>kn B D n G (.int .i64 0) (.int .i64 0) e b h
noncomputable def bIq (kx1:K0 β)(kn:K8 β):=bnd (A.zA prog .lss 3 E I) fun c=>aC c fun d=>(bif d then
 kn E J B D I G P U h
 else
 kx1 h)
noncomputable def bIp (kr:K1 β)(kn:K8 β):=bnd (A.zC B E) fun c=>bnd (A.zA prog .neq 5 c U) fun e=>aC e fun f=>(bif f then
 bnd (A.zA prog .add 3 E (.int .i64 1)) fun k=>bnd (A.zO B (some k) (some I)) fun m=>aF (C 127 [m,U] h) fun o p=>bnd (A.zA prog .lss 3 o (.int .i64 0)) fun s=>aC s fun t=>(bif t then
 kr (.int .i64 (-1)) p
 else
 bnd (A.zA prog .add 3 o (.int .i64 1)) fun y=>bnd (A.zA prog .add 3 E y) fun z=>kn z J B D I G P U p)
 else
 kn E J B D I G P U h)
noncomputable def bIo (kr:K1 β)(kn:K8 β):=bnd (A.zA prog .add 3 E (.int .i64 1)) fun c=>bnd (A.zC B c) fun d=>bnd (A.zA prog .eql 5 d P) fun f=>aC f fun i=>(bif i then
 bnd (A.zA prog .add 3 E G) fun o=>bnd (A.zO B (some E) (some o)) fun p=>bnd (A.zA prog .eql 9 p D) fun r=>aC r fun s=>(bif s then
 kr E h
 else
 kn E J B D I G P U h)
 else
 kn E J B D I G P U h)
noncomputable def bIn (kn:K9 β):=bnd (A.zA prog .add 3 E (.int .i64 1)) fun b=>bnd (A.zA prog .add 3 J (.int .i64 1)) fun e=>bnd (A.load false 1 (.pointer (some ⟨0,0,none⟩)) h) fun j=>bnd (A.zA prog .leq 3 G j) fun k=>aC k fun l=>(bif l then
 aF (C 122 [b] h) fun p q=>bnd (A.zA prog .gtr 3 e p) fun r=>aC r fun s=>kn (.bool s) B D I G e b P U q
 else
 kn (.bool false) B D I G e b P U h)
noncomputable def bIk (kr:K1 β):=bnd (A.zO B (some E) none) fun c=>aF (C 123 [c,D] h) fun e f=>bnd (A.zA prog .geq 3 e (.int .i64 0)) fun k=>aC k fun l=>(bif l then
 bnd (A.zA prog .add 3 e E) fun o=>kr o f
 else
 kr (.int .i64 (-1)) f)
noncomputable def bIm (kn:K9 β):=bnd (A.load false 1 (.pointer (some ⟨0,0,none⟩)) h) fun b=>bnd (A.zA prog .gtr 3 G b) fun c=>aC c fun d=>(bif d then
 bnd (A.zA prog .shr 3 E (.int .u64 4)) fun j=>bnd (A.zA prog .add 3 (.int .i64 4) j) fun k=>bnd (A.zA prog .geq 3 J k) fun l=>aC l fun m=>(bif m then
 bnd (A.zA prog .lss 3 E I) fun r=>aC r fun s=>kn (.bool s) B D I G J E P U h
 else
 kn (.bool false) B D I G J E P U h)
 else
 kn (.bool false) B D I G J E P U h)
noncomputable def bIl (kr:K1 β)(kn:K8 β):=aW xg (bnd (A.zO B (some E) none) fun c=>aF (C 128 [c,D] h) fun e f=>bnd (A.zA prog .lss 3 e (.int .i64 0)) fun k=>aC k fun l=>(bif l then
 kr (.int .i64 (-1)) f
 else
 bnd (A.zA prog .add 3 E e) fun p=>kr p f)) (kn B D I G J E P U h)
noncomputable def aQc (C:CF)(L:Nat){β:Type}(kr:K1 β)(kx1:K0 β):Nat→K8 β
 |0,_,_,_,_,_,_,_,_,_=>none
 |n+1,B,D,I,G,J,E,P,U,h=>bIq h B D G U P E I J kx1 (fun E J B D I G P U h=>bIp C h B D G U P E I J kr (fun E J B D I G P U h=>bIo h B D G U P E I J kr (fun E J B D I G P U h=>bIn C h B D G U P E I J (fun xf B D I G J E P U h=>aW xf (bIk C h B D E kr) (bIm h B D G U P E I J (fun xg B D I G J E P U h=>bIl C h B D G U P E I J xg kr (fun B D I G J E P U h=>aQc C L kr kx1 n B D I G J E P U h)))))))
theorem aYk (C:CF)(L:Nat){β:Type}(K:KK β):∀n,M (fun fr h=>Lw prog C L 3 143 [4] (g aKc 4088) [0,1,9,5,10,8,7,6] [(1,[])] n fr h K) [0,1,9,5,10,8,7,6]=aQc C L (R K [4]) (X K 1 []) n:=by refine lw [0,1,9,5,10,8,7,6] [0,1,9,5,10,8,7,6] (F:=fun kn B D I G J E P U h=>bIq h B D G U P E I J (X K 1 []) (fun E J B D I G P U h=>bIp C h B D G U P E I J (R K [4]) (fun E J B D I G P U h=>bIo h B D G U P E I J (R K [4]) (fun E J B D I G P U h=>bIn C h B D G U P E I J (fun xf B D I G J E P U h=>aW xf (bIk C h B D E (R K [4])) (bIm h B D G U P E I J (fun xg B D I G J E P U h=>bIl C h B D G U P E I J xg (R K [4]) kn))))))) ?_ ?_ (fun kn=>w8 fun B D I G J E P U h=>(y 1 [8,10,0,1,9,5,7,6] ?_ (w8 fun E J B D I G P U h=>(bk 2 (y 1 [8,10,0,1,9,5,7,6] ?_ (w8 fun E J B D I G P U h=>(y 1 [8,10,0,1,9,5,7,6] ?_ (w8 fun E J B D I G P U h=>(y 3 [107,0,1,9,5,10,8,7,6] ?_ (w9 fun xf B D I G J E P U h=>(cd ?_ (y 1 [132,0,1,9,5,10,8,7,6] ?_ ?_ ?_) ?_)) ?_)) ?_)) ?_) ?_)) ?_))<;>intros<;>kernel_rfl
noncomputable def bLb (kr:K1 β):=kr (.int .i64 (-1)) h
noncomputable def aCd (kr:K1 β):=aVl h B D (fun B D G h=>aNb C h B D G kr (fun B D G h=>bLc h B D G (fun B D I G J E P U h=>aQc C L kr (fun h=>bLb h kr) L B D I G J E P U h)))
theorem aSr:execK prog C L 3 143 [4] (g aKc 1) [4] [] (r2 0 1 B D) h K=aCd C L h B D (R K [4]):=by unfold aCd;refine(y 2 [0,1,5] ?_ (w3 fun B D G h=>(q [0,1,5] (fun k=>(bk 0 (bAg C L h _ B D G) ?_)) (w3 fun B D G h=>(y 5 [0,1,9,5,10,8,7,6] ?_ (w8 fun B D I G J E P U h=>(q [] (A:=fun z=>aQc C L (R K [4]) z L B D I G J E P U h) (fun k=>(bk 1 (lp (c8 (aYk C L _ L) B D I G J E P U h) ?_) ?_)) ?_ ?_)) ?_)) ?_)) ?_)<;>intros<;>kernel_rfl
noncomputable def aXk (C:CF)(L:Nat)(B D:V)(h:H):O (V×H):=aCd C L h B D (fun W h=>some (W,h))
def aTd (Q:Orc)(n:Nat)(B D:V)(h:H)(q:Q 119 [B,D]=none):=(tq q Tryz.func119 (aSr _ n h _ B D) (by kernel_rfl) (by kernel_rfl):_=aXk (aI prog 3 Q n) n B D h)
noncomputable def bDu:Code:=(Tryz.f127.body).getD .skip
noncomputable def aJr (kr:K1 β):=aF (C 130 [B,D] h) fun d e=>kr d e
theorem aSo:execK prog C L 3 8 [4] (g bDu 1) [4] [] (r2 0 1 B D) h K=aJr C h B D (R K [4]):=by kernel_rfl
noncomputable def bKi (C:CF)(L:Nat)(B D:V)(h:H):O (V×H):=aJr C h B D (fun W h=>some (W,h))
def aTa (Q:Orc)(n:Nat)(B D:V)(h:H)(q:Q 127 [B,D]=none):=(tq q Tryz.func127 (aSo _ n h _ B D) (by kernel_rfl) (by kernel_rfl):_=bKi (aI prog 3 Q n) n B D h)
end Go.Proofs.YtpanfoafajepcaaGreatDoor.RaA
