import Derived.Test.YtpanfoafajepcaaGreatDoorProg
import Derived.Test.YtpanfoafajepcaaGreatDoorGv
import Derived.Test.YtpanfoafajepcaaGreatDoorRaZ
set_option linter.unusedVariables false
set_option linter.defProp false
set_option maxRecDepth 100000
namespace Go.Proofs.YtpanfoafajepcaaGreatDoor.RaI
open Tryz (prog)
open Go Go.AM RaZ
open Go.AM.Pk
noncomputable def Z9L:List V:=[(.string ⟨⟨[]⟩⟩)]
noncomputable def Z57L:List V:=[(.map none),(.pointer none)]
noncomputable def Z65L:List V:=[(.map none)]
noncomputable def Z70L:List V:=[(.string ⟨⟨[]⟩⟩),(.bool false),(.bool false),(.pointer none),(.map none),(.map none),(.map none),(.string ⟨⟨[]⟩⟩),(.bool false)]
noncomputable def Z31L:List V:=[(.string ⟨⟨[]⟩⟩),(.string ⟨⟨[]⟩⟩),(.int .u8 0),(.bool false)]
noncomputable def Z31:V:=.agg ⟨Z31L⟩
noncomputable def Z74L:List V:=[]
noncomputable def Z74:V:=.agg ⟨Z74L⟩
noncomputable def Z58:V:=(.pointer none)
noncomputable def Z5:V:=(.int .u8 0)
noncomputable def Z5L:List V:=[(.int .u8 0)]
noncomputable def Z71:V:=(.slice none 0 0)
noncomputable def Z52L:List V:=[(.string ⟨⟨[]⟩⟩),(.int .u8 0)]
noncomputable def Z52:V:=.agg ⟨Z52L⟩
noncomputable def bDz:List V:=[(.slice none 0 0)]
noncomputable def Z97L:List V:=[(.pointer none),(.int .i64 0),(.bool false)]
noncomputable def Z94:V:=(.pointer none)
noncomputable def Z149:V:=.nilFunc
variable (C:CF)(L:Nat){β:Type}(h:H)(K:KK β)(B E I G U P S J W x9 xb xd xc xh xf xj Y xa Z xo xp xq xr xs xt xu xv xg xw xk xl xe xx xm xn xi xy:V)
noncomputable def c4a:Code:=(Tryz.f4.body).getD .skip
noncomputable def aQf (kr kn:K1 β):=bnd (A.zH B) fun c=>bnd (A.zA prog .gtr 3 c (.int .i64 200)) fun d=>aC d fun e=>(bif e then
 kr (.bool true) h
 else
 kn B h)
noncomputable def aTy (kn:K2 β):=kn (.int .i64 0) B h
noncomputable def aFm (kx0:K0 β)(kn:K2 β):=bnd (A.zH B) fun c=>bnd (A.zA prog .lss 3 G c) fun d=>aC d fun e=>(bif e then
 kn G B h
 else
 kx0 h)
noncomputable def aMe (kn:K3 β):=bnd (A.zL 35 B G) fun c=>bnd (A.u 4 c) fun d=>bnd (A.load true 24 d h) fun e=>aF (C 7 [e] h) fun f i=>aC f fun j=>(bif j then
 kn (.bool true) G B i
 else
 bnd (A.zL 35 B G) fun q=>bnd (A.u 3 q) fun r=>bnd (A.load false 1 r i) fun s=>bnd (A.zG s) fun t=>bnd (A.zA prog .gtr 3 t (.int .i64 300)) fun u=>aC u fun v=>(bif v then
 kn (.bool true) G B i
 else
 bnd (A.zL 35 B G) fun c1=>bnd (A.u 28 c1) fun d1=>bnd (A.u 0 d1) fun e1=>bnd (A.load false 1 e1 i) fun f1=>bnd (A.zG f1) fun i1=>bnd (A.zL 35 B G) fun l1=>bnd (A.u 28 l1) fun m1=>bnd (A.u 1 m1) fun n1=>bnd (A.load false 1 n1 i) fun o1=>bnd (A.zG o1) fun p1=>bnd (A.zA prog .add 3 i1 p1) fun q1=>bnd (A.zA prog .gtr 3 q1 (.int .i64 300)) fun r1=>aC r1 fun s1=>kn (.bool s1) G B i))
noncomputable def aMd (kr:K1 β)(kn:K2 β):=aW xr (kr (.bool true) h) (kn G B h)
noncomputable def aEy (kr:K1 β)(kn:K2 β):=aMe C h B G (fun xr G B h=>aMd h B G xr kr kn)
theorem aZw:execK prog C L 3 46 [2] (g c4a 932) [3,0] [(1,[3,0]),(0,[])] (r2 3 0 G B) h K=aEy C h B G (R K [2]) (N K [3,0]):=by unfold aEy;refine(y 1 [45,3,0] ?_ ?_ ?_)<;>intros<;>kernel_rfl
noncomputable def aTx (kn:K2 β):=bnd (A.zA prog .add 3 G (.int .i64 1)) fun b=>kn b B h
noncomputable def sO (C:CF)(L:Nat){β:Type}(kr:K1 β)(kx0:K0 β):Nat→K2 β
 |0,_,_,_=>none
 |n+1,G,B,h=>aFm h B G kx0 (fun G B h=>aEy C h B G kr (fun G B h=>aTx h B G (fun G B h=>sO C L kr kx0 n G B h)))
theorem aZq (C:CF)(L:Nat){β:Type}(K:KK β):∀n,M (fun fr h=>Lw prog C L 3 46 [2] (g c4a 116) [3,0] [(0,[])] n fr h K) [3,0]=sO C L (R K [2]) (X K 0 []) n:=by refine lw [3,0] [3,0] (F:=fun kn G B h=>aFm h B G (X K 0 []) (fun G B h=>aEy C h B G (R K [2]) (fun G B h=>aTx h B G kn))) ?_ ?_ (fun kn=>w2 fun G B h=>(y 1 [3,0] ?_ (w2 fun G B h=>(q [3,0] (fun k=>(bk 1 (aZw C L h _ B G) ?_)) ?_ ?_)) ?_))<;>intros<;>kernel_rfl
noncomputable def aNj (kr:K1 β)(kn:K0 β):=aTy h B (fun G B h=>sO C L kr kn L G B h)
theorem bBf:execK prog C L 3 46 [2] (g c4a 14) [] [] (r1 0 B) h K=aNj C L h B (R K [2]) (N K []):=by unfold aNj;refine(y 1 [3,0] ?_ (w2 fun G B h=>(bk 0 (lp (c2 (aZq C L _ L) G B h) ?_) ?_)) ?_)<;>intros<;>kernel_rfl
noncomputable def aNf (kr:K1 β):=kr (.bool false) h
noncomputable def p4a (kr:K1 β):=aQf h B kr (fun B h=>aNj C L h B kr (fun h=>aNf h kr))
theorem bMi:execK prog C L 3 46 [2] (g c4a 1) [2] [] (r1 0 B) h K=p4a C L h B (R K [2]):=by unfold p4a;refine(y 2 [0] ?_ (w1 fun B h=>(q [] (fun k=>(bBf C L h _ B)) ?_ ?_)) ?_)<;>intros<;>kernel_rfl
noncomputable def F4 (C:CF)(L:Nat)(B:V)(h:H):O (V×H):=p4a C L h B (fun I h=>some (I,h))
def bOk {D:CF}(L:Nat)(B:V)(h:H){r:V×H}(q:D 4 [B] h=none):=(ti q Tryz.func4 (bMi _ L h _ B) (by kernel_rfl) (by kernel_rfl):F4 (aH prog 3 D) L B h=some r→aH prog 3 D 4 [B] h=some r)
noncomputable def c7a:Code:=(Tryz.f7.body).getD .skip
noncomputable def aQh (kr:K1 β)(kn:K3 β):=aF (A.box 24 B h) fun a b=>bnd (A.u 22 a) fun d=>bnd (A.load false 1 d b) fun e=>bnd (A.zH e) fun f=>bnd (A.zA prog .gtr 3 f (.int .i64 100)) fun i=>aC i fun j=>(bif j then
 kr (.bool true) b
 else
 bnd (A.u 5 a) fun m=>bnd (A.load false 1 m b) fun n=>bnd (A.u 6 a) fun o=>bnd (A.load false 1 o b) fun p=>bnd (A.u 10 a) fun q=>bnd (A.load false 1 q b) fun r=>bnd (A.u 12 a) fun s=>bnd (A.u 0 s) fun t=>bnd (A.load false 1 t b) fun u=>bnd (A.u 12 a) fun v=>bnd (A.u 1 v) fun w=>bnd (A.load false 1 w b) fun y=>bnd (A.u 18 a) fun z=>bnd (A.load false 1 z b) fun a1=>bnd (A.u 19 a) fun b1=>bnd (A.load false 1 b1 b) fun c1=>bnd (A.u 23 a) fun d1=>bnd (A.load false 1 d1 b) fun e1=>aF (A.zF 1 8 Z9L [(0,1,n),(1,1,p),(2,1,r),(3,1,u),(4,1,y),(5,1,a1),(6,1,c1),(7,1,e1)] b) fun f1 i1=>kn a f1 (.int .i64 10000) i1)
noncomputable def aTu (kn:K4 β):=kn (.int .i64 0) E U G h
noncomputable def aOu (kx0:K2 β)(kn:K4 β):=bnd (A.u 22 E) fun b=>bnd (A.load false 1 b h) fun c=>bnd (A.zH c) fun d=>bnd (A.zA prog .lss 3 P d) fun e=>aC e fun f=>(bif f then
 bnd (A.u 22 E) fun j=>bnd (A.load false 1 j h) fun k=>bnd (A.zL 2 k P) fun m=>bnd (A.u 0 m) fun n=>bnd (A.load false 1 n h) fun o=>aF (A.zF 1 1 Z9L [(0,1,o)] h) fun p q=>aF (A.zI 1 16 U p q) fun r s=>bnd (A.zA prog .add 3 P (.int .i64 1)) fun v=>kn v E r G s
 else
 kx0 U G h)
noncomputable def aFy (C:CF)(L:Nat){β:Type}(kx0:K2 β):Nat→K4 β
 |0,_,_,_,_,_=>none
 |n+1,P,E,U,G,h=>aOu h E G U P kx0 (fun P E U G h=>aFy C L kx0 n P E U G h)
theorem aYr (C:CF)(L:Nat){β:Type}(K:KK β):∀n,M (fun fr h=>Lw prog C L 3 66 [2] (g c7a 500) [5,1,4,3] [(0,[4,3])] n fr h K) [5,1,4,3]=aFy C L (X K 0 [4,3]) n:=by refine lw [5,1,4,3] [5,1,4,3] (F:=fun kn P E U G h=>aOu h E G U P (X K 0 [4,3]) kn) ?_ ?_ ?_<;>intros<;>kernel_rfl
noncomputable def aNd (kn:K2 β):=aTu h E G U (fun P E U G h=>aFy C L kn L P E U G h)
theorem bAp:execK prog C L 3 66 [2] (g c7a 62) [4,3] [] (r3 1 4 3 E U G) h K=aNd C L h E G U (N K [4,3]):=by unfold aNd;refine(y 1 [5,1,4,3] ?_ (w4 fun P E U G h=>(bk 0 (lp (c4 (aYr C L _ L) P E U G h) ?_) ?_)) ?_)<;>intros<;>kernel_rfl
noncomputable def aTt (kn:K3 β):=kn (.int .i64 0) U G h
noncomputable def aLw (kr:K1 β)(kx2:K0 β)(kn:K3 β):=bnd (A.zH U) fun c=>bnd (A.zA prog .lss 3 S c) fun d=>aC d fun e=>(bif e then
 bnd (A.zL 1 U S) fun j=>bnd (A.load false 1 j h) fun k=>bnd (A.zG k) fun l=>bnd (A.zA prog .gtr 3 l G) fun n=>aC n fun o=>(bif o then
 kr (.bool true) h
 else
 bnd (A.zL 1 U S) fun t=>bnd (A.load false 1 t h) fun u=>bnd (A.zG u) fun v=>bnd (A.zA prog .sub 3 G v) fun w=>bnd (A.zA prog .add 3 S (.int .i64 1)) fun a1=>kn a1 U w h)
 else
 kx2 h)
noncomputable def aAv (C:CF)(L:Nat){β:Type}(kr:K1 β)(kx2:K0 β):Nat→K3 β
 |0,_,_,_,_=>none
 |n+1,S,U,G,h=>aLw h G U S kr kx2 (fun S U G h=>aAv C L kr kx2 n S U G h)
theorem aZk (C:CF)(L:Nat){β:Type}(K:KK β):∀n,M (fun fr h=>Lw prog C L 3 66 [2] (g c7a 1012) [6,4,3] [(2,[])] n fr h K) [6,4,3]=aAv C L (R K [2]) (X K 2 []) n:=by refine lw [6,4,3] [6,4,3] (F:=fun kn S U G h=>aLw h G U S (R K [2]) (X K 2 []) kn) ?_ ?_ ?_<;>intros<;>kernel_rfl
noncomputable def aGm (kr:K1 β)(kn:K0 β):=aTt h G U (fun S U G h=>aAv C L kr kn L S U G h)
theorem bAn:execK prog C L 3 66 [2] (g c7a 126) [] [] (r2 4 3 U G) h K=aGm C L h G U (R K [2]) (N K []):=by unfold aGm;refine(y 1 [6,4,3] ?_ (w3 fun S U G h=>(bk 2 (lp (c3 (aZk C L _ L) S U G h) ?_) ?_)) ?_)<;>intros<;>kernel_rfl
noncomputable def aGl (kr:K1 β):=kr (.bool false) h
noncomputable def p7a (kr:K1 β):=aQh h B kr (fun E U G h=>aNd C L h E G U (fun U G h=>aGm C L h G U kr (fun h=>aGl h kr)))
theorem bMg:execK prog C L 3 66 [2] (g c7a 1) [2] [] (r1 0 B) h K=p7a C L h B (R K [2]):=by unfold p7a;refine(y 4 [1,4,3] ?_ (w3 fun E U G h=>(q [4,3] (fun k=>(bAp C L h _ E G U)) (w2 fun U G h=>(q [] (fun k=>(bAn C L h _ G U)) ?_ ?_)) ?_)) ?_)<;>intros<;>kernel_rfl
noncomputable def F7 (C:CF)(L:Nat)(B:V)(h:H):O (V×H):=p7a C L h B (fun I h=>some (I,h))
def bOj {D:CF}(L:Nat)(B:V)(h:H){r:V×H}(q:D 7 [B] h=none):=(ti q Tryz.func7 (bMg _ L h _ B) (by kernel_rfl) (by kernel_rfl):F7 (aH prog 3 D) L B h=some r→aH prog 3 D 7 [B] h=some r)
noncomputable def bNr:Code:=(Tryz.f14.body).getD .skip
noncomputable def aWt (kr:K1 β):=aF (A.zJ h) fun b c=>aF (C 16 [] c) fun d e=>bnd (A.zN Z57L [(0,1,b),(1,1,d)]) fun f=>aF (A.box 2 f e) fun i j=>kr i j
theorem bDt:execK prog C L 3 5 [0] (g bNr 1) [0] [] r0 h K=aWt C h (R K [0]):=by kernel_rfl
noncomputable def F14 (C:CF)(L:Nat)(h:H):O (V×H):=aWt C h (fun B h=>some (B,h))
def bFr {D:CF}(L:Nat)(h:H){r:V×H}(q:D 14 [] h=none):=(ti q Tryz.func14 (bDt _ L h _) (by kernel_rfl) (by kernel_rfl):F14 (aH prog 3 D) L h=some r→aH prog 3 D 14 [] h=some r)
noncomputable def bNq:Code:=(Tryz.f16.body).getD .skip
noncomputable def aWs (kr:K1 β):=aF (A.zJ h) fun b c=>bnd (A.zN Z65L [(0,1,b)]) fun d=>aF (A.box 1 d c) fun e f=>kr e f
theorem bDr:execK prog C L 3 4 [0] (g bNq 1) [0] [] r0 h K=aWs h (R K [0]):=by kernel_rfl
noncomputable def F16 (C:CF)(L:Nat)(h:H):O (V×H):=aWs h (fun B h=>some (B,h))
def bFq {D:CF}(L:Nat)(h:H){r:V×H}(q:D 16 [] h=none):=(ti q Tryz.func16 (bDr _ L h _) (by kernel_rfl) (by kernel_rfl):F16 (aH prog 3 D) L h=some r→aH prog 3 D 16 [] h=some r)
noncomputable def aRx:Code:=(Tryz.f17.body).getD .skip
noncomputable def bIa (kn:K3 β):=aF (A.zJ h) fun b c=>aF (A.zJ c) fun d e=>aF (A.zJ e) fun f i=>bnd (A.zN Z70L [(4,1,b),(5,1,d),(6,1,f)]) fun j=>aF (A.box 9 j i) fun k l=>kn B E k l
noncomputable def bHz (kn:K6 β):=bnd (A.z B) fun b=>bnd (A.u 0 b) fun c=>bnd (A.load false 1 c h) fun d=>aF (C 25 [d] h) fun e f=>bnd (A.zH e) fun i=>kn i (.int .i64 0) e B E P f
noncomputable def aPv (kx0:K3 β)(kn:K6 β):=bnd (A.zA prog .lss 3 Z xa) fun a=>aW a (kn Z xa Y B E P h) (kx0 B E P h)
noncomputable def bHy (kn:K7 β):=bnd (A.zL 4 Y Z) fun a=>bnd (A.load true 4 a h) fun b=>aF (A.box 4 Z31 h) fun c d=>bnd (A.store 4 c b d) fun f=>kn c Z xa Y B E P f
noncomputable def bHx (kn:K6 β):=bnd (A.z P) fun b=>bnd (A.u 4 b) fun c=>bnd (A.load false 1 c h) fun d=>bnd (A.u 0 J) fun e=>bnd (A.load false 1 e h) fun f=>bnd (A.load true 4 J h) fun i=>aF (A.zF 4 1 Z31L [(0,4,i)] h) fun j k=>bnd (A.zK true f j d k) fun m=>bnd (A.z P) fun o=>bnd (A.u 5 o) fun p=>bnd (A.load false 1 p m) fun q=>bnd (A.u 0 J) fun r=>bnd (A.load false 1 r m) fun s=>bnd (A.zN Z74L []) fun t=>bnd (A.zK true s t q m) fun v=>kn Z xa Y B E P v
noncomputable def aMx (kn:K6 β):=bHy h B E P Y xa Z (fun J Z xa Y B E P h=>bHx h B E P J Y xa Z kn)
theorem aZn:execK prog C L 3 46 [4] (g aRx 1868) [19,18,17,0,1,5] [(1,[19,18,17,0,1,5]),(0,[0,1,5])] (r6 19 18 17 0 1 5 Z xa Y B E P) h K=aMx h B E P Y xa Z (N K [19,18,17,0,1,5]):=by unfold aMx;refine(y 1 [7,19,18,17,0,1,5] ?_ ?_ ?_)<;>intros<;>kernel_rfl
noncomputable def aVg (kn:K6 β):=bnd (A.zA prog .add 3 Z (.int .i64 1)) fun a=>kn xa a Y B E P h
noncomputable def aGg (C:CF)(L:Nat){β:Type}(kx0:K3 β):Nat→K6 β
 |0,_,_,_,_,_,_,_=>none
 |n+1,xa,Z,Y,B,E,P,h=>aPv h B E P Y xa Z kx0 (fun Z xa Y B E P h=>aMx h B E P Y xa Z (fun Z xa Y B E P h=>aVg h B E P Y xa Z (fun xa Z Y B E P h=>aGg C L kx0 n xa Z Y B E P h)))
theorem aZc (C:CF)(L:Nat){β:Type}(K:KK β):∀n,M (fun fr h=>Lw prog C L 3 46 [4] (g aRx 116) [18,19,17,0,1,5] [(0,[0,1,5])] n fr h K) [18,19,17,0,1,5]=aGg C L (X K 0 [0,1,5]) n:=by refine lw [18,19,17,0,1,5] [18,19,17,0,1,5] (F:=fun kn xa Z Y B E P h=>aPv h B E P Y xa Z (X K 0 [0,1,5]) (fun Z xa Y B E P h=>aMx h B E P Y xa Z (fun Z xa Y B E P h=>aVg h B E P Y xa Z kn))) ?_ ?_ (fun kn=>w6 fun xa Z Y B E P h=>(y 2 [19,18,17,0,1,5] ?_ (w6 fun Z xa Y B E P h=>(q [19,18,17,0,1,5] (fun k=>(bk 1 (aZn C L h _ B E P Y xa Z) ?_)) ?_ ?_)) ?_))<;>intros<;>kernel_rfl
noncomputable def aQv (kn:K3 β):=bHz C h B E P (fun xa Z Y B E P h=>aGg C L kn L xa Z Y B E P h)
theorem bAz:execK prog C L 3 46 [4] (g aRx 14) [0,1,5] [] (r3 0 1 5 B E P) h K=aQv C L h B E P (N K [0,1,5]):=by unfold aQv;refine(y 1 [18,19,17,0,1,5] ?_ (w6 fun xa Z Y B E P h=>(bk 0 (lp (c6 (aZc C L _ L) xa Z Y B E P h) ?_) ?_)) ?_)<;>intros<;>kernel_rfl
noncomputable def aPu (kr:K1 β):=bnd (A.z B) fun b=>bnd (A.u 2 b) fun c=>bnd (A.load false 1 c h) fun d=>bnd (A.zK false E P d h) fun j=>kr P j
noncomputable def aRm (kr:K1 β):=bIa h B E (fun B E P h=>aQv C L h B E P (fun B E P h=>aPu h B E P kr))
theorem bDq:execK prog C L 3 46 [4] (g aRx 1) [4] [] (r2 0 1 B E) h K=aRm C L h B E (R K [4]):=by unfold aRm;refine(y 2 [0,1,5] ?_ (w3 fun B E P h=>(q [0,1,5] (fun k=>(bAz C L h _ B E P)) ?_ ?_)) ?_)<;>intros<;>kernel_rfl
noncomputable def F17 (C:CF)(L:Nat)(B E:V)(h:H):O (V×H):=aRm C L h B E (fun U h=>some (U,h))
def bFp {D:CF}(L:Nat)(B E:V)(h:H){r:V×H}(q:D 17 [B,E] h=none):=(ti q Tryz.func17 (bDq _ L h _ B E) (by kernel_rfl) (by kernel_rfl):F17 (aH prog 3 D) L B E h=some r→aH prog 3 D 17 [B,E] h=some r)
noncomputable def aXe:Code:=(Tryz.f22.body).getD .skip
noncomputable def aFv (kn:K2 β):=aF (A.box 35 E h) fun a b=>bnd (A.z B) fun e=>bnd (A.u 2 e) fun f=>bnd (A.load false 1 f b) fun i=>bnd (A.u 1 a) fun j=>bnd (A.load false 1 j b) fun k=>bnd (A.zE false Z58 false k i b) fun l=>kn a l b
noncomputable def aFu (kn:K3 β):=bnd (A.zA prog .eql 58 P (.pointer none)) fun b=>aC b fun c=>(bif c then
 kn (.bool true) G P h
 else
 bnd (A.z P) fun m=>bnd (A.u 2 m) fun n=>bnd (A.load false 1 n h) fun o=>aC o fun p=>bnd (A.un prog .not (.bool p)) fun q=>aC q fun r=>(bif r then
 kn (.bool true) G P h
 else
 bnd (A.u 3 G) fun y=>bnd (A.load false 1 y h) fun z=>bnd (A.z P) fun b1=>bnd (A.u 0 b1) fun c1=>bnd (A.load false 1 c1 h) fun d1=>bnd (A.zA prog .neq 9 z d1) fun e1=>aC e1 fun f1=>(bif f1 then
 kn (.bool true) G P h
 else
 bnd (A.z P) fun m1=>bnd (A.u 8 m1) fun n1=>bnd (A.load false 1 n1 h) fun o1=>aC o1 fun p1=>(bif p1 then
 bnd (A.u 28 G) fun r1=>bnd (A.u 0 r1) fun s1=>bnd (A.load false 1 s1 h) fun t1=>bnd (A.z P) fun v1=>bnd (A.u 7 v1) fun w1=>bnd (A.load false 1 w1 h) fun y1=>bnd (A.zA prog .leq 9 t1 y1) fun z1=>aC z1 fun a2=>kn (.bool a2) G P h
 else
 kn (.bool false) G P h))))
noncomputable def aFt (kr:K1 β)(kn:K2 β):=aW xt (kr (.bool false) h) (kn G P h)
noncomputable def aCq (kr:K1 β)(kn:K2 β):=aFu h G P (fun xt G P h=>aFt h G P xt kr kn)
theorem bAj:execK prog C L 3 103 [4] (g aXe 14) [3,5] [] (r2 3 5 G P) h K=aCq h G P (R K [4]) (N K [3,5]):=by unfold aCq;refine(y 1 [49,3,5] ?_ ?_ ?_)<;>intros<;>kernel_rfl
noncomputable def aUs (kn:K4 β):=bnd (A.z P) fun b=>bnd (A.u 3 b) fun c=>bnd (A.load false 1 c h) fun d=>bnd (A.u 28 G) fun e=>bnd (A.u 0 e) fun f=>bnd (A.load false 1 f h) fun i=>aF (C 32 [d,i] h) fun j k=>bnd (A.zB 0 j) fun m=>bnd (A.zB 1 j) fun n=>aC n fun o=>aF (A.box 1 Z5 k) fun p q=>bnd (A.store 1 p m q) fun s=>kn (.bool o) (.func (.func 33) ⟨[]⟩ ⟨[G,p]⟩) G P s
noncomputable def aMl (kn:K3 β):=aC J fun b=>bnd (A.un prog .not (.bool b)) fun c=>aC c fun d=>(bif d then
 kn (.bool true) G P h
 else
 bnd (A.u 34 G) fun k=>bnd (A.load false 1 k h) fun l=>bnd (A.u 28 G) fun m=>bnd (A.u 2 m) fun n=>bnd (A.load false 1 n h) fun o=>bnd (A.zA prog .neq 5 l o) fun p=>aC p fun q=>(bif q then
 kn (.bool true) G P h
 else
 bnd (A.z P) fun v=>bnd (A.u 4 v) fun w=>bnd (A.load false 1 w h) fun y=>bnd (A.u 28 G) fun z=>bnd (A.u 0 z) fun a1=>bnd (A.load false 1 a1 h) fun b1=>bnd (A.zE true Z71 false b1 y h) fun c1=>aF (C 34 [c1,W] h) fun e1 f1=>aC e1 fun i1=>bnd (A.un prog .not (.bool i1)) fun j1=>aC j1 fun k1=>kn (.bool k1) G P f1))
noncomputable def aMk (kr:K1 β)(kn:K2 β):=aW xe (kr (.bool false) h) (kn G P h)
noncomputable def aEz (kr:K1 β)(kn:K2 β):=aMl C h G P J W (fun xe G P h=>aMk h G P xe kr kn)
theorem aZy:execK prog C L 3 103 [4] (g aXe 126) [3,5] [] (r4 7 8 3 5 J W G P) h K=aEz C h G P J W (R K [4]) (N K [3,5]):=by unfold aEz;refine(y 1 [84,3,5] ?_ ?_ ?_)<;>intros<;>kernel_rfl
noncomputable def aUr (kn:K1 β):=bnd (A.u 28 G) fun b=>bnd (A.u 0 b) fun c=>bnd (A.load false 1 c h) fun d=>bnd (A.z P) fun e=>bnd (A.u 7 e) fun f=>bnd (A.store 1 f d h) fun j=>kn P j
noncomputable def aUq (kr:K1 β):=bnd (A.z P) fun b=>bnd (A.u 8 b) fun c=>bnd (A.store 1 c (.bool true) h) fun e=>bnd (A.z P) fun i=>bnd (A.u 6 i) fun j=>bnd (A.load false 1 j e) fun k=>bnd (A.z P) fun m=>bnd (A.u 7 m) fun n=>bnd (A.load false 1 n e) fun o=>bnd (A.zN Z74L []) fun p=>bnd (A.zK true o p k e) fun r=>kr (.bool true) r
noncomputable def aCs (kr:K1 β):=aFv h B E (fun G P h=>aCq h G P kr (fun G P h=>aUs C h G P (fun J W G P h=>aEz C h G P J W kr (fun G P h=>aUr h G P (fun P h=>aUq h P kr)))))
theorem bDl:execK prog C L 3 103 [4] (g aXe 1) [4] [] (r2 0 1 B E) h K=aCs C h B E (R K [4]):=by unfold aCs;refine(y 2 [3,5] ?_ (w2 fun G P h=>(q [3,5] (fun k=>(bAj C L h _ G P)) (w2 fun G P h=>(y 2 [7,8,3,5] ?_ (w4 fun J W G P h=>(q [3,5] (fun k=>(aZy C L h _ G P J W)) (w2 fun G P h=>(y 1 [5] ?_ ?_ ?_)) ?_)) ?_)) ?_)) ?_)<;>intros<;>kernel_rfl
noncomputable def F22 (C:CF)(L:Nat)(B E:V)(h:H):O (V×H):=aCs C h B E (fun U h=>some (U,h))
def bFo {D:CF}(L:Nat)(B E:V)(h:H){r:V×H}(q:D 22 [B,E] h=none):=(ti q Tryz.func22 (bDl _ L h _ B E) (by kernel_rfl) (by kernel_rfl):F22 (aH prog 3 D) L B E h=some r→aH prog 3 D 22 [B,E] h=some r)
noncomputable def bNp:Code:=(Tryz.f25.body).getD .skip
noncomputable def aWr (kr:K1 β):=bnd (A.zA prog .eql 43 B (.pointer none)) fun c=>aC c fun d=>(bif d then
 kr (.slice none 0 0) h
 else
 bnd (A.z B) fun i=>bnd (A.u 1 i) fun j=>bnd (A.load false 1 j h) fun k=>aF (C 35 [k] h) fun l m=>kr l m)
theorem bDi:execK prog C L 3 10 [2] (g bNp 1) [2] [] (r1 0 B) h K=aWr C h B (R K [2]):=by kernel_rfl
noncomputable def F25 (C:CF)(L:Nat)(B:V)(h:H):O (V×H):=aWr C h B (fun I h=>some (I,h))
def bFn {D:CF}(L:Nat)(B:V)(h:H){r:V×H}(q:D 25 [B] h=none):=(ti q Tryz.func25 (bDi _ L h _ B) (by kernel_rfl) (by kernel_rfl):F25 (aH prog 3 D) L B h=some r→aH prog 3 D 25 [B] h=some r)
noncomputable def aGr:Code:=(Tryz.f26.body).getD .skip
noncomputable def qE (kr:K3 β)(kn:K2 β):=aF (A.box 35 E h) fun a b=>bnd (A.zA prog .eql 43 B (.pointer none)) fun i=>aC i fun j=>(bif j then
 kr (.string ⟨⟨[]⟩⟩) (.bool false) (.bool false) b
 else
 bnd (A.z B) fun q=>bnd (A.u 0 q) fun r=>bnd (A.load false 1 r b) fun s=>bnd (A.zA prog .eql 53 s (.map none)) fun t=>aC t fun u=>(bif u then
 kr (.string ⟨⟨[]⟩⟩) (.bool false) (.bool false) b
 else
 kn B a b))
noncomputable def qD (kn:K3 β):=bnd (A.u 0 G) fun a=>bnd (A.load false 1 a h) fun b=>bnd (A.zA prog .eql 5 b (.int .u8 5)) fun c=>aC c fun d=>kn (.bool d) B G h
noncomputable def aUm (kr:K3 β):=bnd (A.z B) fun b=>bnd (A.u 1 b) fun c=>bnd (A.load false 1 c h) fun d=>bnd (A.u 28 G) fun e=>bnd (A.load true 4 e h) fun f=>aF (C 36 [d,f] h) fun i j=>aC i fun k=>kr (.string ⟨⟨[]⟩⟩) (.bool false) (.bool k) j
noncomputable def sN (kr:K3 β)(kn:K2 β):=bnd (A.u 0 G) fun a=>bnd (A.load false 1 a h) fun b=>bnd (A.zA prog .neq 5 b (.int .u8 2)) fun c=>aC c fun d=>(bif d then
 kr (.string ⟨⟨[]⟩⟩) (.bool false) (.bool true) h
 else
 bnd (A.u 4 G) fun k=>bnd (A.u 0 k) fun l=>bnd (A.load false 1 l h) fun m=>bnd (A.zA prog .eql 5 m (.int .u8 1)) fun n=>aC n fun o=>(bif o then
 bnd (A.load true 35 G h) fun r=>aF (C 37 [B,r] h) fun s t=>bnd (A.zB 0 s) fun v=>aC v fun w=>bnd (A.zB 1 s) fun y=>aC y fun z=>kr (.string ⟨⟨[]⟩⟩) (.bool w) (.bool z) t
 else
 kn B G h))
noncomputable def nE (kr:K3 β)(kn:K2 β):=qD h B G (fun xp B G h=>aW xp (aUm C h B G kr) (sN C h B G kr kn))
theorem bBd:execK prog C L 3 137 [4,5,6] (g aGr 28) [0,3] [(0,[0,3])] (r2 0 3 B G) h K=nE C h B G (R K [4,5,6]) (N K [0,3]):=by unfold nE;refine(y 1 [22,0,3] ?_ (w3 fun xp B G h=>(cd ?_ ?_ ?_)) ?_)<;>intros<;>kernel_rfl
noncomputable def xP (kn:K3 β):=bnd (A.u 3 G) fun b=>bnd (A.load false 1 b h) fun c=>aF (C 38 [B,c] h) fun d e=>kn B G d e
noncomputable def xO (kn:K4 β):=bnd (A.zA prog .eql 94 J (.pointer none)) fun b=>aC b fun c=>(bif c then
 kn (.bool true) B G J h
 else
 bnd (A.u 2 G) fun j=>bnd (A.load false 1 j h) fun k=>bnd (A.zA prog .lss 3 k (.int .i64 1)) fun l=>aC l fun m=>(bif m then
 kn (.bool true) B G J h
 else
 bnd (A.z J) fun r=>bnd (A.u 1 r) fun s=>bnd (A.load false 1 s h) fun t=>bnd (A.u 2 G) fun u=>bnd (A.load false 1 u h) fun v=>bnd (A.zA prog .neq 3 t v) fun w=>aC w fun y=>kn (.bool y) B G J h))
noncomputable def xN (kr kn:K3 β):=aW xv (kr (.string ⟨⟨[]⟩⟩) (.bool false) (.bool false) h) (kn B G J h)
noncomputable def tD (kr kn:K3 β):=xO h B G J (fun xv B G J h=>xN h B G J xv kr kn)
theorem bAx:execK prog C L 3 137 [4,5,6] (g aGr 62) [0,3,7] [] (r3 0 3 7 B G J) h K=tD h B G J (R K [4,5,6]) (N K [0,3,7]):=by unfold tD;refine(y 1 [69,0,3,7] ?_ ?_ ?_)<;>intros<;>kernel_rfl
noncomputable def aEq (kn:K4 β):=bnd (A.u 4 G) fun a=>bnd (A.u 0 a) fun b=>bnd (A.load false 1 b h) fun c=>kn c B G J h
noncomputable def aEp (kn:K5 β):=bnd (A.zA prog .eql 5 xg (.int .u8 8)) fun a=>aC a fun b=>kn (.bool b) xg B G J h
noncomputable def bHj (kn:K3 β):=bnd (A.u 4 G) fun a=>bnd (A.u 22 a) fun b=>bnd (A.load false 1 b h) fun c=>bnd (A.zH c) fun d=>aF (A.zP 1 1 Z5L (.int .i64 0) d h) fun e f=>kn G J e f
noncomputable def bHi (kn:K5 β):=bnd (A.u 4 G) fun a=>bnd (A.u 22 a) fun b=>bnd (A.load false 1 b h) fun c=>bnd (A.zH c) fun d=>kn d (.int .i64 0) J c W h
noncomputable def aPg (kx2:K1 β)(kn:K5 β):=bnd (A.zA prog .lss 3 xe xl) fun a=>aW a (bnd (A.zL 2 xk xe) fun b=>bnd (A.load true 2 b h) fun c=>aF (A.box 2 Z52 h) fun d e=>bnd (A.store 2 d c e) fun i=>bnd (A.z J) fun l=>bnd (A.u 0 l) fun m=>bnd (A.load false 1 m i) fun n=>bnd (A.u 0 d) fun o=>bnd (A.load false 1 o i) fun p=>bnd (A.u 1 d) fun q=>bnd (A.load false 1 q i) fun r=>aF (C 29 [n,p,r] i) fun s t=>aF (A.zF 1 1 Z5L [(0,1,s)] t) fun u v=>aF (A.zI 1 1 W u v) fun w y=>bnd (A.zA prog .add 3 xe (.int .i64 1)) fun a1=>kn xl a1 J xk w y) (kx2 W h)
noncomputable def aGa (C:CF)(L:Nat){β:Type}(kx2:K1 β):Nat→K5 β
 |0,_,_,_,_,_,_=>none
 |n+1,xl,xe,J,xk,W,h=>aPg C h J W xk xl xe kx2 (fun xl xe J xk W h=>aGa C L kx2 n xl xe J xk W h)
theorem aYw (C:CF)(L:Nat){β:Type}(K:KK β):∀n,M (fun fr h=>Lw prog C L 3 137 [4,5,6] (g aGr 64852) [83,84,7,82,8] [(2,[8]),(1,[])] n fr h K) [83,84,7,82,8]=aGa C L (X K 2 [8]) n:=by refine lw [83,84,7,82,8] [83,84,7,82,8] (F:=fun kn xl xe J xk W h=>aPg C h J W xk xl xe (X K 2 [8]) kn) ?_ ?_ ?_<;>intros<;>kernel_rfl
noncomputable def aQk (kn:K1 β):=bHi h G J W (fun xl xe J xk W h=>aGa C L kn L xl xe J xk W h)
theorem bAc:execK prog C L 3 137 [4,5,6] (g aGr 8106) [8] [(1,[])] (r3 3 7 8 G J W) h K=aQk C L h G J W (N K [8]):=by unfold aQk;refine(y 1 [83,84,7,82,8] ?_ (w5 fun xl xe J xk W h=>(bk 2 (lp (c5 (aYw C L _ L) xl xe J xk W h) ?_) ?_)) ?_)<;>intros<;>kernel_rfl
noncomputable def aPf (kr:K3 β):=bnd (A.b2s W h) fun b=>kr b (.bool false) (.bool true) h
noncomputable def aFs (kn:K5 β):=bnd (A.zA prog .eql 5 xg (.int .u8 10)) fun a=>aC a fun b=>kn (.bool b) xg B G J h
noncomputable def bHk (kn:K4 β):=bnd (A.u 4 G) fun a=>bnd (A.u 22 a) fun b=>bnd (A.load false 1 b h) fun c=>bnd (A.zH c) fun d=>kn d (.int .i64 0) J c h
noncomputable def aPh (kx4:K0 β)(kn:K4 β):=bnd (A.zA prog .lss 3 xi xn) fun a=>aW a (bnd (A.zL 2 xm xi) fun b=>bnd (A.load true 2 b h) fun c=>aF (A.box 2 Z52 h) fun d e=>bnd (A.store 2 d c e) fun i=>bnd (A.z J) fun k=>bnd (A.u 0 k) fun l=>bnd (A.load false 1 l i) fun m=>bnd (A.u 0 d) fun n=>bnd (A.load false 1 n i) fun o=>aF (C 39 [m,o] i) fun p q=>aC p fun r=>bnd (A.zA prog .add 3 xi (.int .i64 1)) fun s=>kn xn s J xm q) (kx4 h)
noncomputable def aGb (C:CF)(L:Nat){β:Type}(kx4:K0 β):Nat→K4 β
 |0,_,_,_,_,_=>none
 |n+1,xn,xi,J,xm,h=>aPh C h J xm xn xi kx4 (fun xn xi J xm h=>aGb C L kx4 n xn xi J xm h)
theorem aYx (C:CF)(L:Nat){β:Type}(K:KK β):∀n,M (fun fr h=>Lw prog C L 3 137 [4,5,6] (g aGr 64884) [108,109,7,107] [(4,[]),(1,[])] n fr h K) [108,109,7,107]=aGb C L (X K 4 []) n:=by refine lw [108,109,7,107] [108,109,7,107] (F:=fun kn xn xi J xm h=>aPh C h J xm xn xi (X K 4 []) kn) ?_ ?_ ?_<;>intros<;>kernel_rfl
noncomputable def aIt (kn:K4 β):=bnd (A.zA prog .eql 5 xg (.int .u8 14)) fun a=>aC a fun b=>(bif b then
 kn (.bool b) B G J h
 else
 bnd (A.zA prog .eql 5 xg (.int .u8 0)) fun d=>aC d fun e=>kn (.bool e) B G J h)
noncomputable def aIs (kr:K3 β)(kn:K0 β):=aW xy (bnd (A.z J) fun b=>bnd (A.u 1 b) fun c=>bnd (A.store 1 c (.int .i64 0) h) fun e=>bnd (A.z J) fun i=>bnd (A.u 2 i) fun j=>bnd (A.load false 1 j e) fun k=>aC k fun l=>(bif l then
 bnd (A.z B) fun n=>bnd (A.u 0 n) fun o=>bnd (A.load false 1 o e) fun p=>bnd (A.u 3 G) fun q=>bnd (A.load false 1 q e) fun r=>bnd (A.zY true r p e) fun t=>kn t
 else
 kn e)) (kr (.string ⟨⟨[]⟩⟩) (.bool false) (.bool false) h)
noncomputable def aAx (kr:K3 β)(kn:K0 β):=aEq h B G J (fun xg B G J h=>aEp h B G J xg (fun xw xg B G J h=>aW xw (bHj h G J (fun G J W h=>aQk C L h G J W (fun W h=>aPf h W kr))) (aFs h B G J xg (fun xx xg B G J h=>aW xx (bHk h G J (fun xn xi J xm h=>aGb C L kn L xn xi J xm h)) (aIt h B G J xg (fun xy B G J h=>aIs h B G J xy kr kn))))))
theorem bBm:execK prog C L 3 137 [4,5,6] (g aGr 126) [] [] (r3 0 3 7 B G J) h K=aAx C L h B G J (R K [4,5,6]) (N K []):=by unfold aAx;refine(y 1 [72,0,3,7] ?_ (w4 fun xg B G J h=>(bk 1 (y 1 [73,72,0,3,7] ?_ (w5 fun xw xg B G J h=>(cd (y 1 [3,7,8] ?_ (w3 fun G J W h=>(q [8] (fun k=>(bAc C L h _ G J W)) ?_ ?_)) ?_) (y 1 [103,72,0,3,7] ?_ (w5 fun xx xg B G J h=>(cd (y 1 [108,109,7,107] ?_ (w4 fun xn xi J xm h=>(bk 4 (lp (c4 (aYx C L _ L) xn xi J xm h) ?_) ?_)) ?_) (y 1 [121,0,3,7] ?_ ?_ ?_) ?_)) ?_) ?_)) ?_) ?_)) ?_)<;>intros<;>kernel_rfl
noncomputable def aFr (kr:K3 β):=kr (.string ⟨⟨[]⟩⟩) (.bool false) (.bool true) h
noncomputable def nF (kr:K3 β):=qE h B E kr (fun B G h=>nE C h B G kr (fun B G h=>xP C h B G (fun B G J h=>tD h B G J kr (fun B G J h=>aAx C L h B G J kr (fun h=>aFr h kr)))))
theorem bDh:execK prog C L 3 137 [4,5,6] (g aGr 1) [4,5,6] [] (r2 0 1 B E) h K=nF C L h B E (R K [4,5,6]):=by unfold nF;refine(y 2 [0,3] ?_ (w2 fun B G h=>(q [0,3] (fun k=>(bk 0 (bBd C L h _ B G) ?_)) (w2 fun B G h=>(y 1 [0,3,7] ?_ (w3 fun B G J h=>(q [0,3,7] (fun k=>(bAx C L h _ B G J)) (w3 fun B G J h=>(q [] (fun k=>(bBm C L h _ B G J)) ?_ ?_)) ?_)) ?_)) ?_)) ?_)<;>intros<;>kernel_rfl
noncomputable def F26 (C:CF)(L:Nat)(B E:V)(h:H):O (V×H):=nF C L h B E (fun U P S h=>some (.tuple ⟨[U,P,S]⟩,h))
def bFm {D:CF}(L:Nat)(B E:V)(h:H){r:V×H}(q:D 26 [B,E] h=none):=(ti q Tryz.func26 (bDh _ L h _ B E) (by kernel_rfl) (by kernel_rfl):F26 (aH prog 3 D) L B E h=some r→aH prog 3 D 26 [B,E] h=some r)
noncomputable def bNo:Code:=(Tryz.f27.body).getD .skip
noncomputable def aRl (kr:K2 β):=aF (C 38 [B,E] h) fun e f=>bnd (A.zA prog .neq 94 e (.pointer none)) fun k=>aC k fun l=>(bif l then
 bnd (A.z e) fun n=>bnd (A.u 0 n) fun o=>bnd (A.load false 1 o f) fun p=>aF (C 32 [p,I] f) fun r s=>bnd (A.zB 0 r) fun t=>bnd (A.zB 1 r) fun u=>aC u fun v=>kr t (.bool v) s
 else
 kr (.int .u8 0) (.bool false) f)
theorem bDg:execK prog C L 3 22 [6,7] (g bNo 1) [6,7] [] (r3 0 1 2 B E I) h K=aRl C h B E I (R K [6,7]):=by kernel_rfl
noncomputable def F27 (C:CF)(L:Nat)(B E I:V)(h:H):O (V×H):=aRl C h B E I (fun S J h=>some (.tuple ⟨[S,J]⟩,h))
def aOn {D:CF}(L:Nat)(B E I:V)(h:H){r:V×H}(q:D 27 [B,E,I] h=none):=(ti q Tryz.func27 (bDg _ L h _ B E I) (by kernel_rfl) (by kernel_rfl):F27 (aH prog 3 D) L B E I h=some r→aH prog 3 D 27 [B,E,I] h=some r)
noncomputable def bNn:Code:=(Tryz.f28.body).getD .skip
noncomputable def bJo (kr:K1 β):=bnd (A.zN bDz []) fun b=>aF (A.box 1 b h) fun c d=>kr c d
theorem bDf:execK prog C L 3 3 [0] (g bNn 1) [0] [] r0 h K=bJo h (R K [0]):=by kernel_rfl
noncomputable def F28 (C:CF)(L:Nat)(h:H):O (V×H):=bJo h (fun B h=>some (B,h))
def bFl {D:CF}(L:Nat)(h:H){r:V×H}(q:D 28 [] h=none):=(ti q Tryz.func28 (bDf _ L h _) (by kernel_rfl) (by kernel_rfl):F28 (aH prog 3 D) L h=some r→aH prog 3 D 28 [] h=some r)
noncomputable def aXb:Code:=(Tryz.f29.body).getD .skip
noncomputable def aIr (kn:K3 β):=kn E B I h
noncomputable def aIq (kn:K4 β):=bnd (A.zA prog .eql 68 B (.pointer none)) fun b=>aC b fun c=>(bif c then
 kn (.bool true) E B I h
 else
 bnd (A.zA prog .gtr 5 I (.int .u8 2)) fun k=>aC k fun l=>(bif l then
 kn (.bool true) E B I h
 else
 aF (C 40 [E] h) fun q r=>aC q fun s=>bnd (A.un prog .not (.bool s)) fun t=>aC t fun u=>kn (.bool u) E B I r))
noncomputable def aIp (kr:K1 β)(kn:K3 β):=aW Z (kr (.int .u8 128) h) (kn E B I h)
noncomputable def aFa (kr:K1 β)(kn:K3 β):=aIq C h B E I (fun Z E B I h=>aIp h B E I Z kr kn)
theorem bAb:execK prog C L 3 66 [6] (g aXb 6) [1,0,2] [] (r3 1 0 2 E B I) h K=aFa C h B E I (R K [6]) (N K [1,0,2]):=by unfold aFa;refine(y 1 [19,1,0,2] ?_ ?_ ?_)<;>intros<;>kernel_rfl
noncomputable def aPe (kn:K5 β):=aF (C 41 [B,E] h) fun c d=>bnd (A.zB 0 c) fun f=>bnd (A.zB 1 c) fun i=>aC i fun j=>kn (.bool j) E B f I d
noncomputable def aPd (kn:K5 β):=aC W fun b=>kn (.bool b) E B J I h
noncomputable def bHf (kn:K1 β):=bnd (A.z B) fun b=>bnd (A.u 0 b) fun c=>bnd (A.load false 1 c h) fun d=>bnd (A.zL 2 d J) fun i=>bnd (A.u 1 i) fun j=>bnd (A.store 1 j I h) fun l=>kn I l
noncomputable def aUl (kn:K5 β):=bnd (A.z B) fun b=>bnd (A.u 0 b) fun c=>bnd (A.load false 1 c h) fun d=>bnd (A.zH d) fun e=>bnd (A.zA prog .eql 3 e (.int .i64 16)) fun f=>aC f fun i=>kn (.bool i) E B J I h
noncomputable def bHg (kr:K1 β):=kr (.int .u8 128) h
noncomputable def bHh (kn:K1 β):=bnd (A.z B) fun c=>bnd (A.u 0 c) fun d=>bnd (A.load false 1 d h) fun e=>bnd (A.zM 2 e none (some J) (some J) h) fun j=>bnd (A.zN Z52L [(0,1,E),(1,1,I)]) fun m=>aF (A.zF 2 1 Z52L [(0,2,m)] h) fun n o=>aF (A.zI 2 24 j n o) fun p q=>bnd (A.z B) fun s=>bnd (A.u 0 s) fun t=>bnd (A.load false 1 t q) fun u=>bif (chk (bnd (A.load false 1 t o) fun v=>some v) u&&true)then
 bnd (A.zM 2 u (some J) none none q) fun w=>bif (chk (bnd (A.zM 2 u (some J) none none o) fun v=>some v) w&&true)then
 aF (A.zI 2 24 p w q) fun y z=>bnd (A.z B) fun a1=>bnd (A.u 0 a1) fun b1=>bnd (A.store 1 b1 y z) fun d1=>kn I d1
 else none
 else none
noncomputable def aJe (kr kn:K1 β):=aPd h B E I J W (fun xs E B J I h=>aW xs (bHf h B I J kn) (aUl h B E I J (fun xu E B J I h=>aW xu (bHg h kr) (bHh h B E I J kn))))
theorem bAf:execK prog C L 3 66 [6] (g aXb 60) [2] [(0,[2])] (r5 8 1 0 7 2 W E B J I) h K=aJe h B E I J W (R K [6]) (N K [2]):=by unfold aJe;refine(y 1 [48,1,0,7,2] ?_ (w5 fun xs E B J I h=>(cd ?_ (y 1 [58,1,0,7,2] ?_ (w5 fun xu E B J I h=>(cd ?_ ?_ ?_)) ?_) ?_)) ?_)<;>intros<;>kernel_rfl
noncomputable def aUk (kr:K1 β):=kr I h
noncomputable def aFc (kr:K1 β):=aIr h B E I (fun E B I h=>aFa C h B E I kr (fun E B I h=>aPe C h B E I (fun W E B J I h=>aJe h B E I J W kr (fun I h=>aUk h I kr))))
theorem bDe:execK prog C L 3 66 [6] (g aXb 1) [6] [] (r3 0 1 2 B E I) h K=aFc C h B E I (R K [6]):=by unfold aFc;refine(y 1 [1,0,2] ?_ (w3 fun E B I h=>(q [1,0,2] (fun k=>(bAb C L h _ B E I)) (w3 fun E B I h=>(y 1 [8,1,0,7,2] ?_ (w5 fun W E B J I h=>(q [2] (fun k=>(bk 0 (bAf C L h _ B E I J W) ?_)) ?_ ?_)) ?_)) ?_)) ?_)<;>intros<;>kernel_rfl
noncomputable def F29 (C:CF)(L:Nat)(B E I:V)(h:H):O (V×H):=aFc C h B E I (fun S h=>some (S,h))
def bFk {D:CF}(L:Nat)(B E I:V)(h:H){r:V×H}(q:D 29 [B,E,I] h=none):=(ti q Tryz.func29 (bDe _ L h _ B E I) (by kernel_rfl) (by kernel_rfl):F29 (aH prog 3 D) L B E I h=some r→aH prog 3 D 29 [B,E,I] h=some r)
noncomputable def bNm:Code:=(Tryz.f31.body).getD .skip
noncomputable def aWq (kr:K1 β):=aF (A.box 4 B h) fun a b=>aF (A.box 4 Z31 b) fun c d=>bnd (A.u 2 a) fun e=>bnd (A.load false 1 e d) fun f=>bnd (A.zS prog .min ⟨[5,5]⟩ 5 [f,E]) fun j=>bnd (A.u 2 a) fun k=>bnd (A.store 1 k j d) fun m=>aC I fun o=>bnd (A.u 3 a) fun p=>bnd (A.store 1 p (.bool o) m) fun r=>bnd (A.load true 4 a r) fun s=>bnd (A.store 4 c s r) fun u=>kr c u
theorem bDc:execK prog C L 3 15 [6] (g bNm 1) [6] [] (r3 0 1 2 B E I) h K=aWq h B E I (R K [6]):=by kernel_rfl
noncomputable def F31 (C:CF)(L:Nat)(B E I:V)(h:H):O (V×H):=aWq h B E I (fun S h=>bnd (bKx (A.load true 4 S h) (some [])) fun vs=>some (sM vs,h))
def bFj {D:CF}(L:Nat)(B E I:V)(h:H){r:V×H}(q:D 31 [B,E,I] h=none):=(ti q Tryz.func31 (bDc _ L h _ B E I) (by kernel_rfl) (by kernel_rfl):F31 (aH prog 3 D) L B E I h=some r→aH prog 3 D 31 [B,E,I] h=some r)
noncomputable def aXa:Code:=(Tryz.f32.body).getD .skip
noncomputable def bHc (kn:K4 β):=kn B E (.int .u8 0) (.bool false) h
noncomputable def bHb (kn:K6 β):=aF (C 42 [B] h) fun b c=>bnd (A.zH b) fun d=>kn d (.int .i64 0) E b S J c
noncomputable def aMj (kx0:K2 β)(kn:K6 β):=bnd (A.zA prog .lss 3 xh xc) fun a=>aW a (bnd (A.zL 2 xd xh) fun b=>bnd (A.load true 2 b h) fun c=>aF (A.box 2 Z52 h) fun d e=>bnd (A.store 2 d c e) fun i=>bnd (A.u 0 d) fun j=>bnd (A.load false 1 j i) fun k=>aF (C 47 [k,E] i) fun m n=>aC m fun o=>(bif o then
 bnd (A.u 1 d) fun q=>bnd (A.load false 1 q n) fun r=>bnd (A.zS prog .max ⟨[5,5]⟩ 5 [S,r]) fun s=>bnd (A.zA prog .add 3 xh (.int .i64 1)) fun v=>kn xc v E xd s (.bool true) n
 else
 bnd (A.zA prog .add 3 xh (.int .i64 1)) fun y=>kn xc y E xd S J n)) (kx0 S J h)
noncomputable def aEu (C:CF)(L:Nat){β:Type}(kx0:K2 β):Nat→K6 β
 |0,_,_,_,_,_,_,_=>none
 |n+1,xc,xh,E,xd,S,J,h=>aMj C h E S J xd xc xh kx0 (fun xc xh E xd S J h=>aEu C L kx0 n xc xh E xd S J h)
theorem aZe (C:CF)(L:Nat){β:Type}(K:KK β):∀n,M (fun fr h=>Lw prog C L 3 28 [4,5] (g aXa 116) [12,13,1,11,6,7] [(0,[6,7])] n fr h K) [12,13,1,11,6,7]=aEu C L (X K 0 [6,7]) n:=by refine lw [12,13,1,11,6,7] [12,13,1,11,6,7] (F:=fun kn xc xh E xd S J h=>aMj C h E S J xd xc xh (X K 0 [6,7]) kn) ?_ ?_ ?_<;>intros<;>kernel_rfl
noncomputable def aQm (kn:K2 β):=bHb C h B E S J (fun xc xh E xd S J h=>aEu C L kn L xc xh E xd S J h)
theorem bAe:execK prog C L 3 28 [4,5] (g aXa 14) [6,7] [] (r4 0 1 6 7 B E S J) h K=aQm C L h B E S J (N K [6,7]):=by unfold aQm;refine(y 1 [12,13,1,11,6,7] ?_ (w6 fun xc xh E xd S J h=>(bk 0 (lp (c6 (aZe C L _ L) xc xh E xd S J h) ?_) ?_)) ?_)<;>intros<;>kernel_rfl
noncomputable def aMi (kr:K2 β):=aC J fun c=>kr S (.bool c) h
noncomputable def aRj (kr:K2 β):=bHc h B E (fun B E S J h=>aQm C L h B E S J (fun S J h=>aMi h S J kr))
theorem bDb:execK prog C L 3 28 [4,5] (g aXa 1) [4,5] [] (r2 0 1 B E) h K=aRj C L h B E (R K [4,5]):=by unfold aRj;refine(y 2 [0,1,6,7] ?_ (w4 fun B E S J h=>(q [6,7] (fun k=>(bAe C L h _ B E S J)) ?_ ?_)) ?_)<;>intros<;>kernel_rfl
noncomputable def F32 (C:CF)(L:Nat)(B E:V)(h:H):O (V×H):=aRj C L h B E (fun U P h=>some (.tuple ⟨[U,P]⟩,h))
def bFi {D:CF}(L:Nat)(B E:V)(h:H){r:V×H}(q:D 32 [B,E] h=none):=(ti q Tryz.func32 (bDb _ L h _ B E) (by kernel_rfl) (by kernel_rfl):F32 (aH prog 3 D) L B E h=some r→aH prog 3 D 32 [B,E] h=some r)
noncomputable def bNl:Code:=(Tryz.f33.body).getD .skip
noncomputable def aWp (kr:K1 β):=aF (A.box 4 B h) fun a b=>bnd (A.u 28 E) fun d=>bnd (A.load true 4 d b) fun e=>bnd (A.load true 4 a b) fun f=>bnd (A.load false 1 I b) fun i=>aF (C 31 [f,i,(.bool true)] b) fun j k=>bif (chk (bnd (A.load true 4 d k) fun v=>some v) e&&true)then
 bnd (A.zA prog .eql 31 e j) fun l=>aC l fun m=>kr (.bool m) k
 else none
theorem bDa:execK prog C L 3 11 [4] (g bNl 1) [4] [] (r3 0 1 2 B E I) h K=aWp C h B E I (R K [4]):=by kernel_rfl
noncomputable def F33 (C:CF)(L:Nat)(B E I:V)(h:H):O (V×H):=aWp C h B E I (fun U h=>some (U,h))
def bFh {D:CF}(L:Nat)(B E I:V)(h:H){r:V×H}(q:D 33 [B,E,I] h=none):=(ti q Tryz.func33 (bDa _ L h _ B E I) (by kernel_rfl) (by kernel_rfl):F33 (aH prog 3 D) L B E I h=some r→aH prog 3 D 33 [B,E,I] h=some r)
noncomputable def bNk:Code:=(Tryz.f34.body).getD .skip
noncomputable def aRi (kr:K1 β):=aF (C 48 [B,E] h) fun d e=>bnd (A.zA prog .geq 3 d (.int .i64 0)) fun f=>aC f fun i=>kr (.bool i) e
theorem bCz:execK prog C L 3 9 [4] (g bNk 1) [4] [] (r2 0 1 B E) h K=aRi C h B E (R K [4]):=by kernel_rfl
noncomputable def F34 (C:CF)(L:Nat)(B E:V)(h:H):O (V×H):=aRi C h B E (fun U h=>some (U,h))
def bFg {D:CF}(L:Nat)(B E:V)(h:H){r:V×H}(q:D 34 [B,E] h=none):=(ti q Tryz.func34 (bCz _ L h _ B E) (by kernel_rfl) (by kernel_rfl):F34 (aH prog 3 D) L B E h=some r→aH prog 3 D 34 [B,E] h=some r)
noncomputable def bNj:Code:=(Tryz.f35.body).getD .skip
noncomputable def aWo (kr:K1 β):=bnd (A.zA prog .eql 54 B (.pointer none)) fun c=>aC c fun d=>(bif d then
 kr (.slice none 0 0) h
 else
 aF (C 50 [B] h) fun i j=>aF (C 49 [i] j) fun k l=>kr k l)
theorem bCy:execK prog C L 3 8 [2] (g bNj 1) [2] [] (r1 0 B) h K=aWo C h B (R K [2]):=by kernel_rfl
noncomputable def F35 (C:CF)(L:Nat)(B:V)(h:H):O (V×H):=aWo C h B (fun I h=>some (I,h))
def bFf {D:CF}(L:Nat)(B:V)(h:H){r:V×H}(q:D 35 [B] h=none):=(ti q Tryz.func35 (bCy _ L h _ B) (by kernel_rfl) (by kernel_rfl):F35 (aH prog 3 D) L B h=some r→aH prog 3 D 35 [B] h=some r)
noncomputable def bNi:Code:=(Tryz.f36.body).getD .skip
noncomputable def aPa (kr:K1 β)(kn:K2 β):=aF (A.box 4 E h) fun a b=>bnd (A.zA prog .eql 54 B (.pointer none)) fun e=>aC e fun f=>(bif f then
 kr (.bool false) b
 else
 bnd (A.load true 4 a b) fun l=>aF (C 51 [l] b) fun m n=>aC m fun o=>bnd (A.un prog .not (.bool o)) fun p=>aC p fun q=>(bif q then
 kr (.bool false) n
 else
 kn B a n))
noncomputable def aUh (kr:K1 β)(kn:K2 β):=bnd (A.u 1 G) fun a=>bnd (A.load false 1 a h) fun b=>bnd (A.zA prog .eql 9 b (.string ⟨⟨[]⟩⟩)) fun c=>aC c fun d=>(bif d then
 bnd (A.z B) fun f=>bnd (A.u 0 f) fun i=>bnd (A.load false 1 i h) fun j=>bnd (A.u 0 G) fun k=>bnd (A.load false 1 k h) fun l=>bnd (A.zY true l j h) fun n=>kr (.bool true) n
 else
 kn B G h)
noncomputable def bHa (kr:K1 β):=bnd (A.u 3 G) fun a=>bnd (A.store 1 a (.bool true) h) fun c=>bnd (A.z B) fun e=>bnd (A.u 0 e) fun f=>bnd (A.load false 1 f c) fun i=>bnd (A.u 0 G) fun j=>bnd (A.load false 1 j c) fun k=>bnd (A.load true 4 G c) fun l=>bnd (A.zK true k l i c) fun n=>kr (.bool true) n
noncomputable def aJh (kr:K1 β):=aPa C h B E kr (fun B G h=>aUh h B G kr (fun B G h=>bHa h B G kr))
theorem bCx:execK prog C L 3 29 [4] (g bNi 1) [4] [] (r2 0 1 B E) h K=aJh C h B E (R K [4]):=by unfold aJh;refine(y 2 [0,3] ?_ (w2 fun B G h=>(y 1 [0,3] ?_ ?_ ?_)) ?_)<;>intros<;>kernel_rfl
noncomputable def F36 (C:CF)(L:Nat)(B E:V)(h:H):O (V×H):=aJh C h B E (fun U h=>some (U,h))
def bFe {D:CF}(L:Nat)(B E:V)(h:H){r:V×H}(q:D 36 [B,E] h=none):=(ti q Tryz.func36 (bCx _ L h _ B E) (by kernel_rfl) (by kernel_rfl):F36 (aH prog 3 D) L B E h=some r→aH prog 3 D 36 [B,E] h=some r)
noncomputable def bKa:Code:=(Tryz.f37.body).getD .skip
noncomputable def aFq (kn:K3 β):=aF (A.box 35 E h) fun a b=>bnd (A.u 3 a) fun f=>bnd (A.load false 1 f b) fun i=>aF (C 38 [B,i] b) fun j k=>kn B j a k
noncomputable def aFp (kn:K4 β):=bnd (A.u 2 G) fun a=>bnd (A.load false 1 a h) fun b=>bnd (A.zA prog .lss 3 b (.int .i64 1)) fun c=>aC c fun d=>(bif d then
 kn (.bool true) B S G h
 else
 bnd (A.zA prog .neq 94 S (.pointer none)) fun j=>aC j fun k=>(bif k then
 bnd (A.z S) fun n=>bnd (A.u 1 n) fun o=>bnd (A.load false 1 o h) fun p=>bnd (A.zA prog .gtr 3 p (.int .i64 0)) fun q=>aC q fun r=>kn (.bool r) B S G h
 else
 kn (.bool false) B S G h))
noncomputable def aFo (kr:K2 β)(kn:K3 β):=aW xq (kr (.bool false) (.bool false) h) (kn B S G h)
noncomputable def aCp (kr:K2 β)(kn:K3 β):=aFp h B G S (fun xq B S G h=>aFo h B G S xq kr kn)
theorem bAh:execK prog C L 3 64 [4,5] (g bKa 14) [0,6,3] [] (r3 0 6 3 B S G) h K=aCp h B G S (R K [4,5]) (N K [0,6,3]):=by unfold aCp;refine(y 1 [24,0,6,3] ?_ ?_ ?_)<;>intros<;>kernel_rfl
noncomputable def aMh (kn:K4 β):=bnd (A.zA prog .neq 94 S (.pointer none)) fun b=>aC b fun c=>(bif c then
 bnd (A.z S) fun f=>bnd (A.u 2 f) fun i=>bnd (A.load false 1 i h) fun j=>aC j fun k=>bnd (A.un prog .not (.bool k)) fun l=>aC l fun m=>(bif m then
 bnd (A.u 4 G) fun p=>bnd (A.u 8 p) fun q=>bnd (A.load false 1 q h) fun r=>aC r fun s=>bnd (A.un prog .not (.bool s)) fun t=>aC t fun u=>kn B S G (.bool u) h
 else
 kn B S G (.bool false) h)
 else
 kn B S G (.bool false) h)
noncomputable def aOz (kn:K3 β):=aC U fun b=>bnd (A.un prog .not (.bool b)) fun c=>aC c fun d=>(bif d then
 aF (C 28 [] h) fun e f=>bnd (A.zN Z97L [(0,1,e)]) fun i=>aF (A.box 3 i f) fun j k=>bnd (A.z B) fun n=>bnd (A.u 0 n) fun o=>bnd (A.load false 1 o k) fun p=>bnd (A.u 3 G) fun q=>bnd (A.load false 1 q k) fun r=>bnd (A.zK true r j p k) fun u=>kn j G U u
 else
 kn S G U h)
noncomputable def aOy (kr:K2 β):=bnd (A.u 2 G) fun b=>bnd (A.load false 1 b h) fun c=>bnd (A.z S) fun d=>bnd (A.u 1 d) fun e=>bnd (A.store 1 e c h) fun i=>bnd (A.u 4 G) fun k=>bnd (A.u 8 k) fun l=>bnd (A.load false 1 l i) fun m=>aC m fun n=>bnd (A.z S) fun o=>bnd (A.u 2 o) fun p=>bnd (A.store 1 p (.bool n) i) fun r=>aC U fun t=>kr (.bool t) (.bool true) r
noncomputable def aCr (kr:K2 β):=aFq C h B E (fun B S G h=>aCp h B G S kr (fun B S G h=>aMh h B G S (fun B S G U h=>aOz C h B G U S (fun S G U h=>aOy h G U S kr))))
theorem bCw:execK prog C L 3 64 [4,5] (g bKa 1) [4,5] [] (r2 0 1 B E) h K=aCr C h B E (R K [4,5]):=by unfold aCr;refine(y 2 [0,6,3] ?_ (w3 fun B S G h=>(q [0,6,3] (fun k=>(bAh C L h _ B G S)) (w3 fun B S G h=>(y 1 [0,6,3,4] ?_ (w4 fun B S G U h=>(y 1 [6,3,4] ?_ ?_ ?_)) ?_)) ?_)) ?_)<;>intros<;>kernel_rfl
noncomputable def F37 (C:CF)(L:Nat)(B E:V)(h:H):O (V×H):=aCr C h B E (fun U P h=>some (.tuple ⟨[U,P]⟩,h))
def bFd {D:CF}(L:Nat)(B E:V)(h:H){r:V×H}(q:D 37 [B,E] h=none):=(ti q Tryz.func37 (bCw _ L h _ B E) (by kernel_rfl) (by kernel_rfl):F37 (aH prog 3 D) L B E h=some r→aH prog 3 D 37 [B,E] h=some r)
noncomputable def bNh:Code:=(Tryz.f38.body).getD .skip
noncomputable def aRh (kr:K1 β):=bnd (A.zA prog .eql 43 B (.pointer none)) fun c=>aC c fun d=>(bif d then
 kr (.pointer none) h
 else
 bnd (A.z B) fun i=>bnd (A.u 0 i) fun j=>bnd (A.load false 1 j h) fun k=>bnd (A.zE true Z94 false E k h) fun m=>kr m h)
theorem bCv:execK prog C L 3 13 [4] (g bNh 1) [4] [] (r2 0 1 B E) h K=aRh h B E (R K [4]):=by kernel_rfl
noncomputable def F38 (C:CF)(L:Nat)(B E:V)(h:H):O (V×H):=aRh h B E (fun U h=>some (U,h))
def bFc {D:CF}(L:Nat)(B E:V)(h:H){r:V×H}(q:D 38 [B,E] h=none):=(ti q Tryz.func38 (bCv _ L h _ B E) (by kernel_rfl) (by kernel_rfl):F38 (aH prog 3 D) L B E h=some r→aH prog 3 D 38 [B,E] h=some r)
noncomputable def bNg:Code:=(Tryz.f39.body).getD .skip
noncomputable def aUg (kr:K1 β)(kn:K3 β):=bnd (A.zA prog .eql 68 B (.pointer none)) fun c=>aC c fun d=>(bif d then
 kr (.bool false) h
 else
 aF (C 41 [B,E] h) fun j k=>bnd (A.zB 0 j) fun m=>bnd (A.zB 1 j) fun n=>aC n fun o=>kn m B (.bool o) k)
noncomputable def aUf (kn:K1 β):=aC S fun b=>(bif b then
 bnd (A.z B) fun e=>bnd (A.u 0 e) fun f=>bnd (A.load false 1 f h) fun i=>bnd (A.zM 2 i none (some P) (some P) h) fun l=>bnd (A.z B) fun n=>bnd (A.u 0 n) fun o=>bnd (A.load false 1 o h) fun p=>bnd (A.zA prog .add 3 P (.int .i64 1)) fun r=>bnd (A.zM 2 p (some r) none none h) fun s=>aF (A.zI 2 24 l s h) fun t u=>bnd (A.z B) fun v=>bnd (A.u 0 v) fun w=>bnd (A.store 1 w t u) fun z=>kn S z
 else
 kn S h)
noncomputable def aUe (kr:K1 β):=aC S fun b=>kr (.bool b) h
noncomputable def aNq (kr:K1 β):=aUg C h B E kr (fun P B S h=>aUf h B P S (fun S h=>aUe h S kr))
theorem bCu:execK prog C L 3 35 [4] (g bNg 1) [4] [] (r2 0 1 B E) h K=aNq C h B E (R K [4]):=by unfold aNq;refine(y 3 [5,0,6] ?_ (w3 fun P B S h=>(y 1 [6] ?_ ?_ ?_)) ?_)<;>intros<;>kernel_rfl
noncomputable def F39 (C:CF)(L:Nat)(B E:V)(h:H):O (V×H):=aNq C h B E (fun U h=>some (U,h))
def bFb {D:CF}(L:Nat)(B E:V)(h:H){r:V×H}(q:D 39 [B,E] h=none):=(ti q Tryz.func39 (bCu _ L h _ B E) (by kernel_rfl) (by kernel_rfl):F39 (aH prog 3 D) L B E h=some r→aH prog 3 D 39 [B,E] h=some r)
noncomputable def aWz:Code:=(Tryz.f40.body).getD .skip
noncomputable def aMg (kr kn:K1 β):=bnd (A.zA prog .eql 9 B (.string ⟨⟨[]⟩⟩)) fun c=>aC c fun d=>(bif d then
 kr (.bool false) h
 else
 aF (C 52 [B] h) fun k l=>aC k fun m=>bnd (A.un prog .not (.bool m)) fun n=>aC n fun o=>(bif o then
 kr (.bool false) l
 else
 kn B l))
noncomputable def aUd (kn:K1 β):=aF (C 53 [B] h) fun b c=>kn b c
noncomputable def aUc (kn:K4 β):=bnd (A.zH G) fun b=>kn b (.int .i64 0) G G h
noncomputable def aFn (kr:K1 β)(kx0:K0 β)(kn:K4 β):=bnd (A.zA prog .lss 3 Y xj) fun a=>aW a (bnd (A.zL 1 xf Y) fun c=>bnd (A.load false 1 c h) fun d=>bnd (A.zH G) fun l=>bnd (A.zA prog .sub 3 l (.int .i64 1)) fun m=>bnd (A.zA prog .eql 3 Y m) fun n=>aC n fun o=>aF (C 54 [d,(.bool o)] h) fun p q=>aC p fun r=>bnd (A.un prog .not (.bool r)) fun s=>aC s fun t=>(bif t then
 kr (.bool false) q
 else
 bnd (A.zA prog .add 3 Y (.int .i64 1)) fun v=>kn xj v G xf q)) (kx0 h)
noncomputable def vG (C:CF)(L:Nat){β:Type}(kr:K1 β)(kx0:K0 β):Nat→K4 β
 |0,_,_,_,_,_=>none
 |n+1,xj,Y,G,xf,h=>aFn C h G xf xj Y kr kx0 (fun xj Y G xf h=>vG C L kr kx0 n xj Y G xf h)
theorem aZp (C:CF)(L:Nat){β:Type}(K:KK β):∀n,M (fun fr h=>Lw prog C L 3 31 [2] (g aWz 244) [16,17,3,15] [(0,[])] n fr h K) [16,17,3,15]=vG C L (R K [2]) (X K 0 []) n:=by refine lw [16,17,3,15] [16,17,3,15] (F:=fun kn xj Y G xf h=>aFn C h G xf xj Y (R K [2]) (X K 0 []) kn) ?_ ?_ ?_<;>intros<;>kernel_rfl
noncomputable def aNe (kr:K1 β)(kn:K0 β):=aUc h G (fun xj Y G xf h=>vG C L kr kn L xj Y G xf h)
theorem bAr:execK prog C L 3 31 [2] (g aWz 30) [] [] (r1 3 G) h K=aNe C L h G (R K [2]) (N K []):=by unfold aNe;refine(y 1 [16,17,3,15] ?_ (w4 fun xj Y G xf h=>(bk 0 (lp (c4 (aZp C L _ L) xj Y G xf h) ?_) ?_)) ?_)<;>intros<;>kernel_rfl
noncomputable def aUb (kr:K1 β):=kr (.bool true) h
noncomputable def aGq (kr:K1 β):=aMg C h B kr (fun B h=>aUd C h B (fun G h=>aNe C L h G kr (fun h=>aUb h kr)))
theorem bCt:execK prog C L 3 31 [2] (g aWz 1) [2] [] (r1 0 B) h K=aGq C L h B (R K [2]):=by unfold aGq;refine(y 2 [0] ?_ (w1 fun B h=>(y 1 [3] ?_ (w1 fun G h=>(q [] (fun k=>(bAr C L h _ G)) ?_ ?_)) ?_)) ?_)<;>intros<;>kernel_rfl
noncomputable def F40 (C:CF)(L:Nat)(B:V)(h:H):O (V×H):=aGq C L h B (fun I h=>some (I,h))
def aFj {D:CF}(L:Nat)(B:V)(h:H){r:V×H}(q:D 40 [B] h=none):=(ti q Tryz.func40 (bCt _ L h _ B) (by kernel_rfl) (by kernel_rfl):F40 (aH prog 3 D) L B h=some r→aH prog 3 D 40 [B] h=some r)
noncomputable def bNf:Code:=(Tryz.f41.body).getD .skip
noncomputable def aWn (kr:K2 β):=bnd (A.z B) fun d=>bnd (A.u 0 d) fun e=>bnd (A.load false 1 e h) fun f=>aF (C 55 [f,E,(.func (.func 56) ⟨[]⟩ ⟨[]⟩)] h) fun j k=>bnd (A.zB 0 j) fun l=>bnd (A.zB 1 j) fun m=>aC m fun n=>kr l (.bool n) k
theorem bCs:execK prog C L 3 14 [4,5] (g bNf 1) [4,5] [] (r2 0 1 B E) h K=aWn C h B E (R K [4,5]):=by kernel_rfl
noncomputable def F41 (C:CF)(L:Nat)(B E:V)(h:H):O (V×H):=aWn C h B E (fun U P h=>some (.tuple ⟨[U,P]⟩,h))
def bFa {D:CF}(L:Nat)(B E:V)(h:H){r:V×H}(q:D 41 [B,E] h=none):=(ti q Tryz.func41 (bCs _ L h _ B E) (by kernel_rfl) (by kernel_rfl):F41 (aH prog 3 D) L B E h=some r→aH prog 3 D 41 [B,E] h=some r)
noncomputable def bNe:Code:=(Tryz.f42.body).getD .skip
noncomputable def aRg (kr:K1 β):=bnd (A.zA prog .eql 68 B (.pointer none)) fun c=>aC c fun d=>(bif d then
 kr (.slice none 0 0) h
 else
 bnd (A.z B) fun k=>bnd (A.u 0 k) fun l=>bnd (A.load false 1 l h) fun m=>bnd (A.zH m) fun n=>bnd (A.zA prog .eql 3 n (.int .i64 0)) fun o=>aC o fun p=>(bif p then
 kr (.slice none 0 0) h
 else
 bnd (A.z B) fun t=>bnd (A.u 0 t) fun u=>bnd (A.load false 1 u h) fun v=>bnd (A.zH v) fun w=>aF (A.zP 2 24 Z52L w w h) fun y z=>bnd (A.z B) fun d1=>bnd (A.u 0 d1) fun e1=>bnd (A.load false 1 e1 z) fun f1=>aF (A.yQ 2 y f1 z) fun i1 j1=>kr y j1))
theorem bCr:execK prog C L 3 27 [2] (g bNe 1) [2] [] (r1 0 B) h K=aRg h B (R K [2]):=by kernel_rfl
noncomputable def F42 (C:CF)(L:Nat)(B:V)(h:H):O (V×H):=aRg h B (fun I h=>some (I,h))
def bEz {D:CF}(L:Nat)(B:V)(h:H){r:V×H}(q:D 42 [B] h=none):=(ti q Tryz.func42 (bCr _ L h _ B) (by kernel_rfl) (by kernel_rfl):F42 (aH prog 3 D) L B h=some r→aH prog 3 D 42 [B] h=some r)
noncomputable def bNd:Code:=(Tryz.f47.body).getD .skip
noncomputable def aRf (kr:K1 β):=aF (C 61 [E] h) fun c d=>aC c fun e=>(bif e then
 aF (C 62 [B,E] d) fun k l=>aC k fun m=>kr (.bool m) l
 else
 kr (.bool false) d)
theorem bCq:execK prog C L 3 12 [4] (g bNd 1) [4] [] (r2 0 1 B E) h K=aRf C h B E (R K [4]):=by kernel_rfl
noncomputable def F47 (C:CF)(L:Nat)(B E:V)(h:H):O (V×H):=aRf C h B E (fun U h=>some (U,h))
def bEy {D:CF}(L:Nat)(B E:V)(h:H){r:V×H}(q:D 47 [B,E] h=none):=(ti q Tryz.func47 (bCq _ L h _ B E) (by kernel_rfl) (by kernel_rfl):F47 (aH prog 3 D) L B E h=some r→aH prog 3 D 47 [B,E] h=some r)
noncomputable def aWy:Code:=(Tryz.f48.body).getD .skip
noncomputable def aUa (kn:K2 β):=kn B E h
noncomputable def aTz (kn:K4 β):=bnd (A.zH B) fun b=>kn b (.int .i64 0) B E h
noncomputable def aIo (kr:K1 β)(kx0:K0 β)(kn:K4 β):=bnd (A.zA prog .lss 3 W J) fun a=>aW a (bnd (A.zL 4 B W) fun i=>bnd (A.load true 4 i h) fun j=>aF (callM prog C E [j] h) fun k l=>aC k fun m=>(bif m then
 kr W l
 else
 bnd (A.zA prog .add 3 W (.int .i64 1)) fun p=>kn J p B E l)) (kx0 h)
noncomputable def xR (C:CF)(L:Nat){β:Type}(kr:K1 β)(kx0:K0 β):Nat→K4 β
 |0,_,_,_,_,_=>none
 |n+1,J,W,B,E,h=>aIo C h B E J W kr kx0 (fun J W B E h=>xR C L kr kx0 n J W B E h)
theorem aZm (C:CF)(L:Nat){β:Type}(K:KK β):∀n,M (fun fr h=>Lw prog C L 3 19 [4] (g aWy 52) [7,8,0,1] [(0,[])] n fr h K) [7,8,0,1]=xR C L (R K [4]) (X K 0 []) n:=by refine lw [7,8,0,1] [7,8,0,1] (F:=fun kn J W B E h=>aIo C h B E J W (R K [4]) (X K 0 []) kn) ?_ ?_ ?_<;>intros<;>kernel_rfl
noncomputable def aNc (kr:K1 β)(kn:K0 β):=aTz h B E (fun J W B E h=>xR C L kr kn L J W B E h)
theorem bAo:execK prog C L 3 19 [4] (g aWy 6) [] [] (r2 0 1 B E) h K=aNc C L h B E (R K [4]) (N K []):=by unfold aNc;refine(y 1 [7,8,0,1] ?_ (w4 fun J W B E h=>(bk 0 (lp (c4 (aZm C L _ L) J W B E h) ?_) ?_)) ?_)<;>intros<;>kernel_rfl
noncomputable def aMf (kr:K1 β):=kr (.int .i64 (-1)) h
noncomputable def aNp (kr:K1 β):=aUa h B E (fun B E h=>aNc C L h B E kr (fun h=>aMf h kr))
theorem bCp:execK prog C L 3 19 [4] (g aWy 1) [4] [] (r2 0 1 B E) h K=aNp C L h B E (R K [4]):=by unfold aNp;refine(y 1 [0,1] ?_ (w2 fun B E h=>(q [] (fun k=>(bAo C L h _ B E)) ?_ ?_)) ?_)<;>intros<;>kernel_rfl
noncomputable def F48 (C:CF)(L:Nat)(B E:V)(h:H):O (V×H):=aNp C L h B E (fun U h=>some (U,h))
def aOm {D:CF}(L:Nat)(B E:V)(h:H){r:V×H}(q:D 48 [B,E] h=none):=(ti q Tryz.func48 (bCp _ L h _ B E) (by kernel_rfl) (by kernel_rfl):F48 (aH prog 3 D) L B E h=some r→aH prog 3 D 48 [B,E] h=some r)
noncomputable def bNc:Code:=(Tryz.f49.body).getD .skip
noncomputable def aWm (kr:K1 β):=aF (C 63 [(.slice none 0 0),B] h) fun c d=>kr c d
theorem bCo:execK prog C L 3 5 [2] (g bNc 1) [2] [] (r1 0 B) h K=aWm C h B (R K [2]):=by kernel_rfl
noncomputable def F49 (C:CF)(L:Nat)(B:V)(h:H):O (V×H):=aWm C h B (fun I h=>some (I,h))
def bEx {D:CF}(L:Nat)(B:V)(h:H){r:V×H}(q:D 49 [B] h=none):=(ti q Tryz.func49 (bCo _ L h _ B) (by kernel_rfl) (by kernel_rfl):F49 (aH prog 3 D) L B h=some r→aH prog 3 D 49 [B] h=some r)
noncomputable def bNb:Code:=(Tryz.f50.body).getD .skip
noncomputable def aWl (kr:K1 β):=aF (A.box 1 B h) fun a b=>kr (.func (.func 64) ⟨[]⟩ ⟨[a]⟩) b
theorem bCn:execK prog C L 3 4 [2] (g bNb 1) [2] [] (r1 0 B) h K=aWl h B (R K [2]):=by kernel_rfl
noncomputable def F50 (C:CF)(L:Nat)(B:V)(h:H):O (V×H):=aWl h B (fun I h=>some (I,h))
def bEw {D:CF}(L:Nat)(B:V)(h:H){r:V×H}(q:D 50 [B] h=none):=(ti q Tryz.func50 (bCn _ L h _ B) (by kernel_rfl) (by kernel_rfl):F50 (aH prog 3 D) L B h=some r→aH prog 3 D 50 [B] h=some r)
noncomputable def bNa:Code:=(Tryz.f51.body).getD .skip
noncomputable def aRe (kr:K1 β):=aF (A.box 4 B h) fun a b=>bnd (A.u 0 a) fun d=>bnd (A.load false 1 d b) fun e=>aF (C 61 [e] b) fun f i=>aC f fun j=>(bif j then
 bnd (A.u 2 a) fun l=>bnd (A.load false 1 l i) fun m=>bnd (A.zA prog .leq 5 m (.int .u8 2)) fun n=>aC n fun o=>kr (.bool o) i
 else
 kr (.bool false) i)
theorem bCm:execK prog C L 3 11 [2] (g bNa 1) [2] [] (r1 0 B) h K=aRe C h B (R K [2]):=by kernel_rfl
noncomputable def F51 (C:CF)(L:Nat)(B:V)(h:H):O (V×H):=aRe C h B (fun I h=>some (I,h))
def bEv {D:CF}(L:Nat)(B:V)(h:H){r:V×H}(q:D 51 [B] h=none):=(ti q Tryz.func51 (bCm _ L h _ B) (by kernel_rfl) (by kernel_rfl):F51 (aH prog 3 D) L B h=some r→aH prog 3 D 51 [B] h=some r)
noncomputable def bMy:Code:=(Tryz.f53.body).getD .skip
noncomputable def aWj (kr:K1 β):=aF (C 68 [B,(.string ⟨⟨[47]⟩⟩)] h) fun c d=>kr c d
theorem bCk:execK prog C L 3 5 [2] (g bMy 1) [2] [] (r1 0 B) h K=aWj C h B (R K [2]):=by kernel_rfl
noncomputable def F53 (C:CF)(L:Nat)(B:V)(h:H):O (V×H):=aWj C h B (fun I h=>some (I,h))
def bEt {D:CF}(L:Nat)(B:V)(h:H){r:V×H}(q:D 53 [B] h=none):=(ti q Tryz.func53 (bCk _ L h _ B) (by kernel_rfl) (by kernel_rfl):F53 (aH prog 3 D) L B h=some r→aH prog 3 D 53 [B] h=some r)
noncomputable def bMx:Code:=(Tryz.f54.body).getD .skip
noncomputable def aWi (kr:K1 β):=bnd (A.zA prog .eql 9 B (.string ⟨⟨[43]⟩⟩)) fun c=>aC c fun d=>(bif d then
 kr (.bool true) h
 else
 bnd (A.zA prog .eql 9 B (.string ⟨⟨[35]⟩⟩)) fun m=>aC m fun n=>(bif n then
 aC E fun q=>(bif q then
 kr (.bool true) h
 else
 aF (C 69 [B,(.string ⟨⟨[43,35]⟩⟩)] h) fun y z=>aC y fun a1=>bnd (A.un prog .not (.bool a1)) fun b1=>aC b1 fun c1=>kr (.bool c1) z)
 else
 aF (C 69 [B,(.string ⟨⟨[43,35]⟩⟩)] h) fun l1 m1=>aC l1 fun n1=>bnd (A.un prog .not (.bool n1)) fun o1=>aC o1 fun p1=>kr (.bool p1) m1))
theorem bCj:execK prog C L 3 19 [4] (g bMx 1) [4] [] (r2 0 1 B E) h K=aWi C h B E (R K [4]):=by kernel_rfl
noncomputable def F54 (C:CF)(L:Nat)(B E:V)(h:H):O (V×H):=aWi C h B E (fun U h=>some (U,h))
def bEs {D:CF}(L:Nat)(B E:V)(h:H){r:V×H}(q:D 54 [B,E] h=none):=(ti q Tryz.func54 (bCj _ L h _ B E) (by kernel_rfl) (by kernel_rfl):F54 (aH prog 3 D) L B E h=some r→aH prog 3 D 54 [B,E] h=some r)
noncomputable def bJz:Code:=(Tryz.f55.body).getD .skip
noncomputable def aTw (kn:K6 β):=bnd (A.zH B) fun d=>kn d d I B (.int .i64 0) E h
noncomputable def aMc (kx0:K5 β)(kn:K6 β):=bnd (A.zA prog .lss 3 x9 xb) fun c=>aC c fun d=>(bif d then
 bnd (A.zA prog .add 3 x9 xb) fun i=>bnd (A.conv prog 3 120 i) fun j=>bnd (A.zA prog .shr 120 j (.int .u64 1)) fun k=>bnd (A.conv prog 120 3 k) fun l=>bnd (A.zL 2 B l) fun q=>bnd (A.load true 2 q h) fun r=>aF (callM prog C I [r,E] h) fun t u=>bnd (A.zA prog .lss 3 t (.int .i64 0)) fun v=>aC v fun w=>(bif w then
 bnd (A.zA prog .add 3 l (.int .i64 1)) fun z=>kn xb W I B z E u
 else
 kn l W I B x9 E u)
 else
 kx0 W I B x9 E h)
noncomputable def aCn (C:CF)(L:Nat){β:Type}(kx0:K5 β):Nat→K6 β
 |0,_,_,_,_,_,_,_=>none
 |n+1,xb,W,I,B,x9,E,h=>aMc C h B E I W x9 xb kx0 (fun xb W I B x9 E h=>aCn C L kx0 n xb W I B x9 E h)
theorem aZi (C:CF)(L:Nat){β:Type}(K:KK β):∀n,M (fun fr h=>Lw prog C L 3 49 [6,7] (g bJz 120) [10,8,2,0,9,1] [(0,[8,2,0,9,1])] n fr h K) [10,8,2,0,9,1]=aCn C L (X K 0 [8,2,0,9,1]) n:=by refine lw [10,8,2,0,9,1] [10,8,2,0,9,1] (F:=fun kn xb W I B x9 E h=>aMc C h B E I W x9 xb (X K 0 [8,2,0,9,1]) kn) ?_ ?_ ?_<;>intros<;>kernel_rfl
noncomputable def aIn (kr:K2 β):=bnd (A.zA prog .lss 3 x9 W) fun d=>aC d fun e=>(bif e then
 bnd (A.zL 2 B x9) fun l=>bnd (A.load true 2 l h) fun m=>aF (callM prog C I [m,E] h) fun o p=>bnd (A.zA prog .eql 3 o (.int .i64 0)) fun q=>aC q fun r=>kr x9 (.bool r) p
 else
 kr x9 (.bool false) h)
noncomputable def aNo (kr:K2 β):=aTw h B E I (fun xb W I B x9 E h=>aCn C L (fun W I B x9 E h=>aIn C h B E I W x9 kr) L xb W I B x9 E h)
theorem bCi:execK prog C L 3 49 [6,7] (g bJz 1) [6,7] [] (r3 0 1 2 B E I) h K=aNo C L h B E I (R K [6,7]):=by unfold aNo;refine(y 3 [10,8,2,0,9,1] ?_ (w6 fun xb W I B x9 E h=>(q [8,2,0,9,1] (A:=fun z=>aCn C L z L xb W I B x9 E h) (fun k=>(bk 0 (lp (c6 (aZi C L _ L) xb W I B x9 E h) ?_) ?_)) ?_ ?_)) ?_)<;>intros<;>kernel_rfl
noncomputable def F55 (C:CF)(L:Nat)(B E I:V)(h:H):O (V×H):=aNo C L h B E I (fun S J h=>some (.tuple ⟨[S,J]⟩,h))
def aOl {D:CF}(L:Nat)(B E I:V)(h:H){r:V×H}(q:D 55 [B,E,I] h=none):=(ti q Tryz.func55 (bCi _ L h _ B E I) (by kernel_rfl) (by kernel_rfl):F55 (aH prog 3 D) L B E I h=some r→aH prog 3 D 55 [B,E,I] h=some r)
noncomputable def bMw:Code:=(Tryz.f56.body).getD .skip
noncomputable def aWh (kr:K1 β):=aF (A.box 2 B h) fun a b=>bnd (A.u 0 a) fun d=>bnd (A.load false 1 d b) fun e=>aF (C 57 [e,E] b) fun i j=>kr i j
theorem bCh:execK prog C L 3 9 [4] (g bMw 1) [4] [] (r2 0 1 B E) h K=aWh C h B E (R K [4]):=by kernel_rfl
noncomputable def F56 (C:CF)(L:Nat)(B E:V)(h:H):O (V×H):=aWh C h B E (fun U h=>some (U,h))
def bEr {D:CF}(L:Nat)(B E:V)(h:H){r:V×H}(q:D 56 [B,E] h=none):=(ti q Tryz.func56 (bCh _ L h _ B E) (by kernel_rfl) (by kernel_rfl):F56 (aH prog 3 D) L B E h=some r→aH prog 3 D 56 [B,E] h=some r)
noncomputable def bMv:Code:=(Tryz.f57.body).getD .skip
noncomputable def aWg (kr:K1 β):=aF (C 70 [B,E] h) fun d e=>kr d e
theorem bCg:execK prog C L 3 8 [4] (g bMv 1) [4] [] (r2 0 1 B E) h K=aWg C h B E (R K [4]):=by kernel_rfl
noncomputable def F57 (C:CF)(L:Nat)(B E:V)(h:H):O (V×H):=aWg C h B E (fun U h=>some (U,h))
def bEq {D:CF}(L:Nat)(B E:V)(h:H){r:V×H}(q:D 57 [B,E] h=none):=(ti q Tryz.func57 (bCg _ L h _ B E) (by kernel_rfl) (by kernel_rfl):F57 (aH prog 3 D) L B E h=some r→aH prog 3 D 57 [B,E] h=some r)
noncomputable def bMu:Code:=(Tryz.f61.body).getD .skip
noncomputable def aNn (kr:K1 β):=bnd (A.zA prog .neq 9 B (.string ⟨⟨[]⟩⟩)) fun c=>aC c fun d=>(bif d then
 aF (C 52 [B] h) fun i j=>aC i fun k=>(bif k then
 aF (C 69 [B,(.string ⟨⟨[43,35]⟩⟩)] j) fun o p=>aC o fun q=>bnd (A.un prog .not (.bool q)) fun r=>aC r fun s=>kr (.bool s) p
 else
 kr (.bool false) j)
 else
 kr (.bool false) h)
theorem bCf:execK prog C L 3 14 [2] (g bMu 1) [2] [] (r1 0 B) h K=aNn C h B (R K [2]):=by kernel_rfl
noncomputable def F61 (C:CF)(L:Nat)(B:V)(h:H):O (V×H):=aNn C h B (fun I h=>some (I,h))
def bEp {D:CF}(L:Nat)(B:V)(h:H){r:V×H}(q:D 61 [B] h=none):=(ti q Tryz.func61 (bCf _ L h _ B) (by kernel_rfl) (by kernel_rfl):F61 (aH prog 3 D) L B h=some r→aH prog 3 D 61 [B] h=some r)
noncomputable def bJy:Code:=(Tryz.f62.body).getD .skip
noncomputable def aMb (kn:K2 β):=kn B E h
noncomputable def aIm (kn:K3 β):=aF (C 40 [B] h) fun b c=>aC b fun d=>bnd (A.un prog .not (.bool d)) fun e=>aC e fun f=>(bif f then
 kn (.bool true) B E c
 else
 aF (C 40 [E] c) fun n o=>aC n fun p=>bnd (A.un prog .not (.bool p)) fun q=>aC q fun r=>(bif r then
 kn (.bool true) B E o
 else
 aF (C 81 [B] o) fun w y=>aC w fun z=>(bif z then
 bnd (A.zC E (.int .i64 0)) fun c1=>bnd (A.zA prog .eql 5 c1 (.int .u8 36)) fun d1=>aC d1 fun e1=>kn (.bool e1) B E y
 else
 kn (.bool false) B E y)))
noncomputable def aMa (kr:K1 β)(kn:K2 β):=aW xo (kr (.bool false) h) (kn B E h)
noncomputable def aGi (kr:K1 β)(kn:K2 β):=aIm C h B E (fun xo B E h=>aMa h B E xo kr kn)
theorem aZv:execK prog C L 3 27 [4] (g bJy 6) [0,1] [] (r2 0 1 B E) h K=aGi C h B E (R K [4]) (N K [0,1]):=by unfold aGi;refine(y 1 [21,0,1] ?_ ?_ ?_)<;>intros<;>kernel_rfl
noncomputable def bGx (kr:K1 β):=aF (C 53 [B] h) fun b c=>aF (C 53 [E] c) fun e f=>aF (C 82 [b,e] f) fun i j=>aC i fun k=>kr (.bool k) j
noncomputable def aGp (kr:K1 β):=aMb h B E (fun B E h=>aGi C h B E kr (fun B E h=>bGx C h B E kr))
theorem bCe:execK prog C L 3 27 [4] (g bJy 1) [4] [] (r2 0 1 B E) h K=aGp C h B E (R K [4]):=by unfold aGp;refine(y 1 [0,1] ?_ (w2 fun B E h=>(q [0,1] (fun k=>(aZv C L h _ B E)) ?_ ?_)) ?_)<;>intros<;>kernel_rfl
noncomputable def F62 (C:CF)(L:Nat)(B E:V)(h:H):O (V×H):=aGp C h B E (fun U h=>some (U,h))
def bEo {D:CF}(L:Nat)(B E:V)(h:H){r:V×H}(q:D 62 [B,E] h=none):=(ti q Tryz.func62 (bCe _ L h _ B E) (by kernel_rfl) (by kernel_rfl):F62 (aH prog 3 D) L B E h=some r→aH prog 3 D 62 [B,E] h=some r)
noncomputable def bJx:Code:=(Tryz.f64.body).getD .skip
noncomputable def bGw (kn:K5 β):=bnd (A.load false 1 E h) fun a=>bnd (A.z a) fun b=>bnd (A.u 0 b) fun c=>bnd (A.load false 1 c h) fun d=>aF (C 66 [d] h) fun e f=>aF (C 65 [e] f) fun i j=>bnd (A.zH i) fun k=>kn k (.int .i64 0) E B i j
noncomputable def aOx (kr kx0:K0 β)(kn:K5 β):=bnd (A.zA prog .lss 3 xc xd) fun a=>aW a (bnd (A.zL 1 xb xc) fun b=>bnd (A.load false 1 b h) fun c=>bnd (A.load false 1 E h) fun f=>bnd (A.z f) fun i=>bnd (A.u 0 i) fun j=>bnd (A.load false 1 j h) fun k=>bnd (A.zE true Z31 false c k h) fun m=>aF (callM prog C B [m] h) fun n o=>aC n fun p=>bnd (A.un prog .not (.bool p)) fun q=>aC q fun r=>(bif r then
 kr o
 else
 bnd (A.zA prog .add 3 xc (.int .i64 1)) fun s=>kn xd s E B xb o)) (kx0 h)
noncomputable def aIy (C:CF)(L:Nat){β:Type}(kr kx0:K0 β):Nat→K5 β
 |0,_,_,_,_,_,_=>none
 |n+1,xd,xc,E,B,xb,h=>aOx C h B E xb xd xc kr kx0 (fun xd xc E B xb h=>aIy C L kr kx0 n xd xc E B xb h)
theorem aYm (C:CF)(L:Nat){β:Type}(K:KK β):∀n,M (fun fr h=>Lw prog C L 3 26 [] (g bJx 12) [11,12,1,0,10] [(0,[])] n fr h K) [11,12,1,0,10]=aIy C L (R K []) (X K 0 []) n:=by refine lw [11,12,1,0,10] [11,12,1,0,10] (F:=fun kn xd xc E B xb h=>aOx C h B E xb xd xc (R K []) (X K 0 []) kn) ?_ ?_ ?_<;>intros<;>kernel_rfl
noncomputable def aRc (kr kn:K0 β):=bGw C h B E (fun xd xc E B xb h=>aIy C L kr kn L xd xc E B xb h)
theorem bCc:execK prog C L 3 26 [] (g bJx 1) [] [] (r2 0 1 B E) h K=aRc C L h B E (R K []) (N K []):=by unfold aRc;refine(y 1 [11,12,1,0,10] ?_ (w5 fun xd xc E B xb h=>(bk 0 (lp (c5 (aYm C L _ L) xd xc E B xb h) ?_) ?_)) ?_)<;>intros<;>kernel_rfl
noncomputable def F64 (C:CF)(L:Nat)(B E:V)(h:H):O (V×H):=aRc C L h B E (fun h=>some (.tuple ⟨[]⟩,h)) (fun h=>some (.tuple ⟨[]⟩,h))
def bEm {D:CF}(L:Nat)(B E:V)(h:H){r:V×H}(q:D 64 [B,E] h=none):=(ti q Tryz.func64 (bCc _ L h _ B E) (by kernel_rfl) (by kernel_rfl):F64 (aH prog 3 D) L B E h=some r→aH prog 3 D 64 [B,E] h=some r)
noncomputable def bMq:Code:=(Tryz.f70.body).getD .skip
noncomputable def aWc (kr:K1 β):=aF (C 89 [B,E] h) fun d e=>kr d e
theorem bBx:execK prog C L 3 8 [4] (g bMq 1) [4] [] (r2 0 1 B E) h K=aWc C h B E (R K [4]):=by kernel_rfl
noncomputable def F70 (C:CF)(L:Nat)(B E:V)(h:H):O (V×H):=aWc C h B E (fun U h=>some (U,h))
def bEh {D:CF}(L:Nat)(B E:V)(h:H){r:V×H}(q:D 70 [B,E] h=none):=(ti q Tryz.func70 (bBx _ L h _ B E) (by kernel_rfl) (by kernel_rfl):F70 (aH prog 3 D) L B E h=some r→aH prog 3 D 70 [B,E] h=some r)
noncomputable def bMp:Code:=(Tryz.f81.body).getD .skip
noncomputable def aWb (kr:K1 β):=aF (C 53 [B] h) fun c d=>bnd (A.zL 1 c (.int .i64 0)) fun e=>bnd (A.load false 1 e d) fun f=>bnd (A.zA prog .eql 9 f (.string ⟨⟨[43]⟩⟩)) fun k=>aC k fun l=>(bif l then
 kr (.bool true) d
 else
 bnd (A.zA prog .eql 9 f (.string ⟨⟨[35]⟩⟩)) fun q=>aC q fun r=>kr (.bool r) d)
theorem bBw:execK prog C L 3 14 [2] (g bMp 1) [2] [] (r1 0 B) h K=aWb C h B (R K [2]):=by kernel_rfl
noncomputable def F81 (C:CF)(L:Nat)(B:V)(h:H):O (V×H):=aWb C h B (fun I h=>some (I,h))
def bEg {D:CF}(L:Nat)(B:V)(h:H){r:V×H}(q:D 81 [B] h=none):=(ti q Tryz.func81 (bBw _ L h _ B) (by kernel_rfl) (by kernel_rfl):F81 (aH prog 3 D) L B h=some r→aH prog 3 D 81 [B] h=some r)
noncomputable def bMo:Code:=(Tryz.f82.body).getD .skip
noncomputable def aWa (kr:K1 β):=aF (A.box 1 B h) fun a b=>aF (A.box 1 E b) fun c d=>aF (A.box 1 Z149 d) fun f i=>bnd (A.store 1 f (.func (.func 95) ⟨[]⟩ ⟨[a,c,f]⟩) i) fun l=>bnd (A.load false 1 f l) fun m=>aF (callM prog C m [(.int .i64 0)] l) fun n o=>aC n fun p=>kr (.bool p) o
theorem bBv:execK prog C L 3 9 [4] (g bMo 1) [4] [] (r2 0 1 B E) h K=aWa C h B E (R K [4]):=by kernel_rfl
noncomputable def F82 (C:CF)(L:Nat)(B E:V)(h:H):O (V×H):=aWa C h B E (fun U h=>some (U,h))
def bEf {D:CF}(L:Nat)(B E:V)(h:H){r:V×H}(q:D 82 [B,E] h=none):=(ti q Tryz.func82 (bBv _ L h _ B E) (by kernel_rfl) (by kernel_rfl):F82 (aH prog 3 D) L B E h=some r→aH prog 3 D 82 [B,E] h=some r)
noncomputable def bJv:Code:=(Tryz.f95.body).getD .skip
noncomputable def aLs (kn:K4 β):=kn E I G B h
noncomputable def aLr (kn:K5 β):=bnd (A.load false 1 E h) fun b=>bnd (A.zH b) fun c=>bnd (A.zA prog .eql 3 B c) fun d=>aC d fun e=>kn (.bool e) E I G B h
noncomputable def bGm (kr:K1 β):=bnd (A.load false 1 I h) fun b=>bnd (A.zH b) fun c=>bnd (A.zA prog .eql 3 B c) fun d=>aC d fun e=>kr (.bool e) h
noncomputable def aOr (kn:K5 β):=bnd (A.load false 1 E h) fun a=>bnd (A.zL 1 a B) fun c=>bnd (A.load false 1 c h) fun d=>bnd (A.zA prog .eql 9 d (.string ⟨⟨[35]⟩⟩)) fun e=>aC e fun f=>kn (.bool f) E I G B h
noncomputable def bGn (kr:K1 β):=kr (.bool true) h
noncomputable def aTq (kr:K1 β)(kn:K4 β):=bnd (A.load false 1 I h) fun b=>bnd (A.zH b) fun c=>bnd (A.zA prog .eql 3 B c) fun d=>aC d fun e=>(bif e then
 kr (.bool false) h
 else
 bnd (A.load false 1 I h) fun l=>bnd (A.zL 1 l B) fun n=>bnd (A.load false 1 n h) fun o=>bnd (A.zA prog .eql 9 o (.string ⟨⟨[35]⟩⟩)) fun p=>aC p fun q=>(bif q then
 kr (.bool false) h
 else
 kn E I G B h))
noncomputable def aGk (kr:K1 β)(kn:K4 β):=aLr h B E I G (fun S E I G B h=>aW S (bGm h B I kr) (aOr h B E I G (fun xf E I G B h=>aW xf (bGn h kr) (aTq h B E I G kr kn))))
theorem bAl:execK prog C L 3 55 [5] (g bJv 12) [1,2,3,0] [(0,[1,2,3,0])] (r4 1 2 3 0 E I G B) h K=aGk h B E I G (R K [5]) (N K [1,2,3,0]):=by unfold aGk;refine(y 1 [6,1,2,3,0] ?_ (w5 fun S E I G B h=>(cd ?_ (y 1 [15,1,2,3,0] ?_ (w5 fun xf E I G B h=>(cd ?_ ?_ ?_)) ?_) ?_)) ?_)<;>intros<;>kernel_rfl
noncomputable def bGl (kn:K1 β):=bnd (A.load false 1 E h) fun a=>bnd (A.zL 1 a B) fun c=>bnd (A.load false 1 c h) fun d=>bnd (A.zA prog .eql 9 d (.string ⟨⟨[43]⟩⟩)) fun e=>aC e fun f=>(bif f then
 bnd (A.load false 1 G h) fun l=>bnd (A.zA prog .add 3 B (.int .i64 1)) fun n=>aF (callM prog C l [n] h) fun o p=>aC o fun q=>kn (.bool q) p
 else
 bnd (A.load false 1 E h) fun t=>bnd (A.zL 1 t B) fun v=>bnd (A.load false 1 v h) fun w=>bnd (A.load false 1 I h) fun y=>bnd (A.zL 1 y B) fun a1=>bnd (A.load false 1 a1 h) fun b1=>bnd (A.zA prog .eql 9 w b1) fun c1=>aC c1 fun d1=>(bif d1 then
 bnd (A.load false 1 G h) fun i1=>bnd (A.zA prog .add 3 B (.int .i64 1)) fun k1=>aF (callM prog C i1 [k1] h) fun l1 m1=>aC l1 fun n1=>kn (.bool n1) m1
 else
 kn (.bool false) h))
noncomputable def bGk (kr:K1 β):=kr P h
noncomputable def aGo (kr:K1 β):=aLs h B E I G (fun E I G B h=>aGk h B E I G kr (fun E I G B h=>bGl C h B E I G (fun P h=>bGk h P kr)))
theorem bBr:execK prog C L 3 55 [5] (g bJv 1) [5] [] (r4 0 1 2 3 B E I G) h K=aGo C h B E I G (R K [5]):=by unfold aGo;refine(y 1 [1,2,3,0] ?_ (w4 fun E I G B h=>(q [1,2,3,0] (fun k=>(bk 0 (bAl C L h _ B E I G) ?_)) (w4 fun E I G B h=>(y 1 [5] ?_ ?_ ?_)) ?_)) ?_)<;>intros<;>kernel_rfl
noncomputable def F95 (C:CF)(L:Nat)(B E I G:V)(h:H):O (V×H):=aGo C h B E I G (fun P h=>some (P,h))
def aOk {D:CF}(L:Nat)(B E I G:V)(h:H){r:V×H}(q:D 95 [B,E,I,G] h=none):=(ti q Tryz.func95 (bBr _ L h _ B E I G) (by kernel_rfl) (by kernel_rfl):F95 (aH prog 3 D) L B E I G h=some r→aH prog 3 D 95 [B,E,I,G] h=some r)
end Go.Proofs.YtpanfoafajepcaaGreatDoor.RaI
