import Derived.Test.YtbmdhjdgpeleoaaGreatDoorProg
import Derived.Test.YtbmdhjdgpeleoaaGreatDoorGq
import Derived.Test.YtbmdhjdgpeleoaaGreatDoorTaK
set_option linter.unusedVariables false
set_option linter.defProp false
set_option maxRecDepth 100000
namespace Go.Proofs.YtbmdhjdgpeleoaaGreatDoor.TaI
open Tryz (prog)
open Go Go.AM TaZ TaK Go.AM.Pk
variable {D:CF}{β:Type}
noncomputable section
def Z9L:kC V:=[(.string ⟨⟨[]⟩⟩)]
def Z62L:kC V:=[(.map none),(.pointer none)]
def Z95L:kC V:=[(.map none)]
def Z100L:kC V:=[(.string ⟨⟨[]⟩⟩),(.bool false),(.bool false),(.pointer none),(.map none),(.map none),(.map none),(.string ⟨⟨[]⟩⟩),(.bool false)]
def Z30L:kC V:=[(.string ⟨⟨[]⟩⟩),(.string ⟨⟨[]⟩⟩),(iU 0),(.bool false)]
def Z30:V:=.agg ⟨Z30L⟩
def Z103L:kC V:=[]
def Z63:V:=(.pointer none)
def Z5:V:=(iU 0)
def Z5L:kC V:=[(iU 0)]
def Z90:V:=(.slice none 0 0)
def Z57L:kC V:=[(.string ⟨⟨[]⟩⟩),(iU 0)]
def Z57:V:=.agg ⟨Z57L⟩
def cBf:kC V:=[(.slice none 0 0)]
def Z128L:kC V:=[(.pointer none),(iN 0),(.bool false)]
def Z125:V:=(.pointer none)
def Z176:V:=.nilFunc
variable (C:CF)(L:Nat)(h:H)(K:KK β)(B E I G W P S J U x9 xb g Q xg xh xj Y x Z xo xw xp xq xx xr xy xs xf xt xk xl xe xu xm xn xi xv:V)
def bIu (r k:K1 β):=bnd (A.zE B) fun c=>bI .gtr 3 c (iN 200)
 (r (.bool true) h)
 (k B h)
def bRm (k:K2 β):=k (iN 0) B h
def aSu (k:K0 β)(n:K2 β):=bnd (A.zE B) fun c=>bI .lss 3 G c
 (n G B h)
 (k h)
def bBi (k:K3 β):=bnd (A.zB 35 B G) fun c=>lg 4 24 c h fun e=>aD (C 8 [e] h) fun f i=>iK f
 (k (.bool true) G B i)
 (bnd (A.zB 35 B G) fun q=>lf 3 1 q i fun s=>bnd (A.zH s) fun t=>bI .gtr 3 t (iN 300)
 (k (.bool true) G B i)
 (bnd (A.zB 35 B G) fun c1=>bnd (A.zA 28 c1) fun d=>lf 0 1 d i fun a=>bnd (A.zH a) fun b=>bnd (A.zB 35 B G) fun l=>bnd (A.zA 28 l) fun m=>lf 1 1 m i fun o=>bnd (A.zH o) fun p=>bnd (A.z prog .add 3 b p) fun j=>bB .gtr 3 j (iN 300) fun n=>k (.bool n) G B i))
def bBh (r:K1 β)(k:K2 β):=aP xq (r (.bool true) h) (k G B h)
def aXm (r:K1 β)(k:K2 β):=bBi C h B G (fun xq G B h=>bBh h B G xq r k)
noncomputable def bRx (k:K2 β):=bnd (A.z prog .add 3 G (iN 1)) fun b=>k b B h
def aCb (C:CF)(L:Nat){β:Type}(r:K1 β)(k:K0 β):Nat→K2 β
 |0,_,_,_=>none
 |n+1,G,B,h=>aSu h B G k (fun G B h=>aXm C h B G r (fun G B h=>bRx h B G (fun G B h=>aCb C L r k n G B h)))
def bXq (C:CF)(L:Nat)(K:KK β):∀n,M (fun f h=>Lw prog C L 3 46 [2] (gB Tryz.f4.body 116) [3,0] [(0,[])] n f h K) [3,0]=aCb C L (R K [2]) (X K 0 []) n:=by refine lw [3,0] [3,0] (F:=fun a G B h=>aSu h B G (X K 0 []) (fun G B h=>aXm C h B G (R K [2]) (fun G B h=>bRx h B G a))) ?_ ?_ (fun a=>w2 fun G B h=>(y 1 [3,0] ?_ (w2 fun G B h=>(q [3,0] (fun k=>(bk 1 ?_ ?_)) ?_ ?_)) ?_))<;>intros<;>kernel_rfl
def bJe (r:K1 β)(k:K0 β):=bRm h B (fun G B h=>aCb C L r k L G B h)
def bDr (k:K1 β):=k (.bool false) h
def p4a (k:K1 β):=bIu h B k (fun B h=>bJe C L h B k (fun h=>bDr h k))
def cMx:execK prog C L 3 46 [2] (gB Tryz.f4.body 1) [2] [] (r1 0 B) h K=p4a C L h B (R K [2]):=by unfold p4a;refine(y 2 [0] ?_ (w1 fun B h=>(q [] (fun k=>(by unfold bJe;refine(y 1 [3,0] ?_ (w2 fun G B h=>(bk 0 (lp (c2 (bXq C L _ L) G B h) ?_) ?_)) ?_)<;>intros<;>kernel_rfl)) ?_ ?_)) ?_)<;>intros<;>kernel_rfl
def F4 (C:CF)(L:Nat)(B:V)(h:H):=p4a C L h B rS
def cNv (L:Nat)(B:V)(h:H){r:V×H}(q:D 4 [B] h=none):=(ti q Tryz.func4 (cMx _ L h _ B) (by kernel_rfl):Fe D (F4 · L B h) 4 [B] h r)
def bIn (l:K1 β)(k:K3 β):=aD (A.box 24 B h) fun a b=>lf 22 1 a b fun e=>bnd (A.zE e) fun f=>bI .gtr 3 f (iN 100)
 (l (.bool true) b)
 (lf 5 1 a b fun n=>lf 6 1 a b fun p=>lf 10 1 a b fun r=>bnd (A.zA 12 a) fun s=>lf 0 1 s b fun u=>bnd (A.zA 12 a) fun v=>lf 1 1 v b fun y=>lf 18 1 a b fun c=>lf 19 1 a b fun c1=>lf 23 1 a b fun d=>aD (A.zC 1 8 Z9L [(0,1,n),(1,1,p),(2,1,r),(3,1,u),(4,1,y),(5,1,c),(6,1,c1),(7,1,d)] b) fun i j=>k a i (iN 10000) j)
def bRl (k:K4 β):=k (iN 0) E W G h
def bIx (a:K2 β)(n:K4 β):=lf 22 1 E h fun c=>bnd (A.zE c) fun d=>bI .lss 3 P d
 (lf 22 1 E h fun k=>bnd (A.zB 2 k P) fun m=>lf 0 1 m h fun o=>aD (A.zC 1 1 Z9L [(0,1,o)] h) fun p q=>aD (A.zF 1 16 W p q) fun r s=>bnd (A.z prog .add 3 P (iN 1)) fun v=>n v E r G s)
 (a W G h)
def aSy (C:CF)(L:Nat){β:Type}(k:K2 β):Nat→K4 β
 |0,_,_,_,_,_=>none
 |n+1,P,E,W,G,h=>bIx h E G W P k (fun P E W G h=>aSy C L k n P E W G h)
def bXo (C:CF)(L:Nat)(K:KK β):∀n,M (fun f h=>Lw prog C L 3 66 [2] (gB Tryz.f8.body 500) [5,1,4,3] [(0,[4,3])] n f h K) [5,1,4,3]=aSy C L (X K 0 [4,3]) n:=by refine lw [5,1,4,3] [5,1,4,3] (F:=fun k P E W G h=>bIx h E G W P (X K 0 [4,3]) k) ?_ ?_ ?_<;>intros<;>kernel_rfl
def bJd (k:K2 β):=bRl h E G W (fun P E W G h=>aSy C L k L P E W G h)
def bRq (k:K3 β):=k (iN 0) W G h
def bAs (r:K1 β)(a:K0 β)(n:K3 β):=bnd (A.zE W) fun c=>bI .lss 3 S c
 (bnd (A.zB 1 W S) fun j=>bnd (A.load false 1 j h) fun k=>bnd (A.zH k) fun l=>bI .gtr 3 l G
 (r (.bool true) h)
 (bnd (A.zB 1 W S) fun t=>bnd (A.load false 1 t h) fun u=>bnd (A.zH u) fun v=>bnd (A.z prog .sub 3 G v) fun w=>bnd (A.z prog .add 3 S (iN 1)) fun b=>n b W w h))
 (a h)
def aKd (C:CF)(L:Nat){β:Type}(r:K1 β)(k:K0 β):Nat→K3 β
 |0,_,_,_,_=>none
 |n+1,S,W,G,h=>bAs h G W S r k (fun S W G h=>aKd C L r k n S W G h)
def bXc (C:CF)(L:Nat)(K:KK β):∀n,M (fun f h=>Lw prog C L 3 66 [2] (gB Tryz.f8.body 1012) [6,4,3] [(2,[])] n f h K) [6,4,3]=aKd C L (R K [2]) (X K 2 []) n:=by refine lw [6,4,3] [6,4,3] (F:=fun k S W G h=>bAs h G W S (R K [2]) (X K 2 []) k) ?_ ?_ ?_<;>intros<;>kernel_rfl
def aXq (r:K1 β)(k:K0 β):=bRq h G W (fun S W G h=>aKd C L r k L S W G h)
def aTc (k:K1 β):=k (.bool false) h
def p8a (k:K1 β):=bIn h B k (fun E W G h=>bJd C L h E G W (fun W G h=>aXq C L h G W k (fun h=>aTc h k)))
def cMu:execK prog C L 3 66 [2] (gB Tryz.f8.body 1) [2] [] (r1 0 B) h K=p8a C L h B (R K [2]):=by unfold p8a;refine(y 4 [1,4,3] ?_ (w3 fun E W G h=>(q [4,3] (fun k=>(by unfold bJd;refine(y 1 [5,1,4,3] ?_ (w4 fun P E W G h=>(bk 0 (lp (c4 (bXo C L _ L) P E W G h) ?_) ?_)) ?_)<;>intros<;>kernel_rfl)) (w2 fun W G h=>(q [] (fun k=>(by unfold aXq;refine(y 1 [6,4,3] ?_ (w3 fun S W G h=>(bk 2 (lp (c3 (bXc C L _ L) S W G h) ?_) ?_)) ?_)<;>intros<;>kernel_rfl)) ?_ ?_)) ?_)) ?_)<;>intros<;>kernel_rfl
def F8 (C:CF)(L:Nat)(B:V)(h:H):=p8a C L h B rS
def cNt (L:Nat)(B:V)(h:H){r:V×H}(q:D 8 [B] h=none):=(ti q Tryz.func8 (cMu _ L h _ B) (by kernel_rfl):Fe D (F8 · L B h) 8 [B] h r)
def bTw (k:K1 β):=aD (A.zL h) fun b c=>aD (C 23 [] c) fun d e=>bnd (A.zI Z62L [(0,1,b),(1,1,d)]) fun f=>aD (A.box 2 f e) fun i j=>k i j
def cBb:execK prog C L 3 5 [0] (gB Tryz.f15.body 1) [0] [] r0 h K=bTw C h (R K [0]):=by kernel_rfl
def F15 (C:CF)(L:Nat)(h:H):=bTw C h rS
def cDt (L:Nat)(h:H){r:V×H}(q:D 15 [] h=none):=(ti q Tryz.func15 (cBb _ L h _) (by kernel_rfl):Fe D (F15 · L h) 15 [] h r)
def bTv (k:K1 β):=aD (A.zL h) fun b c=>bnd (A.zI Z95L [(0,1,b)]) fun d=>aD (A.box 1 d c) fun e f=>k e f
def cAt:execK prog C L 3 4 [0] (gB Tryz.f23.body 1) [0] [] r0 h K=bTv h (R K [0]):=by kernel_rfl
def F23 (C:CF)(L:Nat)(h:H):=bTv h rS
def cDm (L:Nat)(h:H){r:V×H}(q:D 23 [] h=none):=(ti q Tryz.func23 (cAt _ L h _) (by kernel_rfl):Fe D (F23 · L h) 23 [] h r)
def cGv (n:K3 β):=aD (A.zL h) fun b c=>aD (A.zL c) fun d e=>aD (A.zL e) fun f i=>bnd (A.zI Z100L [(4,1,b),(5,1,d),(6,1,f)]) fun j=>aD (A.box 9 j i) fun k l=>n B E k l
def cGu (k:K6 β):=nl 0 1 B h fun d=>aD (C 43 [d] h) fun e f=>bnd (A.zE e) fun i=>k i (iN 0) e B E P f
noncomputable def bGu (k:K3 β)(n:K6 β):=bnd (A.z prog .lss 3 Z x) fun a=>aP a (n Z x Y B E P h) (k B E P h)
def cGt (k:K7 β):=bnd (A.zB 4 Y Z) fun a=>bnd (A.load true 4 a h) fun b=>aD (A.box 4 Z30 h) fun c d=>bnd (A.store 4 c b d) fun f=>k c Z x Y B E P f
def cGs (n:K6 β):=nl 4 1 P h fun d=>lf 0 1 J h fun f=>bnd (A.load true 4 J h) fun i=>aD (A.zC 4 1 Z30L [(0,4,i)] h) fun j k=>bnd (A.zM true f j d k) fun m=>nl 5 1 P m fun q=>lf 0 1 J m fun s=>bnd (A.zI Z103L []) fun t=>bnd (A.zM true s t q m) fun v=>n Z x Y B E P v
def bRs (k:K6 β):=cGt h B E P Y x Z (fun J Z x Y B E P h=>cGs h B E P J Y x Z k)
noncomputable def bQc (k:K6 β):=bnd (A.z prog .add 3 Z (iN 1)) fun a=>k x a Y B E P h
def aSp (C:CF)(L:Nat){β:Type}(k:K3 β):Nat→K6 β
 |0,_,_,_,_,_,_,_=>none
 |n+1,x,Z,Y,B,E,P,h=>bGu h B E P Y x Z k (fun Z x Y B E P h=>bRs h B E P Y x Z (fun Z x Y B E P h=>bQc h B E P Y x Z (fun x Z Y B E P h=>aSp C L k n x Z Y B E P h)))
def bVz (C:CF)(L:Nat)(K:KK β):∀n,M (fun f h=>Lw prog C L 3 46 [4] (gB Tryz.f24.body 116) [18,19,17,0,1,5] [(0,[0,1,5])] n f h K) [18,19,17,0,1,5]=aSp C L (X K 0 [0,1,5]) n:=by refine lw [18,19,17,0,1,5] [18,19,17,0,1,5] (F:=fun a x Z Y B E P h=>bGu h B E P Y x Z (X K 0 [0,1,5]) (fun Z x Y B E P h=>bRs h B E P Y x Z (fun Z x Y B E P h=>bQc h B E P Y x Z a))) ?_ ?_ (fun a=>w6 fun x Z Y B E P h=>(y 2 [19,18,17,0,1,5] ?_ (w6 fun Z x Y B E P h=>(q [19,18,17,0,1,5] (fun k=>(bk 1 ?_ ?_)) ?_ ?_)) ?_))<;>intros<;>kernel_rfl
def bSo (k:K3 β):=cGu C h B E P (fun x Z Y B E P h=>aSp C L k L x Z Y B E P h)
def bGt (k:K1 β):=nl 2 1 B h fun d=>bnd (A.zM false E P d h) fun j=>k P j
def bKf (k:K1 β):=cGv h B E (fun B E P h=>bSo C L h B E P (fun B E P h=>bGt h B E P k))
def cAs:execK prog C L 3 46 [4] (gB Tryz.f24.body 1) [4] [] (r2 0 1 B E) h K=bKf C L h B E (R K [4]):=by unfold bKf;refine(y 2 [0,1,5] ?_ (w3 fun B E P h=>(q [0,1,5] (fun k=>(by unfold bSo;refine(y 1 [18,19,17,0,1,5] ?_ (w6 fun x Z Y B E P h=>(bk 0 (lp (c6 (bVz C L _ L) x Z Y B E P h) ?_) ?_)) ?_)<;>intros<;>kernel_rfl)) ?_ ?_)) ?_)<;>intros<;>kernel_rfl
def F24 (C:CF)(L:Nat)(B E:V)(h:H):=bKf C L h B E rS
def cDl (L:Nat)(B E:V)(h:H){r:V×H}(q:D 24 [B,E] h=none):=(ti q Tryz.func24 (cAs _ L h _ B E) (by kernel_rfl):Fe D (F24 · L B E h) 24 [B,E] h r)
def aRx (n:K2 β):=aD (A.box 35 E h) fun a b=>nl 2 1 B b fun i=>lf 1 1 a b fun k=>bnd (A.zJ false Z63 false k i b) fun l=>n a l b
def aRw (k:K3 β):=bI .eql 63 P (.pointer none)
 (k (.bool true) G P h)
 (nl 2 1 P h fun o=>aF o fun p=>iK (.bool !p)
 (k (.bool true) G P h)
 (lf 3 1 G h fun z=>nl 0 1 P h fun d=>bI .neq 9 z d
 (k (.bool true) G P h)
 (nl 8 1 P h fun b=>iK b
 (bnd (A.zA 28 G) fun r1=>lf 0 1 r1 h fun t=>nl 7 1 P h fun y=>bB .leq 9 t y fun a=>k (.bool a) G P h)
 (k (.bool false) G P h))))
def aRv (r:K1 β)(k:K2 β):=aP xr (r (.bool false) h) (k G P h)
def aTb (r:K1 β)(k:K2 β):=aRw h G P (fun xr G P h=>aRv h G P xr r k)
def bPn (a:K4 β):=nl 3 1 P h fun d=>bnd (A.zA 28 G) fun e=>lf 0 1 e h fun i=>aD (C 50 [d,i] h) fun j k=>bnd (A.u 0 j) fun m=>bnd (A.u 1 j) fun n=>aF n fun o=>aD (A.box 1 Z5 k) fun p q=>bnd (A.store 1 p m q) fun s=>a (.bool o) (.func (.func 51) ⟨[]⟩ ⟨[G,p]⟩) G P s
def bBu (k:K3 β):=aF J fun b=>iK (.bool !b)
 (k (.bool true) G P h)
 (lf 34 1 G h fun l=>bnd (A.zA 28 G) fun m=>lf 2 1 m h fun o=>bI .neq 5 l o
 (k (.bool true) G P h)
 (nl 4 1 P h fun y=>bnd (A.zA 28 G) fun z=>lf 0 1 z h fun a=>bnd (A.zJ true Z90 false a y h) fun c1=>aD (C 52 [c1,U] h) fun e f=>aF e fun i=>aF (.bool !i) fun c=>k (.bool c) G P f))
def bBt (r:K1 β)(k:K2 β):=aP xe (r (.bool false) h) (k G P h)
def aXn (r:K1 β)(k:K2 β):=bBu C h G P J U (fun xe G P h=>bBt h G P xe r k)
def bPm (k:K1 β):=bnd (A.zA 28 G) fun b=>lf 0 1 b h fun d=>nf 7 P fun f=>bnd (A.store 1 f d h) fun j=>k P j
def bPl (a:K1 β):=nf 8 P fun c=>bnd (A.store 1 c (.bool true) h) fun e=>nl 6 1 P e fun k=>nl 7 1 P e fun o=>bnd (A.zI Z103L []) fun p=>bnd (A.zM true o p k e) fun r=>a (.bool true) r
def aNa (k:K1 β):=aRx h B E (fun G P h=>aTb h G P k (fun G P h=>bPn C h G P (fun J U G P h=>aXn C h G P J U k (fun G P h=>bPm h G P (fun P h=>bPl h P k)))))
def cAn:execK prog C L 3 103 [4] (gB Tryz.f29.body 1) [4] [] (r2 0 1 B E) h K=aNa C h B E (R K [4]):=by unfold aNa;refine(y 2 [3,5] ?_ (w2 fun G P h=>(q [3,5] (fun k=>?_) (w2 fun G P h=>(y 2 [7,8,3,5] ?_ (w4 fun J U G P h=>(q [3,5] (fun k=>?_) (w2 fun G P h=>(y 1 [5] ?_ ?_ ?_)) ?_)) ?_)) ?_)) ?_)<;>intros<;>kernel_rfl
def F29 (C:CF)(L:Nat)(B E:V)(h:H):=aNa C h B E rS
def cDk (L:Nat)(B E:V)(h:H){r:V×H}(q:D 29 [B,E] h=none):=(ti q Tryz.func29 (cAn _ L h _ B E) (by kernel_rfl):F29 (iD prog 3 D) L B E h=some r→iD prog 3 D 29 [B,E] h=some r)
def bTt (r:K1 β):=bI .eql 42 B (.pointer none)
 (r (.slice none 0 0) h)
 (nl 1 1 B h fun k=>aD (C 60 [k] h) fun l m=>r l m)
def bZz:execK prog C L 3 10 [2] (gB Tryz.f43.body 1) [2] [] (r1 0 B) h K=bTt C h B (R K [2]):=by kernel_rfl
def F43 (C:CF)(L:Nat)(B:V)(h:H):=bTt C h B rS
def cCy (L:Nat)(B:V)(h:H){r:V×H}(q:D 43 [B] h=none):=(ti q Tryz.func43 (bZz _ L h _ B) (by kernel_rfl):Fe D (F43 · L B h) 43 [B] h r)
def yY (k:K3 β)(n:K2 β):=aD (A.box 35 E h) fun a b=>bI .eql 42 B (.pointer none)
 (k (.string ⟨⟨[]⟩⟩) (.bool false) (.bool false) b)
 (nl 0 1 B b fun s=>bI .eql 58 s (.map none)
 (k (.string ⟨⟨[]⟩⟩) (.bool false) (.bool false) b)
 (n B a b))
def yX (k:K3 β):=lf 0 1 G h fun b=>bB .eql 5 b (iU 5) fun d=>k (.bool d) B G h
def bOv (r:K3 β):=nl 1 1 B h fun d=>lg 28 4 G h fun f=>aD (C 61 [d,f] h) fun i j=>aF i fun k=>r (.string ⟨⟨[]⟩⟩) (.bool false) (.bool k) j
def aCa (a:K3 β)(n:K2 β):=lf 0 1 G h fun b=>bI .neq 5 b (iU 2)
 (a (.string ⟨⟨[]⟩⟩) (.bool false) (.bool true) h)
 (bnd (A.zA 4 G) fun k=>lf 0 1 k h fun m=>bI .eql 5 m (iU 1)
 (bnd (A.load true 35 G h) fun r=>aD (C 62 [B,r] h) fun s t=>bnd (A.u 0 s) fun v=>aF v fun w=>bnd (A.u 1 s) fun y=>aF y fun z=>a (.string ⟨⟨[]⟩⟩) (.bool w) (.bool z) t)
 (n B G h))
def yZ (k:K3 β)(n:K2 β):=yX h B G (fun xw B G h=>aP xw (bOv C h B G k) (aCa C h B G k n))
def aHu (k:K3 β):=lf 3 1 G h fun c=>aD (C 63 [B,c] h) fun d e=>k B G d e
def aHt (n:K4 β):=bI .eql 125 J (.pointer none)
 (n (.bool true) B G J h)
 (lf 2 1 G h fun k=>bI .lss 3 k (iN 1)
 (n (.bool true) B G J h)
 (nl 1 1 J h fun t=>lf 2 1 G h fun v=>bB .neq 3 t v fun y=>n (.bool y) B G J h))
def aHs (r k:K3 β):=aP xs (r (.string ⟨⟨[]⟩⟩) (.bool false) (.bool false) h) (k B G J h)
def aHx (r k:K3 β):=aHt h B G J (fun xs B G J h=>aHs h B G J xs r k)
def aQc (k:K4 β):=bnd (A.zA 4 G) fun a=>lf 0 1 a h fun c=>k c B G J h
def aQb (k:K5 β):=bB .eql 5 xf (iU 8) fun b=>k (.bool b) xf B G J h
def cFm (k:K3 β):=bnd (A.zA 4 G) fun a=>lf 22 1 a h fun c=>bnd (A.zE c) fun d=>aD (A.zP 1 1 Z5L (iN 0) d h) fun e f=>k G J e f
def cFl (k:K5 β):=bnd (A.zA 4 G) fun a=>lf 22 1 a h fun c=>bnd (A.zE c) fun d=>k d (iN 0) J c U h
noncomputable def bFy (k:K1 β)(j:K5 β):=bnd (A.z prog .lss 3 xe xl) fun a=>aP a (bnd (A.zB 2 xk xe) fun b=>bnd (A.load true 2 b h) fun c=>aD (A.box 2 Z57 h) fun d e=>bnd (A.store 2 d c e) fun i=>nl 0 1 J i fun n=>lf 0 1 d i fun p=>lf 1 1 d i fun r=>aD (C 47 [n,p,r] i) fun s t=>aD (A.zC 1 1 Z5L [(0,1,s)] t) fun u v=>aD (A.zF 1 1 U u v) fun w y=>bnd (A.z prog .add 3 xe (iN 1)) fun f=>j xl f J xk w y) (k U h)
def aSi (C:CF)(L:Nat){β:Type}(k:K1 β):Nat→K5 β
 |0,_,_,_,_,_,_=>none
 |n+1,xl,xe,J,xk,U,h=>bFy C h J U xk xl xe k (fun xl xe J xk U h=>aSi C L k n xl xe J xk U h)
def bVs (C:CF)(L:Nat)(K:KK β):∀n,M (fun f h=>Lw prog C L 3 137 [4,5,6] (gB Tryz.f44.body 64852) [83,84,7,82,8] [(2,[8]),(1,[])] n f h K) [83,84,7,82,8]=aSi C L (X K 2 [8]) n:=by refine lw [83,84,7,82,8] [83,84,7,82,8] (F:=fun k xl xe J xk U h=>bFy C h J U xk xl xe (X K 2 [8]) k) ?_ ?_ ?_<;>intros<;>kernel_rfl
def bSa (k:K1 β):=cFl h G J U (fun xl xe J xk U h=>aSi C L k L xl xe J xk U h)
def bFx (k:K3 β):=bnd (A.b2s U h) fun b=>k b (.bool false) (.bool true) h
def aRr (k:K5 β):=bB .eql 5 xf (iU 10) fun b=>k (.bool b) xf B G J h
def cFn (k:K4 β):=bnd (A.zA 4 G) fun a=>lf 22 1 a h fun c=>bnd (A.zE c) fun d=>k d (iN 0) J c h
noncomputable def bFz (k:K0 β)(n:K4 β):=bnd (A.z prog .lss 3 xi xn) fun a=>aP a (bnd (A.zB 2 xm xi) fun b=>bnd (A.load true 2 b h) fun c=>aD (A.box 2 Z57 h) fun d e=>bnd (A.store 2 d c e) fun i=>nl 0 1 J i fun m=>lf 0 1 d i fun o=>aD (C 64 [m,o] i) fun p q=>aF p fun r=>bnd (A.z prog .add 3 xi (iN 1)) fun s=>n xn s J xm q) (k h)
def aSj (C:CF)(L:Nat){β:Type}(k:K0 β):Nat→K4 β
 |0,_,_,_,_,_=>none
 |n+1,xn,xi,J,xm,h=>bFz C h J xm xn xi k (fun xn xi J xm h=>aSj C L k n xn xi J xm h)
def bVt (C:CF)(L:Nat)(K:KK β):∀n,M (fun f h=>Lw prog C L 3 137 [4,5,6] (gB Tryz.f44.body 64884) [108,109,7,107] [(4,[]),(1,[])] n f h K) [108,109,7,107]=aSj C L (X K 4 []) n:=by refine lw [108,109,7,107] [108,109,7,107] (F:=fun k xn xi J xm h=>bFz C h J xm xn xi (X K 4 []) k) ?_ ?_ ?_<;>intros<;>kernel_rfl
def aWg (k:K4 β):=bB .eql 5 xf (iU 14) fun b=>(bif b then
 k (.bool b) B G J h
 else
 bB .eql 5 xf (iU 0) fun e=>k (.bool e) B G J h)
def aWf (a:K3 β)(n:K0 β):=aP xv (nf 1 J fun c=>bnd (A.store 1 c (iN 0) h) fun e=>nl 2 1 J e fun k=>iK k
 (nl 0 1 B e fun p=>lf 3 1 G e fun r=>bnd (A.zY true r p e) fun t=>n t)
 (n e)) (a (.string ⟨⟨[]⟩⟩) (.bool false) (.bool false) h)
def aMy (r:K3 β)(k:K0 β):=aQc h B G J (fun xf B G J h=>aQb h B G J xf (fun xt xf B G J h=>aP xt (cFm h G J (fun G J U h=>bSa C L h G J U (fun U h=>bFx h U r))) (aRr h B G J xf (fun xu xf B G J h=>aP xu (cFn h G J (fun xn xi J xm h=>aSj C L k L xn xi J xm h)) (aWg h B G J xf (fun xv B G J h=>aWf h B G J xv r k))))))
def aRq (k:K3 β):=k (.string ⟨⟨[]⟩⟩) (.bool false) (.bool true) h
def wA (k:K3 β):=yY h B E k (fun B G h=>yZ C h B G k (fun B G h=>aHu C h B G (fun B G J h=>aHx h B G J k (fun B G J h=>aMy C L h B G J k (fun h=>aRq h k)))))
def bZy:execK prog C L 3 137 [4,5,6] (gB Tryz.f44.body 1) [4,5,6] [] (r2 0 1 B E) h K=wA C L h B E (R K [4,5,6]):=by unfold wA;refine(y 2 [0,3] ?_ (w2 fun B G h=>(q [0,3] (fun k=>(bk 0 ?_ ?_)) (w2 fun B G h=>(y 1 [0,3,7] ?_ (w3 fun B G J h=>(q [0,3,7] (fun k=>?_) (w3 fun B G J h=>(q [] (fun k=>(by unfold aMy;refine(y 1 [72,0,3,7] ?_ (w4 fun xf B G J h=>(bk 1 (y 1 [73,72,0,3,7] ?_ (w5 fun xt xf B G J h=>(cd (y 1 [3,7,8] ?_ (w3 fun G J U h=>(q [8] (fun k=>(by unfold bSa;refine(y 1 [83,84,7,82,8] ?_ (w5 fun xl xe J xk U h=>(bk 2 (lp (c5 (bVs C L _ L) xl xe J xk U h) ?_) ?_)) ?_)<;>intros<;>kernel_rfl)) ?_ ?_)) ?_) (y 1 [103,72,0,3,7] ?_ (w5 fun xu xf B G J h=>(cd (y 1 [108,109,7,107] ?_ (w4 fun xn xi J xm h=>(bk 4 (lp (c4 (bVt C L _ L) xn xi J xm h) ?_) ?_)) ?_) (y 1 [121,0,3,7] ?_ ?_ ?_) ?_)) ?_) ?_)) ?_) ?_)) ?_)<;>intros<;>kernel_rfl)) ?_ ?_)) ?_)) ?_)) ?_)) ?_)<;>intros<;>kernel_rfl
def F44 (C:CF)(L:Nat)(B E:V)(h:H):O (V×H):=wA C L h B E (fun W P S h=>some (.tuple ⟨[W,P,S]⟩,h))
def cCx (L:Nat)(B E:V)(h:H){r:V×H}(q:D 44 [B,E] h=none):=(ti q Tryz.func44 (bZy _ L h _ B E) (by kernel_rfl):Fe D (F44 · L B E h) 44 [B,E] h r)
def bJx (k:K2 β):=aD (C 63 [B,E] h) fun e f=>bI .neq 125 e (.pointer none)
 (nl 0 1 e f fun p=>aD (C 50 [p,I] f) fun r s=>bnd (A.u 0 r) fun t=>bnd (A.u 1 r) fun u=>aF u fun v=>k t (.bool v) s)
 (k (iU 0) (.bool false) f)
def bZx:execK prog C L 3 22 [6,7] (gB Tryz.f45.body 1) [6,7] [] (r3 0 1 2 B E I) h K=bJx C h B E I (R K [6,7]):=by kernel_rfl
def F45 (C:CF)(L:Nat)(B E I:V)(h:H):O (V×H):=bJx C h B E I (fun S J h=>some (.tuple ⟨[S,J]⟩,h))
def bEz (L:Nat)(B E I:V)(h:H){r:V×H}(q:D 45 [B,E,I] h=none):=(ti q Tryz.func45 (bZx _ L h _ B E I) (by kernel_rfl):Fe D (F45 · L B E I h) 45 [B,E,I] h r)
def cJm (k:K1 β):=bnd (A.zI cBf []) fun b=>aD (A.box 1 b h) fun c d=>k c d
def bZw:execK prog C L 3 3 [0] (gB Tryz.f46.body 1) [0] [] r0 h K=cJm h (R K [0]):=by kernel_rfl
def F46 (C:CF)(L:Nat)(h:H):=cJm h rS
def cCw (L:Nat)(h:H){r:V×H}(q:D 46 [] h=none):=(ti q Tryz.func46 (bZw _ L h _) (by kernel_rfl):Fe D (F46 · L h) 46 [] h r)
def aWe (k:K3 β):=k E B I h
def aWd (k:K4 β):=bI .eql 98 B (.pointer none)
 (k (.bool true) E B I h)
 (bI .gtr 5 I (iU 2)
 (k (.bool true) E B I h)
 (aD (C 65 [E] h) fun q r=>aF q fun s=>aF (.bool !s) fun u=>k (.bool u) E B I r))
def aWc (r:K1 β)(k:K3 β):=aP Z (r (iU 128) h) (k E B I h)
def aXp (r:K1 β)(k:K3 β):=aWd C h B E I (fun Z E B I h=>aWc h B E I Z r k)
def bFw (k:K5 β):=aD (C 66 [B,E] h) fun c d=>bnd (A.u 0 c) fun f=>bnd (A.u 1 c) fun i=>aF i fun j=>k (.bool j) E B f I d
def bFv (k:K5 β):=aF U fun b=>k (.bool b) E B J I h
def cFi (k:K1 β):=nl 0 1 B h fun d=>bnd (A.zB 2 d J) fun i=>bnd (A.zA 1 i) fun j=>bnd (A.store 1 j I h) fun l=>k I l
def bOu (k:K5 β):=nl 0 1 B h fun d=>bnd (A.zE d) fun e=>bB .eql 3 e (iN 16) fun i=>k (.bool i) E B J I h
def cFj (k:K1 β):=k (iU 128) h
def cFk (k:K1 β):=nl 0 1 B h fun e=>bnd (A.zK 2 e none (some J) (some J) h) fun j=>bnd (A.zI Z57L [(0,1,E),(1,1,I)]) fun m=>aD (A.zC 2 1 Z57L [(0,2,m)] h) fun n o=>aD (A.zF 2 24 j n o) fun p q=>nf 0 B fun t=>bnd (A.load false 1 t q) fun u=>bif (chk (bnd (A.load false 1 t o) fun v=>some v) u&&true)then
 bnd (A.zK 2 u (some J) none none q) fun w=>bif (chk (bnd (A.zK 2 u (some J) none none o) fun v=>some v) w&&true)then
 aD (A.zF 2 24 p w q) fun y z=>nf 0 B fun b=>bnd (A.store 1 b y z) fun d=>k I d
 else none
 else none
def bIf (r k:K1 β):=bFv h B E I J U (fun xx E B J I h=>aP xx (cFi h B I J k) (bOu h B E I J (fun xy E B J I h=>aP xy (cFj h r) (cFk h B E I J k))))
def bOt (k:K1 β):=k I h
def aQz (k:K1 β):=aWe h B E I (fun E B I h=>aXp C h B E I k (fun E B I h=>bFw C h B E I (fun U E B J I h=>bIf h B E I J U k (fun I h=>bOt h I k))))
def bZv:execK prog C L 3 66 [6] (gB Tryz.f47.body 1) [6] [] (r3 0 1 2 B E I) h K=aQz C h B E I (R K [6]):=by unfold aQz;refine(y 1 [1,0,2] ?_ (w3 fun E B I h=>(q [1,0,2] (fun k=>?_) (w3 fun E B I h=>(y 1 [8,1,0,7,2] ?_ (w5 fun U E B J I h=>(q [2] (fun k=>(bk 0 ?_ ?_)) ?_ ?_)) ?_)) ?_)) ?_)<;>intros<;>kernel_rfl
def F47 (C:CF)(L:Nat)(B E I:V)(h:H):=aQz C h B E I rS
def cCv (L:Nat)(B E I:V)(h:H){r:V×H}(q:D 47 [B,E,I] h=none):=(ti q Tryz.func47 (bZv _ L h _ B E I) (by kernel_rfl):Fe D (F47 · L B E I h) 47 [B,E,I] h r)
noncomputable def bTs (e:K1 β):=aD (A.box 4 B h) fun a b=>aD (A.box 4 Z30 b) fun c d=>lf 2 1 a d fun f=>bnd (A.zS prog .min ⟨[5,5]⟩ 5 [f,E]) fun j=>bnd (A.zA 2 a) fun k=>bnd (A.store 1 k j d) fun m=>aF I fun o=>bnd (A.zA 3 a) fun p=>bnd (A.store 1 p (.bool o) m) fun r=>bnd (A.load true 4 a r) fun s=>bnd (A.store 4 c s r) fun u=>e c u
def bZt:execK prog C L 3 15 [6] (gB Tryz.f49.body 1) [6] [] (r3 0 1 2 B E I) h K=bTs h B E I (R K [6]):=by kernel_rfl
def F49 (C:CF)(L:Nat)(B E I:V)(h:H):O (V×H):=bTs h B E I (fun S h=>bnd (aPx (A.load true 4 S h) (some [])) fun v=>some (tP v,h))
def cCu (L:Nat)(B E I:V)(h:H){r:V×H}(q:D 49 [B,E,I] h=none):=(ti q Tryz.func49 (bZt _ L h _ B E I) (by kernel_rfl):Fe D (F49 · L B E I h) 49 [B,E,I] h r)
def cFf (k:K4 β):=k B E (iU 0) (.bool false) h
def cFe (k:K6 β):=aD (C 67 [B] h) fun b c=>bnd (A.zE b) fun d=>k d (iN 0) E b S J c
noncomputable def bBg (f:K2 β)(j:K6 β):=bnd (A.z prog .lss 3 xg Q) fun a=>aP a (bnd (A.zB 2 g xg) fun b=>bnd (A.load true 2 b h) fun c=>aD (A.box 2 Z57 h) fun d e=>bnd (A.store 2 d c e) fun i=>lf 0 1 d i fun k=>aD (C 72 [k,E] i) fun m n=>iK m
 (lf 1 1 d n fun r=>bnd (A.zS prog .max ⟨[5,5]⟩ 5 [S,r]) fun s=>bnd (A.z prog .add 3 xg (iN 1)) fun v=>j Q v E g s (.bool true) n)
 (bnd (A.z prog .add 3 xg (iN 1)) fun y=>j Q y E g S J n)) (f S J h)
def aQp (C:CF)(L:Nat){β:Type}(k:K2 β):Nat→K6 β
 |0,_,_,_,_,_,_,_=>none
 |n+1,Q,xg,E,g,S,J,h=>bBg C h E S J g Q xg k (fun Q xg E g S J h=>aQp C L k n Q xg E g S J h)
def bWk (C:CF)(L:Nat)(K:KK β):∀n,M (fun f h=>Lw prog C L 3 28 [4,5] (gB Tryz.f50.body 116) [12,13,1,11,6,7] [(0,[6,7])] n f h K) [12,13,1,11,6,7]=aQp C L (X K 0 [6,7]) n:=by refine lw [12,13,1,11,6,7] [12,13,1,11,6,7] (F:=fun k Q xg E g S J h=>bBg C h E S J g Q xg (X K 0 [6,7]) k) ?_ ?_ ?_<;>intros<;>kernel_rfl
def bSf (k:K2 β):=cFe C h B E S J (fun Q xg E g S J h=>aQp C L k L Q xg E g S J h)
def bBf (k:K2 β):=aF J fun c=>k S (.bool c) h
def bJv (k:K2 β):=cFf h B E (fun B E S J h=>bSf C L h B E S J (fun S J h=>bBf h S J k))
def bZs:execK prog C L 3 28 [4,5] (gB Tryz.f50.body 1) [4,5] [] (r2 0 1 B E) h K=bJv C L h B E (R K [4,5]):=by unfold bJv;refine(y 2 [0,1,6,7] ?_ (w4 fun B E S J h=>(q [6,7] (fun k=>(by unfold bSf;refine(y 1 [12,13,1,11,6,7] ?_ (w6 fun Q xg E g S J h=>(bk 0 (lp (c6 (bWk C L _ L) Q xg E g S J h) ?_) ?_)) ?_)<;>intros<;>kernel_rfl)) ?_ ?_)) ?_)<;>intros<;>kernel_rfl
def F50 (C:CF)(L:Nat)(B E:V)(h:H):O (V×H):=bJv C L h B E (fun W P h=>some (.tuple ⟨[W,P]⟩,h))
def cCt (L:Nat)(B E:V)(h:H){r:V×H}(q:D 50 [B,E] h=none):=(ti q Tryz.func50 (bZs _ L h _ B E) (by kernel_rfl):Fe D (F50 · L B E h) 50 [B,E] h r)
def bTr (r:K1 β):=aD (A.box 4 B h) fun a b=>bnd (A.zA 28 E) fun d=>bnd (A.load true 4 d b) fun e=>bnd (A.load true 4 a b) fun f=>bnd (A.load false 1 I b) fun i=>aD (C 49 [f,i,(.bool true)] b) fun j k=>bif (chk (bnd (A.load true 4 d k) fun v=>some v) e&&true)then
 bB .eql 30 e j fun m=>r (.bool m) k
 else none
def bZr:execK prog C L 3 11 [4] (gB Tryz.f51.body 1) [4] [] (r3 0 1 2 B E I) h K=bTr C h B E I (R K [4]):=by kernel_rfl
def F51 (C:CF)(L:Nat)(B E I:V)(h:H):=bTr C h B E I rS
def cCs (L:Nat)(B E I:V)(h:H){r:V×H}(q:D 51 [B,E,I] h=none):=(ti q Tryz.func51 (bZr _ L h _ B E I) (by kernel_rfl):Fe D (F51 · L B E I h) 51 [B,E,I] h r)
def bJu (k:K1 β):=aD (C 73 [B,E] h) fun d e=>bB .geq 3 d (iN 0) fun i=>k (.bool i) e
def bZq:execK prog C L 3 9 [4] (gB Tryz.f52.body 1) [4] [] (r2 0 1 B E) h K=bJu C h B E (R K [4]):=by kernel_rfl
def F52 (C:CF)(L:Nat)(B E:V)(h:H):=bJu C h B E rS
def cCr (L:Nat)(B E:V)(h:H){r:V×H}(q:D 52 [B,E] h=none):=(ti q Tryz.func52 (bZq _ L h _ B E) (by kernel_rfl):Fe D (F52 · L B E h) 52 [B,E] h r)
def bTo (r:K1 β):=bI .eql 59 B (.pointer none)
 (r (.slice none 0 0) h)
 (aD (C 80 [B] h) fun i j=>aD (C 79 [i] j) fun k l=>r k l)
def bZi:execK prog C L 3 8 [2] (gB Tryz.f60.body 1) [2] [] (r1 0 B) h K=bTo C h B (R K [2]):=by kernel_rfl
def F60 (C:CF)(L:Nat)(B:V)(h:H):=bTo C h B rS
def cCj (L:Nat)(B:V)(h:H){r:V×H}(q:D 60 [B] h=none):=(ti q Tryz.func60 (bZi _ L h _ B) (by kernel_rfl):Fe D (F60 · L B h) 60 [B] h r)
def bFn (k:K1 β)(c:K2 β):=aD (A.box 4 E h) fun a b=>bI .eql 59 B (.pointer none)
 (k (.bool false) b)
 (bnd (A.load true 4 a b) fun l=>aD (C 81 [l] b) fun m n=>aF m fun o=>iK (.bool !o)
 (k (.bool false) n)
 (c B a n))
def bOm (r:K1 β)(k:K2 β):=lf 1 1 G h fun b=>bI .eql 9 b (.string ⟨⟨[]⟩⟩)
 (nl 0 1 B h fun j=>lf 0 1 G h fun l=>bnd (A.zY true l j h) fun n=>r (.bool true) n)
 (k B G h)
def cEy (r:K1 β):=bnd (A.zA 3 G) fun a=>bnd (A.store 1 a (.bool true) h) fun c=>nl 0 1 B c fun i=>lf 0 1 G c fun k=>bnd (A.load true 4 G c) fun l=>bnd (A.zM true k l i c) fun n=>r (.bool true) n
def aXu (k:K1 β):=bFn C h B E k (fun B G h=>bOm h B G k (fun B G h=>cEy h B G k))
def bZh:execK prog C L 3 29 [4] (gB Tryz.f61.body 1) [4] [] (r2 0 1 B E) h K=aXu C h B E (R K [4]):=by unfold aXu;refine(y 2 [0,3] ?_ (w2 fun B G h=>(y 1 [0,3] ?_ ?_ ?_)) ?_)<;>intros<;>kernel_rfl
def F61 (C:CF)(L:Nat)(B E:V)(h:H):=aXu C h B E rS
def cCi (L:Nat)(B E:V)(h:H){r:V×H}(q:D 61 [B,E] h=none):=(ti q Tryz.func61 (bZh _ L h _ B E) (by kernel_rfl):Fe D (F61 · L B E h) 61 [B,E] h r)
def aRp (n:K3 β):=aD (A.box 35 E h) fun a b=>lf 3 1 a b fun i=>aD (C 63 [B,i] b) fun j k=>n B j a k
def aRo (k:K4 β):=lf 2 1 G h fun b=>bI .lss 3 b (iN 1)
 (k (.bool true) B S G h)
 (bI .neq 125 S (.pointer none)
 (nl 1 1 S h fun p=>bB .gtr 3 p (iN 0) fun r=>k (.bool r) B S G h)
 (k (.bool false) B S G h))
def aRn (r:K2 β)(k:K3 β):=aP xp (r (.bool false) (.bool false) h) (k B S G h)
def aTa (r:K2 β)(k:K3 β):=aRo h B G S (fun xp B S G h=>aRn h B G S xp r k)
def bBb (n:K4 β):=bI .neq 125 S (.pointer none)
 (nl 2 1 S h fun j=>aF j fun k=>iK (.bool !k)
 (bnd (A.zA 4 G) fun p=>lf 8 1 p h fun r=>aF r fun s=>aF (.bool !s) fun u=>n B S G (.bool u) h)
 (n B S G (.bool false) h))
 (n B S G (.bool false) h)
def bFm (n:K3 β):=aF W fun b=>iK (.bool !b)
 (aD (C 46 [] h) fun e f=>bnd (A.zI Z128L [(0,1,e)]) fun i=>aD (A.box 3 i f) fun j k=>nl 0 1 B k fun p=>lf 3 1 G k fun r=>bnd (A.zM true r j p k) fun u=>n j G W u)
 (n S G W h)
def bFl (a:K2 β):=lf 2 1 G h fun c=>nf 1 S fun e=>bnd (A.store 1 e c h) fun i=>bnd (A.zA 4 G) fun k=>lf 8 1 k i fun m=>aF m fun n=>nf 2 S fun p=>bnd (A.store 1 p (.bool n) i) fun r=>aF W fun t=>a (.bool t) (.bool true) r
def aMz (k:K2 β):=aRp C h B E (fun B S G h=>aTa h B G S k (fun B S G h=>bBb h B G S (fun B S G W h=>bFm C h B G W S (fun S G W h=>bFl h G W S k))))
def bZg:execK prog C L 3 64 [4,5] (gB Tryz.f62.body 1) [4,5] [] (r2 0 1 B E) h K=aMz C h B E (R K [4,5]):=by unfold aMz;refine(y 2 [0,6,3] ?_ (w3 fun B S G h=>(q [0,6,3] (fun k=>?_) (w3 fun B S G h=>(y 1 [0,6,3,4] ?_ (w4 fun B S G W h=>(y 1 [6,3,4] ?_ ?_ ?_)) ?_)) ?_)) ?_)<;>intros<;>kernel_rfl
def F62 (C:CF)(L:Nat)(B E:V)(h:H):O (V×H):=aMz C h B E (fun W P h=>some (.tuple ⟨[W,P]⟩,h))
def cCh (L:Nat)(B E:V)(h:H){r:V×H}(q:D 62 [B,E] h=none):=(ti q Tryz.func62 (bZg _ L h _ B E) (by kernel_rfl):Fe D (F62 · L B E h) 62 [B,E] h r)
def bJq (r:K1 β):=bI .eql 42 B (.pointer none)
 (r (.pointer none) h)
 (nl 0 1 B h fun k=>bnd (A.zJ true Z125 false E k h) fun m=>r m h)
def bZf:execK prog C L 3 13 [4] (gB Tryz.f63.body 1) [4] [] (r2 0 1 B E) h K=bJq h B E (R K [4]):=by kernel_rfl
def F63 (C:CF)(L:Nat)(B E:V)(h:H):=bJq h B E rS
def cCg (L:Nat)(B E:V)(h:H){r:V×H}(q:D 63 [B,E] h=none):=(ti q Tryz.func63 (bZf _ L h _ B E) (by kernel_rfl):Fe D (F63 · L B E h) 63 [B,E] h r)
def bOl (r:K1 β)(a:K3 β):=bI .eql 98 B (.pointer none)
 (r (.bool false) h)
 (aD (C 66 [B,E] h) fun j k=>bnd (A.u 0 j) fun m=>bnd (A.u 1 j) fun n=>aF n fun o=>a m B (.bool o) k)
noncomputable def bOk (k:K1 β):=iK S
 (nl 0 1 B h fun i=>bnd (A.zK 2 i none (some P) (some P) h) fun l=>nl 0 1 B h fun p=>bnd (A.z prog .add 3 P (iN 1)) fun r=>bnd (A.zK 2 p (some r) none none h) fun s=>aD (A.zF 2 24 l s h) fun t u=>nf 0 B fun w=>bnd (A.store 1 w t u) fun z=>k S z)
 (k S h)
def bOj (k:K1 β):=aF S fun b=>k (.bool b) h
def bDv (k:K1 β):=bOl C h B E k (fun P B S h=>bOk h B P S (fun S h=>bOj h S k))
def bZe:execK prog C L 3 35 [4] (gB Tryz.f64.body 1) [4] [] (r2 0 1 B E) h K=bDv C h B E (R K [4]):=by unfold bDv;refine(y 3 [5,0,6] ?_ (w3 fun P B S h=>(y 1 [6] ?_ ?_ ?_)) ?_)<;>intros<;>kernel_rfl
def F64 (C:CF)(L:Nat)(B E:V)(h:H):=bDv C h B E rS
def cCf (L:Nat)(B E:V)(h:H){r:V×H}(q:D 64 [B,E] h=none):=(ti q Tryz.func64 (bZe _ L h _ B E) (by kernel_rfl):Fe D (F64 · L B E h) 64 [B,E] h r)
def bFk (r n:K1 β):=bI .eql 9 B (.string ⟨⟨[]⟩⟩)
 (r (.bool false) h)
 (aD (C 82 [B] h) fun k l=>aF k fun m=>iK (.bool !m)
 (r (.bool false) l)
 (n B l))
def cEx (k:K1 β):=aD (C 83 [B] h) fun b c=>k b c
def cEw (k:K4 β):=bnd (A.zE G) fun b=>k b (iN 0) G G h
def bBa (b:K1 β)(k:K0 β)(n:K4 β):=bnd (A.z prog .lss 3 Y xj) fun a=>aP a (bnd (A.zB 1 xh Y) fun c=>bnd (A.load false 1 c h) fun d=>bnd (A.zE G) fun l=>bnd (A.z prog .sub 3 l (iN 1)) fun m=>bB .eql 3 Y m fun o=>aD (C 84 [d,(.bool o)] h) fun p q=>aF p fun r=>iK (.bool !r)
 (b (.bool false) q)
 (bnd (A.z prog .add 3 Y (iN 1)) fun v=>n xj v G xh q)) (k h)
def aQm (C:CF)(L:Nat){β:Type}(r:K1 β)(k:K0 β):Nat→K4 β
 |0,_,_,_,_,_=>none
 |n+1,xj,Y,G,xh,h=>bBa C h G xh xj Y r k (fun xj Y G xh h=>aQm C L r k n xj Y G xh h)
def bWh (C:CF)(L:Nat)(K:KK β):∀n,M (fun f h=>Lw prog C L 3 31 [2] (gB Tryz.f65.body 244) [16,17,3,15] [(0,[])] n f h K) [16,17,3,15]=aQm C L (R K [2]) (X K 0 []) n:=by refine lw [16,17,3,15] [16,17,3,15] (F:=fun k xj Y G xh h=>bBa C h G xh xj Y (R K [2]) (X K 0 []) k) ?_ ?_ ?_<;>intros<;>kernel_rfl
def bSc (r:K1 β)(k:K0 β):=cEw h G (fun xj Y G xh h=>aQm C L r k L xj Y G xh h)
def bOi (k:K1 β):=k (.bool true) h
def aXt (k:K1 β):=bFk C h B k (fun B h=>cEx C h B (fun G h=>bSc C L h G k (fun h=>bOi h k)))
def bZd:execK prog C L 3 31 [2] (gB Tryz.f65.body 1) [2] [] (r1 0 B) h K=aXt C L h B (R K [2]):=by unfold aXt;refine(y 2 [0] ?_ (w1 fun B h=>(y 1 [3] ?_ (w1 fun G h=>(q [] (fun k=>(by unfold bSc;refine(y 1 [16,17,3,15] ?_ (w4 fun xj Y G xh h=>(bk 0 (lp (c4 (bWh C L _ L) xj Y G xh h) ?_) ?_)) ?_)<;>intros<;>kernel_rfl)) ?_ ?_)) ?_)) ?_)<;>intros<;>kernel_rfl
def F65 (C:CF)(L:Nat)(B:V)(h:H):=aXt C L h B rS
def aYw (L:Nat)(B:V)(h:H){r:V×H}(q:D 65 [B] h=none):=(ti q Tryz.func65 (bZd _ L h _ B) (by kernel_rfl):Fe D (F65 · L B h) 65 [B] h r)
def bTn (r:K2 β):=nl 0 1 B h fun f=>aD (C 85 [f,E,(.func (.func 86) ⟨[]⟩ ⟨[]⟩)] h) fun j k=>bnd (A.u 0 j) fun l=>bnd (A.u 1 j) fun m=>aF m fun n=>r l (.bool n) k
def bZc:execK prog C L 3 14 [4,5] (gB Tryz.f66.body 1) [4,5] [] (r2 0 1 B E) h K=bTn C h B E (R K [4,5]):=by kernel_rfl
def F66 (C:CF)(L:Nat)(B E:V)(h:H):O (V×H):=bTn C h B E (fun W P h=>some (.tuple ⟨[W,P]⟩,h))
def cCe (L:Nat)(B E:V)(h:H){r:V×H}(q:D 66 [B,E] h=none):=(ti q Tryz.func66 (bZc _ L h _ B E) (by kernel_rfl):Fe D (F66 · L B E h) 66 [B,E] h r)
def bJp (k:K1 β):=bI .eql 98 B (.pointer none)
 (k (.slice none 0 0) h)
 (nl 0 1 B h fun m=>bnd (A.zE m) fun n=>bI .eql 3 n (iN 0)
 (k (.slice none 0 0) h)
 (nl 0 1 B h fun v=>bnd (A.zE v) fun w=>aD (A.zP 2 24 Z57L w w h) fun y z=>nl 0 1 B z fun f=>aD (A.yP 2 y f z) fun i j=>k y j))
def bZb:execK prog C L 3 27 [2] (gB Tryz.f67.body 1) [2] [] (r1 0 B) h K=bJp h B (R K [2]):=by kernel_rfl
def F67 (C:CF)(L:Nat)(B:V)(h:H):=bJp h B rS
def cCd (L:Nat)(B:V)(h:H){r:V×H}(q:D 67 [B] h=none):=(ti q Tryz.func67 (bZb _ L h _ B) (by kernel_rfl):Fe D (F67 · L B h) 67 [B] h r)
def bJo (r:K1 β):=aD (C 91 [E] h) fun c d=>iK c
 (aD (C 92 [B,E] d) fun k l=>aF k fun m=>r (.bool m) l)
 (r (.bool false) d)
def bZa:execK prog C L 3 12 [4] (gB Tryz.f72.body 1) [4] [] (r2 0 1 B E) h K=bJo C h B E (R K [4]):=by kernel_rfl
def F72 (C:CF)(L:Nat)(B E:V)(h:H):=bJo C h B E rS
def cCc (L:Nat)(B E:V)(h:H){r:V×H}(q:D 72 [B,E] h=none):=(ti q Tryz.func72 (bZa _ L h _ B E) (by kernel_rfl):Fe D (F72 · L B E h) 72 [B,E] h r)
def bOh (k:K2 β):=k B E h
def bOg (k:K4 β):=bnd (A.zE B) fun b=>k b (iN 0) B E h
noncomputable def aVz (r:K1 β)(b:K0 β)(n:K4 β):=bnd (A.z prog .lss 3 U J) fun a=>aP a (bnd (A.zB 4 B U) fun i=>bnd (A.load true 4 i h) fun j=>aD (callM prog C E [j] h) fun k l=>iK k
 (r U l)
 (bnd (A.z prog .add 3 U (iN 1)) fun p=>n J p B E l)) (b h)
def aHv (C:CF)(L:Nat){β:Type}(r:K1 β)(k:K0 β):Nat→K4 β
 |0,_,_,_,_,_=>none
 |n+1,J,U,B,E,h=>aVz C h B E J U r k (fun J U B E h=>aHv C L r k n J U B E h)
def bXf (C:CF)(L:Nat)(K:KK β):∀n,M (fun f h=>Lw prog C L 3 19 [4] (gB Tryz.f73.body 52) [7,8,0,1] [(0,[])] n f h K) [7,8,0,1]=aHv C L (R K [4]) (X K 0 []) n:=by refine lw [7,8,0,1] [7,8,0,1] (F:=fun k J U B E h=>aVz C h B E J U (R K [4]) (X K 0 []) k) ?_ ?_ ?_<;>intros<;>kernel_rfl
def bIj (r:K1 β)(k:K0 β):=bOg h B E (fun J U B E h=>aHv C L r k L J U B E h)
def bAz (k:K1 β):=k (iN (-1)) h
def bDu (k:K1 β):=bOh h B E (fun B E h=>bIj C L h B E k (fun h=>bAz h k))
def bYz:execK prog C L 3 19 [4] (gB Tryz.f73.body 1) [4] [] (r2 0 1 B E) h K=bDu C L h B E (R K [4]):=by unfold bDu;refine(y 1 [0,1] ?_ (w2 fun B E h=>(q [] (fun k=>(by unfold bIj;refine(y 1 [7,8,0,1] ?_ (w4 fun J U B E h=>(bk 0 (lp (c4 (bXf C L _ L) J U B E h) ?_) ?_)) ?_)<;>intros<;>kernel_rfl)) ?_ ?_)) ?_)<;>intros<;>kernel_rfl
def F73 (C:CF)(L:Nat)(B E:V)(h:H):=bDu C L h B E rS
def bEy (L:Nat)(B E:V)(h:H){r:V×H}(q:D 73 [B,E] h=none):=(ti q Tryz.func73 (bYz _ L h _ B E) (by kernel_rfl):Fe D (F73 · L B E h) 73 [B,E] h r)
def bTm (k:K1 β):=aD (C 97 [(.slice none 0 0),B] h) fun c d=>k c d
def bYt:execK prog C L 3 5 [2] (gB Tryz.f79.body 1) [2] [] (r1 0 B) h K=bTm C h B (R K [2]):=by kernel_rfl
def F79 (C:CF)(L:Nat)(B:V)(h:H):=bTm C h B rS
def cBw (L:Nat)(B:V)(h:H){r:V×H}(q:D 79 [B] h=none):=(ti q Tryz.func79 (bYt _ L h _ B) (by kernel_rfl):Fe D (F79 · L B h) 79 [B] h r)
def bTl (k:K1 β):=aD (A.box 1 B h) fun a b=>k (.func (.func 98) ⟨[]⟩ ⟨[a]⟩) b
def bYs:execK prog C L 3 4 [2] (gB Tryz.f80.body 1) [2] [] (r1 0 B) h K=bTl h B (R K [2]):=by kernel_rfl
def F80 (C:CF)(L:Nat)(B:V)(h:H):=bTl h B rS
def cBv (L:Nat)(B:V)(h:H){r:V×H}(q:D 80 [B] h=none):=(ti q Tryz.func80 (bYs _ L h _ B) (by kernel_rfl):Fe D (F80 · L B h) 80 [B] h r)
def bJk (k:K1 β):=aD (A.box 4 B h) fun a b=>lf 0 1 a b fun e=>aD (C 91 [e] b) fun f i=>iK f
 (lf 2 1 a i fun m=>bB .leq 5 m (iU 2) fun o=>k (.bool o) i)
 (k (.bool false) i)
def bYr:execK prog C L 3 11 [2] (gB Tryz.f81.body 1) [2] [] (r1 0 B) h K=bJk C h B (R K [2]):=by kernel_rfl
def F81 (C:CF)(L:Nat)(B:V)(h:H):=bJk C h B rS
def cBu (L:Nat)(B:V)(h:H){r:V×H}(q:D 81 [B] h=none):=(ti q Tryz.func81 (bYr _ L h _ B) (by kernel_rfl):Fe D (F81 · L B h) 81 [B] h r)
def bTj (k:K1 β):=aD (C 102 [B,(.string ⟨⟨[47]⟩⟩)] h) fun c d=>k c d
def bYp:execK prog C L 3 5 [2] (gB Tryz.f83.body 1) [2] [] (r1 0 B) h K=bTj C h B (R K [2]):=by kernel_rfl
def F83 (C:CF)(L:Nat)(B:V)(h:H):=bTj C h B rS
def cBs (L:Nat)(B:V)(h:H){r:V×H}(q:D 83 [B] h=none):=(ti q Tryz.func83 (bYp _ L h _ B) (by kernel_rfl):Fe D (F83 · L B h) 83 [B] h r)
def aXr (k:K1 β):=bI .eql 9 B (.string ⟨⟨[43]⟩⟩)
 (k (.bool true) h)
 (bI .eql 9 B (.string ⟨⟨[35]⟩⟩)
 (iK E
 (k (.bool true) h)
 (aD (C 103 [B,(.string ⟨⟨[43,35]⟩⟩)] h) fun y z=>aF y fun a=>aF (.bool !a) fun c1=>k (.bool c1) z))
 (aD (C 103 [B,(.string ⟨⟨[43,35]⟩⟩)] h) fun l m=>aF l fun n=>aF (.bool !n) fun p=>k (.bool p) m))
def bYo:execK prog C L 3 19 [4] (gB Tryz.f84.body 1) [4] [] (r2 0 1 B E) h K=aXr C h B E (R K [4]):=by kernel_rfl
def F84 (C:CF)(L:Nat)(B E:V)(h:H):=aXr C h B E rS
def cBr (L:Nat)(B E:V)(h:H){r:V×H}(q:D 84 [B,E] h=none):=(ti q Tryz.func84 (bYo _ L h _ B E) (by kernel_rfl):Fe D (F84 · L B E h) 84 [B,E] h r)
def bNy (k:K6 β):=bnd (A.zE B) fun d=>k d d I B (iN 0) E h
def bAt (a:K5 β)(n:K6 β):=bI .lss 3 x9 xb
 (bnd (A.z prog .add 3 x9 xb) fun i=>bnd (A.conv prog 3 148 i) fun j=>bnd (A.z prog .shr 148 j (.int .u64 1)) fun k=>bnd (A.conv prog 148 3 k) fun l=>bnd (A.zB 2 B l) fun q=>bnd (A.load true 2 q h) fun r=>aD (callM prog C I [r,E] h) fun t u=>bI .lss 3 t (iN 0)
 (bnd (A.z prog .add 3 l (iN 1)) fun z=>n xb U I B z E u)
 (n l U I B x9 E u))
 (a U I B x9 E h)
def aMm (C:CF)(L:Nat){β:Type}(k:K5 β):Nat→K6 β
 |0,_,_,_,_,_,_,_=>none
 |n+1,xb,U,I,B,x9,E,h=>bAt C h B E I U x9 xb k (fun xb U I B x9 E h=>aMm C L k n xb U I B x9 E h)
def bWs (C:CF)(L:Nat)(K:KK β):∀n,M (fun f h=>Lw prog C L 3 49 [6,7] (gB Tryz.f85.body 120) [10,8,2,0,9,1] [(0,[8,2,0,9,1])] n f h K) [10,8,2,0,9,1]=aMm C L (X K 0 [8,2,0,9,1]) n:=by refine lw [10,8,2,0,9,1] [10,8,2,0,9,1] (F:=fun k xb U I B x9 E h=>bAt C h B E I U x9 xb (X K 0 [8,2,0,9,1]) k) ?_ ?_ ?_<;>intros<;>kernel_rfl
def aVq (k:K2 β):=bI .lss 3 x9 U
 (bnd (A.zB 2 B x9) fun l=>bnd (A.load true 2 l h) fun m=>aD (callM prog C I [m,E] h) fun o p=>bB .eql 3 o (iN 0) fun r=>k x9 (.bool r) p)
 (k x9 (.bool false) h)
def bDt (k:K2 β):=bNy h B E I (fun xb U I B x9 E h=>aMm C L (fun U I B x9 E h=>aVq C h B E I U x9 k) L xb U I B x9 E h)
def bYn:execK prog C L 3 49 [6,7] (gB Tryz.f85.body 1) [6,7] [] (r3 0 1 2 B E I) h K=bDt C L h B E I (R K [6,7]):=by unfold bDt;refine(y 3 [10,8,2,0,9,1] ?_ (w6 fun xb U I B x9 E h=>(q [8,2,0,9,1] (A:=fun z=>aMm C L z L xb U I B x9 E h) (fun k=>(bk 0 (lp (c6 (bWs C L _ L) xb U I B x9 E h) ?_) ?_)) ?_ ?_)) ?_)<;>intros<;>kernel_rfl
def F85 (C:CF)(L:Nat)(B E I:V)(h:H):O (V×H):=bDt C L h B E I (fun S J h=>some (.tuple ⟨[S,J]⟩,h))
def bEx (L:Nat)(B E I:V)(h:H){r:V×H}(q:D 85 [B,E,I] h=none):=(ti q Tryz.func85 (bYn _ L h _ B E I) (by kernel_rfl):Fe D (F85 · L B E I h) 85 [B,E,I] h r)
def bTi (k:K1 β):=aD (A.box 2 B h) fun a b=>lf 0 1 a b fun e=>aD (C 87 [e,E] b) fun i j=>k i j
def bYm:execK prog C L 3 9 [4] (gB Tryz.f86.body 1) [4] [] (r2 0 1 B E) h K=bTi C h B E (R K [4]):=by kernel_rfl
def F86 (C:CF)(L:Nat)(B E:V)(h:H):=bTi C h B E rS
def cBq (L:Nat)(B E:V)(h:H){r:V×H}(q:D 86 [B,E] h=none):=(ti q Tryz.func86 (bYm _ L h _ B E) (by kernel_rfl):Fe D (F86 · L B E h) 86 [B,E] h r)
def bTh (k:K1 β):=aD (C 104 [B,E] h) fun d e=>k d e
def bYl:execK prog C L 3 8 [4] (gB Tryz.f87.body 1) [4] [] (r2 0 1 B E) h K=bTh C h B E (R K [4]):=by kernel_rfl
def F87 (C:CF)(L:Nat)(B E:V)(h:H):=bTh C h B E rS
def cBp (L:Nat)(B E:V)(h:H){r:V×H}(q:D 87 [B,E] h=none):=(ti q Tryz.func87 (bYl _ L h _ B E) (by kernel_rfl):Fe D (F87 · L B E h) 87 [B,E] h r)
def bDs (k:K1 β):=bI .neq 9 B (.string ⟨⟨[]⟩⟩)
 (aD (C 82 [B] h) fun i j=>iK i
 (aD (C 103 [B,(.string ⟨⟨[43,35]⟩⟩)] j) fun o p=>aF o fun q=>aF (.bool !q) fun s=>k (.bool s) p)
 (k (.bool false) j))
 (k (.bool false) h)
def bYk:execK prog C L 3 14 [2] (gB Tryz.f91.body 1) [2] [] (r1 0 B) h K=bDs C h B (R K [2]):=by kernel_rfl
def F91 (C:CF)(L:Nat)(B:V)(h:H):=bDs C h B rS
def cBo (L:Nat)(B:V)(h:H){r:V×H}(q:D 91 [B] h=none):=(ti q Tryz.func91 (bYk _ L h _ B) (by kernel_rfl):Fe D (F91 · L B h) 91 [B] h r)
def bAr (k:K2 β):=k B E h
def aVp (k:K3 β):=aD (C 65 [B] h) fun b c=>aF b fun d=>iK (.bool !d)
 (k (.bool true) B E c)
 (aD (C 65 [E] c) fun n o=>aF n fun p=>iK (.bool !p)
 (k (.bool true) B E o)
 (aD (C 115 [B] o) fun w y=>iK w
 (bnd (A.zD E (iN 0)) fun c1=>bB .eql 5 c1 (iU 36) fun e=>k (.bool e) B E y)
 (k (.bool false) B E y)))
def bAq (r:K1 β)(k:K2 β):=aP xo (r (.bool false) h) (k B E h)
def bDf (r:K1 β)(k:K2 β):=aVp C h B E (fun xo B E h=>bAq h B E xo r k)
def cEp (r:K1 β):=aD (C 83 [B] h) fun b c=>aD (C 83 [E] c) fun e f=>aD (C 116 [b,e] f) fun i j=>aF i fun k=>r (.bool k) j
def aTf (k:K1 β):=bAr h B E (fun B E h=>bDf C h B E k (fun B E h=>cEp C h B E k))
def bYj:execK prog C L 3 27 [4] (gB Tryz.f92.body 1) [4] [] (r2 0 1 B E) h K=aTf C h B E (R K [4]):=by unfold aTf;refine(y 1 [0,1] ?_ (w2 fun B E h=>(q [0,1] (fun k=>?_) ?_ ?_)) ?_)<;>intros<;>kernel_rfl
def F92 (C:CF)(L:Nat)(B E:V)(h:H):=aTf C h B E rS
def cBn (L:Nat)(B E:V)(h:H){r:V×H}(q:D 92 [B,E] h=none):=(ti q Tryz.func92 (bYj _ L h _ B E) (by kernel_rfl):Fe D (F92 · L B E h) 92 [B,E] h r)
def cEj (n:K5 β):=bnd (A.load false 1 E h) fun a=>nl 0 1 a h fun d=>aD (C 100 [d] h) fun e f=>aD (C 99 [e] f) fun i j=>bnd (A.zE i) fun k=>n k (iN 0) E B i j
noncomputable def bFd (r d:K0 β)(e:K5 β):=bnd (A.z prog .lss 3 Q g) fun a=>aP a (bnd (A.zB 1 xb Q) fun b=>bnd (A.load false 1 b h) fun c=>bnd (A.load false 1 E h) fun f=>nl 0 1 f h fun k=>bnd (A.zJ true Z30 false c k h) fun m=>aD (callM prog C B [m] h) fun n o=>aF n fun p=>iK (.bool !p)
 (r o)
 (bnd (A.z prog .add 3 Q (iN 1)) fun s=>e g s E B xb o)) (d h)
def aXf (C:CF)(L:Nat){β:Type}(r k:K0 β):Nat→K5 β
 |0,_,_,_,_,_,_=>none
 |n+1,g,Q,E,B,xb,h=>bFd C h B E xb g Q r k (fun g Q E B xb h=>aXf C L r k n g Q E B xb h)
def bVi (C:CF)(L:Nat)(K:KK β):∀n,M (fun f h=>Lw prog C L 3 26 [] (gB Tryz.f98.body 12) [11,12,1,0,10] [(0,[])] n f h K) [11,12,1,0,10]=aXf C L (R K []) (X K 0 []) n:=by refine lw [11,12,1,0,10] [11,12,1,0,10] (F:=fun k g Q E B xb h=>bFd C h B E xb g Q (R K []) (X K 0 []) k) ?_ ?_ ?_<;>intros<;>kernel_rfl
def bJf (r k:K0 β):=cEj C h B E (fun g Q E B xb h=>aXf C L r k L g Q E B xb h)
def bYd:execK prog C L 3 26 [] (gB Tryz.f98.body 1) [] [] (r2 0 1 B E) h K=bJf C L h B E (R K []) (N K []):=by unfold bJf;refine(y 1 [11,12,1,0,10] ?_ (w5 fun g Q E B xb h=>(bk 0 (lp (c5 (bVi C L _ L) g Q E B xb h) ?_) ?_)) ?_)<;>intros<;>kernel_rfl
def F98 (C:CF)(L:Nat)(B E:V)(h:H):O (V×H):=bJf C L h B E (fun h=>some (.tuple ⟨[]⟩,h)) (fun h=>some (.tuple ⟨[]⟩,h))
def cBh (L:Nat)(B E:V)(h:H){r:V×H}(q:D 98 [B,E] h=none):=(ti q Tryz.func98 (bYd _ L h _ B E) (by kernel_rfl):Fe D (F98 · L B E h) 98 [B,E] h r)
def aYn (k:K1 β):=aD (C 124 [B,E] h) fun d e=>k d e
def bMi:execK prog C L 3 8 [4] (gB Tryz.f104.body 1) [4] [] (r2 0 1 B E) h K=aYn C h B E (R K [4]):=by kernel_rfl
def cKp (C:CF)(L:Nat)(B E:V)(h:H):=aYn C h B E rS
def bNk (L:Nat)(B E:V)(h:H){r:V×H}(q:D 104 [B,E] h=none):=(ti q Tryz.func104 (bMi _ L h _ B E) (by kernel_rfl):Fe D (cKp · L B E h) 104 [B,E] h r)
def aRg (k:K1 β):=aD (C 83 [B] h) fun c d=>bnd (A.zB 1 c (iN 0)) fun e=>bnd (A.load false 1 e d) fun f=>bI .eql 9 f (.string ⟨⟨[43]⟩⟩)
 (k (.bool true) d)
 (bB .eql 9 f (.string ⟨⟨[35]⟩⟩) fun r=>k (.bool r) d)
def bMh:execK prog C L 3 14 [2] (gB Tryz.f115.body 1) [2] [] (r1 0 B) h K=aRg C h B (R K [2]):=by kernel_rfl
def bUi (C:CF)(L:Nat)(B:V)(h:H):=aRg C h B rS
def bNj (L:Nat)(B:V)(h:H){r:V×H}(q:D 115 [B] h=none):=(ti q Tryz.func115 (bMh _ L h _ B) (by kernel_rfl):Fe D (bUi · L B h) 115 [B] h r)
noncomputable def aYm (k:K1 β):=aD (A.box 1 B h) fun a b=>aD (A.box 1 E b) fun c d=>aD (A.box 1 Z176 d) fun f i=>bnd (A.store 1 f (.func (.func 130) ⟨[]⟩ ⟨[a,c,f]⟩) i) fun l=>bnd (A.load false 1 f l) fun m=>aD (callM prog C m [(iN 0)] l) fun n o=>aF n fun p=>k (.bool p) o
def bMg:execK prog C L 3 9 [4] (gB Tryz.f116.body 1) [4] [] (r2 0 1 B E) h K=aYm C h B E (R K [4]):=by kernel_rfl
def cKo (C:CF)(L:Nat)(B E:V)(h:H):=aYm C h B E rS
def bNi (L:Nat)(B E:V)(h:H){r:V×H}(q:D 116 [B,E] h=none):=(ti q Tryz.func116 (bMg _ L h _ B E) (by kernel_rfl):Fe D (cKo · L B E h) 116 [B,E] h r)
def aQh (k:K4 β):=k E I G B h
def aQg (k:K5 β):=bnd (A.load false 1 E h) fun b=>bnd (A.zE b) fun c=>bB .eql 3 B c fun e=>k (.bool e) E I G B h
def cIs (k:K1 β):=bnd (A.load false 1 I h) fun b=>bnd (A.zE b) fun c=>bB .eql 3 B c fun e=>k (.bool e) h
def aSg (k:K5 β):=bnd (A.load false 1 E h) fun a=>bnd (A.zB 1 a B) fun c=>bnd (A.load false 1 c h) fun d=>bB .eql 9 d (.string ⟨⟨[35]⟩⟩) fun f=>k (.bool f) E I G B h
def cIt (k:K1 β):=k (.bool true) h
def aXc (k:K1 β)(a:K4 β):=bnd (A.load false 1 I h) fun b=>bnd (A.zE b) fun c=>bI .eql 3 B c
 (k (.bool false) h)
 (bnd (A.load false 1 I h) fun l=>bnd (A.zB 1 l B) fun n=>bnd (A.load false 1 n h) fun o=>bI .eql 9 o (.string ⟨⟨[35]⟩⟩)
 (k (.bool false) h)
 (a E I G B h))
def aQy (k:K1 β)(n:K4 β):=aQg h B E I G (fun S E I G B h=>aP S (cIs h B I k) (aSg h B E I G (fun xh E I G B h=>aP xh (cIt h k) (aXc h B E I G k n))))
def bCu (k:K1 β):=bnd (A.load false 1 E h) fun a=>bnd (A.zB 1 a B) fun c=>bnd (A.load false 1 c h) fun d=>bI .eql 9 d (.string ⟨⟨[43]⟩⟩)
 (bnd (A.load false 1 G h) fun l=>bnd (A.z prog .add 3 B (iN 1)) fun n=>aD (callM prog C l [n] h) fun o p=>aF o fun q=>k (.bool q) p)
 (bnd (A.load false 1 E h) fun t=>bnd (A.zB 1 t B) fun v=>bnd (A.load false 1 v h) fun w=>bnd (A.load false 1 I h) fun y=>bnd (A.zB 1 y B) fun b=>bnd (A.load false 1 b h) fun e=>bI .eql 9 w e
 (bnd (A.load false 1 G h) fun i=>bnd (A.z prog .add 3 B (iN 1)) fun f=>aD (callM prog C i [f] h) fun j m=>aF j fun r=>k (.bool r) m)
 (k (.bool false) h))
def bCt (k:K1 β):=k P h
def wE (k:K1 β):=aQh h B E I G (fun E I G B h=>aQy h B E I G k (fun E I G B h=>bCu C h B E I G (fun P h=>bCt h P k)))
def bMb:execK prog C L 3 55 [5] (gB Tryz.f130.body 1) [5] [] (r4 0 1 2 3 B E I G) h K=wE C h B E I G (R K [5]):=by unfold wE;refine(y 1 [1,2,3,0] ?_ (w4 fun E I G B h=>(q [1,2,3,0] (fun k=>(bk 0 ?_ ?_)) (w4 fun E I G B h=>(y 1 [5] ?_ ?_ ?_)) ?_)) ?_)<;>intros<;>kernel_rfl
def aRd (C:CF)(L:Nat)(B E I G:V)(h:H):=wE C h B E I G rS
def aVn (L:Nat)(B E I G:V)(h:H){r:V×H}(q:D 130 [B,E,I,G] h=none):=(ti q Tryz.func130 (bMb _ L h _ B E I G) (by kernel_rfl):Fe D (aRd · L B E I G h) 130 [B,E,I,G] h r)
end
end Go.Proofs.YtbmdhjdgpeleoaaGreatDoor.TaI
