import Derived.Test.YtbmdhjdgpeleoaaGreatDoorProg
import Derived.Test.YtbmdhjdgpeleoaaGreatDoorGq
import Derived.Test.YtbmdhjdgpeleoaaGreatDoorTaK
set_option linter.unusedVariables false
set_option linter.defProp false
set_option maxRecDepth 100000
namespace Go.Proofs.YtbmdhjdgpeleoaaGreatDoor.TaV
open Tryz (prog)
open Go Go.AM TaZ TaK Go.AM.Pk
variable {D:CF}{β:Type}
noncomputable section
def Z35L:kC V:=[(iU 0),(iN 0),(iN 0),(.string ⟨⟨[]⟩⟩),(iU 0),(.bool false),(iU 0),(.bool false),(.int .u16 0),(.string ⟨⟨[]⟩⟩),(.string ⟨⟨[]⟩⟩),(iU 0),(.bool false),(.int .u16 0),(.string ⟨⟨[]⟩⟩),(.bool false),(.string ⟨⟨[]⟩⟩),(.string ⟨⟨[]⟩⟩),(iU 0),(.bool false),(.bool false),(.bool false),(.string ⟨⟨[]⟩⟩),(.string ⟨⟨[]⟩⟩),(.bool false),(iU 0),(.slice none 0 0),(.string ⟨⟨[]⟩⟩),(.string ⟨⟨[]⟩⟩),(.string ⟨⟨[]⟩⟩),(iU 0),(.bool false),(.string ⟨⟨[]⟩⟩),(.bool false),(iU 0)]
def Z35:V:=.agg ⟨Z35L⟩
def Z68L:kC V:=[(.pointer none)]
def Z30L:kC V:=[(.string ⟨⟨[]⟩⟩),(.string ⟨⟨[]⟩⟩),(iU 0),(.bool false)]
def Z30:V:=.agg ⟨Z30L⟩
def Z92L:kC V:=[(.slice none 0 0)]
def Z86L:kC V:=[(.slice none 0 0),(.pointer none)]
def Z89L:kC V:=[(.string ⟨⟨[]⟩⟩),(iN 0),(.bool false),(.pointer none)]
def Z89:V:=.agg ⟨Z89L⟩
def Z118L:kC V:=[(.slice none 0 0)]
def Z57L:kC V:=[(.string ⟨⟨[]⟩⟩),(iU 0)]
def Z57:V:=.agg ⟨Z57L⟩
def Z5L:kC V:=[(iU 0)]
def Z9L:kC V:=[(.string ⟨⟨[]⟩⟩)]
def Z3L:kC V:=[(iN 0)]
variable (C:CF)(L:Nat)(h:H)(K:KK β)(B E G J P S W I U Y x Z xb Q g xe xf xi xj xx xk xy xl xh xz xm xg xn xo xp xq xr xs xt xu xv xw:V)
def cJk (k:K3 β):=aD (C 17 [B] h) fun d e=>bnd (A.u 0 d) fun i=>bnd (A.u 1 d) fun j=>k i j B e
def cEq (k:K4 β):=k (iN 0) P S B h
def bAu (k:K2 β)(n:K4 β):=bI .lss 3 W S
 (n W P S B h)
 (k S B h)
def bOd (k:K7 β):=bnd (A.zB 35 B W) fun c=>bnd (A.load true 35 c h) fun d=>aD (A.box 35 Z35 h) fun e f=>bnd (A.store 35 e d f) fun j=>lf 1 1 e j fun o=>aD (C 18 [B,(iN 0),W,(iU 4),o,(iU 0)] j) fun p q=>bB .geq 3 p (iN 0) fun s=>k (.bool s) e (.bool true) W P S B q
def aKa (k:K8 β):=lf 0 1 I h fun b=>bB .eql 5 b (iU 4) fun d=>k (.bool d) Y I U W P S B h
def bOb (n:K5 β):=lf 1 1 I h fun b=>bI .geq 3 b (iN 1)
 (aF Y fun i=>aF (.bool !i) fun k=>n (.bool k) W P S B h)
 (n (.bool false) W P S B h)
def aVt (n:K7 β):=lf 0 1 I h fun b=>bI .eql 5 b (iU 6)
 (n (.bool true) I U W P S B h)
 (lf 0 1 I h fun k=>bI .eql 5 k (iU 7)
 (aF Y fun p=>n (.bool p) I U W P S B h)
 (n (.bool false) I U W P S B h))
def bOc (k:K5 β):=aD (C 19 [B,P,W] h) fun d e=>aF d fun f=>k (.bool f) W P S B e
def aVs (n:K7 β):=lf 0 1 I h fun b=>bI .eql 5 b (iU 8)
 (n (.bool true) I U W P S B h)
 (lf 0 1 I h fun k=>bB .eql 5 k (iU 7) fun m=>n (.bool m) I U W P S B h)
def aVr (n:K5 β):=aP xn (aD (C 20 [B,P,W] h) fun d e=>aF d fun f=>n (.bool f) W P S B e) (lf 0 1 I h fun k=>bI .eql 5 k (iU 3)
 (aD (C 21 [B,P,W] h) fun r s=>iK r
 (aD (C 22 [B,P,W] s) fun z a=>aF z fun b=>n (.bool b) W P S B a)
 (n (.bool false) W P S B s))
 (n U W P S B h))
def aHy (k:K5 β):=aKa h B P S W I U Y (fun xx Y I U W P S B h=>aP xx (bOb h B P S W I Y k) (aVt h B P S W I U Y (fun xz I U W P S B h=>aP xz (bOc C h B P S W k) (aVs h B P S W I U (fun xn I U W P S B h=>aVr C h B P S W I U xn k)))))
def bOa (r:K2 β)(k:K4 β):=aF U fun b=>iK (.bool !b)
 (r W (.bool false) h)
 (k W P S B h)
def bJb (r:K2 β)(k:K4 β):=bOd C h B P S W (fun Y I U W P S B h=>aHy C h B P S W I U Y (fun U W P S B h=>bOa h B P S W U r k))
noncomputable def bNz (k:K4 β):=bnd (A.z prog .add 3 W (iN 1)) fun b=>k b P S B h
def aQk (C:CF)(L:Nat){β:Type}(r k:K2 β):Nat→K4 β
 |0,_,_,_,_,_=>none
 |n+1,W,P,S,B,h=>bAu h B P S W k (fun W P S B h=>bJb C h B P S W r (fun W P S B h=>bNz h B P S W (fun W P S B h=>aQk C L r k n W P S B h)))
def bWf (C:CF)(L:Nat)(K:KK β):∀n,M (fun f h=>Lw prog C L 3 92 [2,3] (gB Tryz.f7.body 116) [6,4,5,0] [(0,[5,0])] n f h K) [6,4,5,0]=aQk C L (R K [2,3]) (X K 0 [5,0]) n:=by refine lw [6,4,5,0] [6,4,5,0] (F:=fun a W P S B h=>bAu h B P S W (X K 0 [5,0]) (fun W P S B h=>bJb C h B P S W (R K [2,3]) (fun W P S B h=>bNz h B P S W a))) ?_ ?_ (fun a=>w4 fun W P S B h=>(y 1 [6,4,5,0] ?_ (w4 fun W P S B h=>(q [6,4,5,0] (fun k=>(bk 1 ?_ ?_)) ?_ ?_)) ?_))<;>intros<;>kernel_rfl
def bTe (r k:K2 β):=cEq h B P S (fun W P S B h=>aQk C L r k L W P S B h)
def bTf (k:K2 β):=bnd (A.zE B) fun d=>bB .eql 3 S d fun f=>k S (.bool f) h
def p7a (k:K2 β):=cJk C h B (fun P S B h=>bTe C L h B P S k (fun S B h=>bTf h B S k))
def cMv:execK prog C L 3 92 [2,3] (gB Tryz.f7.body 1) [2,3] [] (r1 0 B) h K=p7a C L h B (R K [2,3]):=by unfold p7a;refine(y 2 [4,5,0] ?_ (w3 fun P S B h=>(q [5,0] (fun k=>(by unfold bTe;refine(y 1 [6,4,5,0] ?_ (w4 fun W P S B h=>(bk 0 (lp (c4 (bWf C L _ L) W P S B h) ?_) ?_)) ?_)<;>intros<;>kernel_rfl)) ?_ ?_)) ?_)<;>intros<;>kernel_rfl
def F7 (C:CF)(L:Nat)(B:V)(h:H):O (V×H):=p7a C L h B (fun G J h=>some (.tuple ⟨[G,J]⟩,h))
def cNu (L:Nat)(B:V)(h:H){r:V×H}(q:D 7 [B] h=none):=(ti q Tryz.func7 (cMv _ L h _ B) (by kernel_rfl):Fe D (F7 · L B h) 7 [B] h r)
def cJd (n:K3 β):=aD (C 32 [] h) fun c d=>aD (C 33 [c] d) fun i j=>aD (A.zC 1 1 Z68L [(0,1,i)] j) fun k l=>n c k B l
def cJc (k:K4 β):=k (iN 0) P S B h
def aWu (k:K2 β)(n:K4 β):=bnd (A.zE B) fun c=>bI .lss 3 W c
 (n S W P B h)
 (k S B h)
def bCl (k:K5 β):=bnd (A.zB 35 B W) fun c=>lf 0 1 c h fun e=>bI .eql 5 e (iU 2)
 (k (.bool true) S W P B h)
 (bnd (A.zB 35 B W) fun n=>lf 0 1 n h fun p=>bB .eql 5 p (iU 5) fun r=>k (.bool r) S W P B h)
def bHe (r:K2 β)(a:K4 β):=aP xk (bnd (A.zB 35 B W) fun d=>bnd (A.load true 35 d h) fun e=>aD (C 34 [P,e] h) fun f i=>bnd (A.u 0 f) fun k=>bnd (A.u 1 f) fun l=>aF l fun m=>bnd (A.u 2 f) fun n=>aF n fun o=>iK (.bool !o)
 (r S W i)
 (a S W P B i)) (a S W P B h)
def bIb (r:K2 β)(k:K4 β):=bCl h B P S W (fun xk S W P B h=>bHe C h B P S W xk r k)
def bQn (k:K4 β):=aD (C 33 [P] h) fun c d=>aD (A.zC 1 1 Z68L [(0,1,c)] d) fun e f=>aD (A.zF 1 8 S e f) fun i j=>k W P i B j
def bDk (r:K2 β)(k:K4 β):=bIb C h B P S W r (fun S W P B h=>bQn C h B P S W k)
noncomputable def bHd (k:K4 β):=bnd (A.z prog .add 3 W (iN 1)) fun b=>k b P S B h
def aKg (C:CF)(L:Nat){β:Type}(r k:K2 β):Nat→K4 β
 |0,_,_,_,_,_=>none
 |n+1,W,P,S,B,h=>aWu h B P S W k (fun S W P B h=>bDk C h B P S W r (fun W P S B h=>bHd h B P S W (fun W P S B h=>aKg C L r k n W P S B h)))
def bXn (C:CF)(L:Nat)(K:KK β):∀n,M (fun f h=>Lw prog C L 3 56 [2,3] (gB Tryz.f17.body 244) [6,4,5,0] [(0,[5,0])] n f h K) [6,4,5,0]=aKg C L (R K [2,3]) (X K 0 [5,0]) n:=by refine lw [6,4,5,0] [6,4,5,0] (F:=fun a W P S B h=>aWu h B P S W (X K 0 [5,0]) (fun S W P B h=>bDk C h B P S W (R K [2,3]) (fun W P S B h=>bHd h B P S W a))) ?_ ?_ (fun a=>w4 fun W P S B h=>(y 1 [5,6,4,0] ?_ (w4 fun S W P B h=>(q [6,4,5,0] (fun k=>(bk 1 ?_ ?_)) ?_ ?_)) ?_))<;>intros<;>kernel_rfl
def bTb (r k:K2 β):=cJc h B P S (fun W P S B h=>aKg C L r k L W P S B h)
def bHs (k:K2 β):=bnd (A.zE B) fun c=>k S c h
def bKh (k:K2 β):=cJd C h B (fun P S B h=>bTb C L h B P S k (fun S B h=>bHs h B S k))
def cAz:execK prog C L 3 56 [2,3] (gB Tryz.f17.body 1) [2,3] [] (r1 0 B) h K=bKh C L h B (R K [2,3]):=by unfold bKh;refine(y 3 [4,5,0] ?_ (w3 fun P S B h=>(q [5,0] (fun k=>(by unfold bTb;refine(y 1 [6,4,5,0] ?_ (w4 fun W P S B h=>(bk 0 (lp (c4 (bXn C L _ L) W P S B h) ?_) ?_)) ?_)<;>intros<;>kernel_rfl)) ?_ ?_)) ?_)<;>intros<;>kernel_rfl
def F17 (C:CF)(L:Nat)(B:V)(h:H):O (V×H):=bKh C L h B (fun G J h=>some (.tuple ⟨[G,J]⟩,h))
def cDs (L:Nat)(B:V)(h:H){r:V×H}(q:D 17 [B] h=none):=(ti q Tryz.func17 (cAz _ L h _ B) (by kernel_rfl):Fe D (F17 · L B h) 17 [B] h r)
def cHj (k:K6 β):=k E G S B P J h
def cHi (k:K6 β):=k G E S B P J h
def bCk (k:K0 β)(n:K6 β):=bI .lss 3 Q G
 (n Q G S B P J h)
 (k h)
def aWt (k:K7 β):=bnd (A.zB 35 B Q) fun c=>lf 0 1 c h fun e=>bI .eql 5 e J
 (bnd (A.zB 35 B Q) fun n=>lf 1 1 n h fun p=>bI .eql 3 p P
 (bnd (A.z prog .eql 5 S (iU 0)) fun w=>iK w
 (k (.bool true) Q G S B P J h)
 (bnd (A.zB 35 B Q) fun a=>bnd (A.zA 4 a) fun f=>lf 0 1 f h fun j=>bB .eql 5 j S fun m=>k (.bool m) Q G S B P J h))
 (k (.bool false) Q G S B P J h))
 (k (.bool false) Q G S B P J h)
def bQm (r:K1 β)(k:K6 β):=aP xm (r Q h) (k Q G S B P J h)
def bIa (r:K1 β)(k:K6 β):=aWt h B G J P S Q (fun xm Q G S B P J h=>bQm h B G J P S Q xm r k)
noncomputable def bQl (k:K6 β):=bnd (A.z prog .add 3 Q (iN 1)) fun b=>k G b S B P J h
def aSs (C:CF)(L:Nat){β:Type}(r:K1 β)(k:K0 β):Nat→K6 β
 |0,_,_,_,_,_,_,_=>none
 |n+1,G,Q,S,B,P,J,h=>bCk h B G J P S Q k (fun Q G S B P J h=>bIa h B G J P S Q r (fun Q G S B P J h=>bQl h B G J P S Q (fun G Q S B P J h=>aSs C L r k n G Q S B P J h)))
def bWc (C:CF)(L:Nat)(K:KK β):∀n,M (fun f h=>Lw prog C L 3 51 [12] (gB Tryz.f18.body 52) [2,13,5,0,4,3] [(0,[])] n f h K) [2,13,5,0,4,3]=aSs C L (R K [12]) (X K 0 []) n:=by refine lw [2,13,5,0,4,3] [2,13,5,0,4,3] (F:=fun a G Q S B P J h=>bCk h B G J P S Q (X K 0 []) (fun Q G S B P J h=>bIa h B G J P S Q (R K [12]) (fun Q G S B P J h=>bQl h B G J P S Q a))) ?_ ?_ (fun a=>w6 fun G Q S B P J h=>(y 1 [13,2,5,0,4,3] ?_ (w6 fun Q G S B P J h=>(q [13,2,5,0,4,3] (fun k=>(bk 1 ?_ ?_)) ?_ ?_)) ?_))<;>intros<;>kernel_rfl
def bSt (r:K1 β)(k:K0 β):=cHi h B E G J P S (fun G Q S B P J h=>aSs C L r k L G Q S B P J h)
def cHh (k:K1 β):=k (iN (-1)) h
def bKg (k:K1 β):=cHj h B E G J P S (fun E G S B P J h=>bSt C L h B E G J P S k (fun h=>cHh h k))
def cAy:execK prog C L 3 51 [12] (gB Tryz.f18.body 1) [12] [] (r6 0 1 2 3 4 5 B E G J P S) h K=bKg C L h B E G J P S (R K [12]):=by unfold bKg;refine(y 1 [1,2,5,0,4,3] ?_ (w6 fun E G S B P J h=>(q [] (fun k=>(by unfold bSt;refine(y 1 [2,13,5,0,4,3] ?_ (w6 fun G Q S B P J h=>(bk 0 (lp (c6 (bWc C L _ L) G Q S B P J h) ?_) ?_)) ?_)<;>intros<;>kernel_rfl)) ?_ ?_)) ?_)<;>intros<;>kernel_rfl
def F18 (C:CF)(L:Nat)(B E G J P S:V)(h:H):=bKg C L h B E G J P S rS
def cDr (L:Nat)(B E G J P S:V)(h:H){r:V×H}(q:D 18 [B,E,G,J,P,S] h=none):=(ti q Tryz.func18 (cAy _ L h _ B E G J P S) (by kernel_rfl):Fe D (F18 · L B E G J P S h) 18 [B,E,G,J,P,S] h r)
def bHc (n:K5 β):=bnd (A.zB 35 B G) fun d=>bnd (A.load true 35 d h) fun e=>aD (A.box 35 Z35 h) fun f i=>bnd (A.store 35 f e i) fun k=>lf 1 1 f k fun o=>aD (C 18 [B,(iN 0),G,(iU 4),o,(iU 0)] k) fun p q=>n E f G B p q
def bCj (k:K6 β):=bI .lss 3 U (iN 0)
 (k (.bool true) E I G B U h)
 (lf 1 1 I h fun n=>aD (C 18 [B,U,G,(iU 3),n,(iU 0)] h) fun o p=>bI .geq 3 o (iN 0)
 (k (.bool true) E I G B U p)
 (lf 3 1 I p fun a=>aD (C 35 [B,U,G,a] p) fun b c1=>aF b fun d=>k (.bool d) E I G B U c1))
def bCi (r:K1 β)(k:K5 β):=aP xh (r (.bool false) h) (k E I G B U h)
def bDe (r:K1 β)(k:K5 β):=bCj C h B E G I U (fun xh E I G B U h=>bCi h B E G I U xh r k)
def bQk (a:K6 β):=bnd (A.zB 1 E G) fun c=>bnd (A.load false 1 c h) fun d=>lf 3 1 I h fun f=>bnd (A.zB 35 B U) fun k=>bnd (A.zA 28 k) fun l=>lf 0 1 l h fun n=>aD (C 36 [d,f,n] h) fun o p=>bnd (A.u 0 o) fun r=>bnd (A.u 1 o) fun s=>aF s fun t=>a (.bool t) r I G B U p
def bCh (n:K5 β):=aF x fun b=>iK (.bool !b)
 (n (.bool true) I G B U h)
 (bnd (A.zA 28 I) fun k=>bnd (A.load true 4 k h) fun l=>bnd (A.zB 35 B U) fun o=>lg 28 4 o h fun q=>aD (C 37 [q,Y,(.bool false)] h) fun s t=>bif (chk (bnd (A.load true 4 k t) fun v=>some v) l&&true)then
 bI .neq 30 l s
 (n (.bool true) I G B U t)
 (lf 34 1 I t fun a=>bnd (A.zA 28 I) fun c1=>lf 2 1 c1 t fun e=>bB .neq 5 a e fun i=>n (.bool i) I G B U t)
 else none)
def bQj (r:K1 β)(k:K4 β):=aP xs (r (.bool false) h) (k I G B U h)
def bRu (r:K1 β)(k:K4 β):=bCh C h B G I U Y x (fun xs I G B U h=>bQj h B G I U xs r k)
noncomputable def cHg (k:K5 β):=bnd (A.z prog .add 3 U (iN 1)) fun b=>k b I G B U h
def bCg (k:K0 β)(n:K5 β):=bI .lss 3 Z G
 (n Z I G B U h)
 (k h)
def aWs (k:K6 β):=bnd (A.zB 35 B Z) fun c=>lf 0 1 c h fun e=>bI .eql 5 e (iU 4)
 (bnd (A.zB 35 B Z) fun m=>lf 3 1 m h fun o=>bnd (A.zB 35 B U) fun r=>lf 3 1 r h fun t=>bI .eql 9 o t
 (bnd (A.zB 35 B Z) fun b=>bnd (A.zA 28 b) fun c1=>lf 0 1 c1 h fun a=>bnd (A.zB 35 B U) fun j=>bnd (A.zA 28 j) fun d=>lf 0 1 d h fun f=>bI .eql 9 a f
 (lf 3 1 I h fun v=>aD (C 35 [B,Z,G,v] h) fun w1 y=>aF w1 fun z=>k (.bool z) Z I G B U y)
 (k (.bool false) Z I G B U h))
 (k (.bool false) Z I G B U h))
 (k (.bool false) Z I G B U h)
def bQi (r:K1 β)(k:K5 β):=aP xu (r (.bool false) h) (k Z I G B U h)
def bHz (r:K1 β)(k:K5 β):=aWs C h B G I U Z (fun xu Z I G B U h=>bQi h B G I U Z xu r k)
noncomputable def bQh (k:K5 β):=bnd (A.z prog .add 3 Z (iN 1)) fun b=>k b I G B U h
def aSr (C:CF)(L:Nat){β:Type}(r:K1 β)(k:K0 β):Nat→K5 β
 |0,_,_,_,_,_,_=>none
 |n+1,Z,I,G,B,U,h=>bCg h B G I U Z k (fun Z I G B U h=>bHz C h B G I U Z r (fun Z I G B U h=>bQh h B G I U Z (fun Z I G B U h=>aSr C L r k n Z I G B U h)))
def bWb (C:CF)(L:Nat)(K:KK β):∀n,M (fun f h=>Lw prog C L 3 127 [6] (gB Tryz.f19.body 2036) [11,7,2,0,8] [(0,[])] n f h K) [11,7,2,0,8]=aSr C L (R K [6]) (X K 0 []) n:=by refine lw [11,7,2,0,8] [11,7,2,0,8] (F:=fun a Z I G B U h=>bCg h B G I U Z (X K 0 []) (fun Z I G B U h=>bHz C h B G I U Z (R K [6]) (fun Z I G B U h=>bQh h B G I U Z a))) ?_ ?_ (fun a=>w5 fun Z I G B U h=>(y 1 [11,7,2,0,8] ?_ (w5 fun Z I G B U h=>(q [11,7,2,0,8] (fun k=>(bk 1 ?_ ?_)) ?_ ?_)) ?_))<;>intros<;>kernel_rfl
def bSs (r:K1 β)(k:K0 β):=cHg h B G I U (fun Z I G B U h=>aSr C L r k L Z I G B U h)
def cHf (k:K1 β):=k (.bool true) h
def aTi (k:K1 β):=bHc C h B E G (fun E I G B U h=>bDe C h B E G I U k (fun E I G B U h=>bQk C h B E G I U (fun x Y I G B U h=>bRu C h B G I U Y x k (fun I G B U h=>bSs C L h B G I U k (fun h=>cHf h k)))))
def cAx:execK prog C L 3 127 [6] (gB Tryz.f19.body 1) [6] [] (r3 0 1 2 B E G) h K=aTi C L h B E G (R K [6]):=by unfold aTi;refine(y 3 [1,7,2,0,8] ?_ (w5 fun E I G B U h=>(q [1,7,2,0,8] (fun k=>?_) (w5 fun E I G B U h=>(y 1 [10,9,7,2,0,8] ?_ (w6 fun x Y I G B U h=>(q [7,2,0,8] (fun k=>?_) (w4 fun I G B U h=>(q [] (fun k=>(by unfold bSs;refine(y 1 [11,7,2,0,8] ?_ (w5 fun Z I G B U h=>(bk 0 (lp (c5 (bWb C L _ L) Z I G B U h) ?_) ?_)) ?_)<;>intros<;>kernel_rfl)) ?_ ?_)) ?_)) ?_)) ?_)) ?_)<;>intros<;>kernel_rfl
def F19 (C:CF)(L:Nat)(B E G:V)(h:H):=aTi C L h B E G rS
def cDq (L:Nat)(B E G:V)(h:H){r:V×H}(q:D 19 [B,E,G] h=none):=(ti q Tryz.func19 (cAx _ L h _ B E G) (by kernel_rfl):Fe D (F19 · L B E G h) 19 [B,E,G] h r)
def bHb (n:K6 β):=bnd (A.zB 35 B G) fun d=>bnd (A.load true 35 d h) fun e=>aD (A.box 35 Z35 h) fun f i=>bnd (A.store 35 f e i) fun k=>lf 1 1 f k fun o=>aD (C 38 [B,G,o] k) fun p q=>bnd (A.u 0 p) fun s=>bnd (A.u 1 p) fun t=>n G B s t f E q
def aSb (k:K6 β):=bI .lss 3 Y (iN 0)
 (k (.bool true) B U Y I E h)
 (lf 1 1 I h fun r=>aD (C 18 [B,Y,G,(iU 3),r,(iU 0)] h) fun s t=>bI .geq 3 s (iN 0)
 (k (.bool true) B U Y I E t)
 (lf 3 1 I t fun f=>bnd (A.zB 35 B Y) fun a=>lf 3 1 a t fun m=>bI .neq 9 f m
 (k (.bool true) B U Y I E t)
 (lf 1 1 I t fun y=>bnd (A.zA 28 I) fun z=>lf 0 1 z t fun b=>aD (C 39 [B,G,y,b,(.bool false)] t) fun c2 d=>iK c2
 (k (.bool true) B U Y I E d)
 (lf 34 1 I d fun l=>bnd (A.zA 28 I) fun c=>lf 2 1 c d fun o=>bB .neq 5 l o fun q=>k (.bool q) B U Y I E d))))
def bCf (r:K1 β)(k:K5 β):=aP xo (r (.bool false) h) (k B U Y I E h)
def bDh (r:K1 β)(k:K5 β):=aSb C h B E G I U Y (fun xo B U Y I E h=>bCf h B E I U Y xo r k)
def bQg (r:K1 β)(a:K5 β):=aD (C 40 [B,E,Y] h) fun d e=>bnd (A.zA 28 I) fun f=>bnd (A.zA 0 f) fun i=>bnd (A.load false 1 i e) fun j=>bif (chk (bnd (A.load false 1 i h) fun v=>some v) j&&true)then
 aD (C 41 [d,j] e) fun k l=>bnd (A.u 0 k) fun n=>bnd (A.u 1 k) fun o=>aF o fun p=>iK (.bool !p)
 (r (.bool false) l)
 (a U Y n I E l)
 else none
def cHe (k:K5 β):=k Y U x I E h
def aWr (k:K0 β)(n:K5 β):=bI .leq 3 xb Y
 (n xb Y x I E h)
 (k h)
def bQf (k:K7 β):=bnd (A.zB 1 E xb) fun c=>bnd (A.load false 1 c h) fun d=>nl 1 1 d h fun i=>bnd (A.zA 28 I) fun j=>lf 0 1 j h fun l=>aD (C 42 [i,l] h) fun m n=>bnd (A.u 0 m) fun p=>bnd (A.u 1 m) fun q=>aF q fun r=>aD (A.box 4 Z30 n) fun s t=>bnd (A.store 4 s p t) fun v=>k (.bool r) s xb Y x I E v
def bHa (r:K1 β)(n:K5 β):=iK g
 (bnd (A.zA 28 I) fun d=>bnd (A.load true 4 d h) fun e=>bnd (A.load true 4 Q h) fun f=>aD (C 37 [f,x,(.bool true)] h) fun j k=>bif (chk (bnd (A.load true 4 d k) fun v=>some v) e&&true)then
 bI .eql 30 e j
 (r (.bool true) k)
 (n xb Y x I E k)
 else none)
 (n xb Y x I E h)
def bDc (r:K1 β)(k:K5 β):=bQf C h E I Y x xb (fun g Q xb Y x I E h=>bHa C h E I Y x xb Q g r k)
noncomputable def bGz (k:K5 β):=bnd (A.z prog .add 3 xb (iN 1)) fun b=>k Y b x I E h
def aQu (C:CF)(L:Nat){β:Type}(r:K1 β)(k:K0 β):Nat→K5 β
 |0,_,_,_,_,_,_=>none
 |n+1,Y,xb,x,I,E,h=>aWr h E I Y x xb k (fun xb Y x I E h=>bDc C h E I Y x xb r (fun xb Y x I E h=>bGz h E I Y x xb (fun Y xb x I E h=>aQu C L r k n Y xb x I E h)))
def bWp (C:CF)(L:Nat)(K:KK β):∀n,M (fun f h=>Lw prog C L 3 108 [6] (gB Tryz.f20.body 2036) [9,12,10,7,1] [(0,[])] n f h K) [9,12,10,7,1]=aQu C L (R K [6]) (X K 0 []) n:=by refine lw [9,12,10,7,1] [9,12,10,7,1] (F:=fun a Y xb x I E h=>aWr h E I Y x xb (X K 0 []) (fun xb Y x I E h=>bDc C h E I Y x xb (R K [6]) (fun xb Y x I E h=>bGz h E I Y x xb a))) ?_ ?_ (fun a=>w5 fun Y xb x I E h=>(y 1 [12,9,10,7,1] ?_ (w5 fun xb Y x I E h=>(q [12,9,10,7,1] (fun k=>(bk 1 ?_ ?_)) ?_ ?_)) ?_))<;>intros<;>kernel_rfl
def bSv (r:K1 β)(k:K0 β):=cHe h E I U Y x (fun Y xb x I E h=>aQu C L r k L Y xb x I E h)
def cHd (k:K1 β):=k (.bool false) h
def aTh (k:K1 β):=bHb C h B E G (fun G B U Y I E h=>bDh C h B E G I U Y k (fun B U Y I E h=>bQg C h B E I U Y k (fun U Y x I E h=>bSv C L h E I U Y x k (fun h=>cHd h k))))
def cAw:execK prog C L 3 108 [6] (gB Tryz.f20.body 1) [6] [] (r3 0 1 2 B E G) h K=aTh C L h B E G (R K [6]):=by unfold aTh;refine(y 3 [2,0,8,9,7,1] ?_ (w6 fun G B U Y I E h=>(q [0,8,9,7,1] (fun k=>?_) (w5 fun B U Y I E h=>(y 2 [8,9,10,7,1] ?_ (w5 fun U Y x I E h=>(q [] (fun k=>(by unfold bSv;refine(y 1 [9,12,10,7,1] ?_ (w5 fun Y xb x I E h=>(bk 0 (lp (c5 (bWp C L _ L) Y xb x I E h) ?_) ?_)) ?_)<;>intros<;>kernel_rfl)) ?_ ?_)) ?_)) ?_)) ?_)<;>intros<;>kernel_rfl
def F20 (C:CF)(L:Nat)(B E G:V)(h:H):=aTh C L h B E G rS
def cDp (L:Nat)(B E G:V)(h:H){r:V×H}(q:D 20 [B,E,G] h=none):=(ti q Tryz.func20 (cAw _ L h _ B E G) (by kernel_rfl):Fe D (F20 · L B E G h) 20 [B,E,G] h r)
def bGy (k:K1 β)(c:K4 β):=bnd (A.zB 35 B G) fun d=>lf 1 1 d h fun f=>aD (C 18 [B,(iN 0),G,(iU 4),f,(iU 0)] h) fun m n=>bI .lss 3 m (iN 0)
 (k (.bool true) n)
 (aD (C 18 [B,m,G,(iU 3),f,(iU 0)] n) fun a b=>bI .geq 3 a (iN 0)
 (k (.bool true) b)
 (c G m B E b))
def cHc (k:K5 β):=k (iN 0) G U B E h
def bGx (a:K0 β)(n:K5 β):=bnd (A.zB 1 E U) fun d=>bnd (A.load false 1 d h) fun e=>nl 0 1 e h fun j=>bnd (A.zE j) fun k=>bI .lss 3 Y k
 (n Y G U B E h)
 (a h)
def cHb (n:K7 β):=bnd (A.zB 1 E U) fun c=>bnd (A.load false 1 c h) fun d=>nl 0 1 d h fun i=>bnd (A.zB 4 i Y) fun k=>lf 0 1 k h fun m=>n (.bool true) m Y G U B E h
def cHa (k:K8 β):=k U Z x Y G U B E h
def bCe (k:K7 β)(n:K8 β):=bI .leq 3 xb G
 (n Z xb x Y G U B E h)
 (k Z x Y G U B E h)
def bQe (a:K9 β):=bnd (A.zB 1 E xb) fun c=>bnd (A.load false 1 c h) fun d=>bnd (A.zB 35 B U) fun j=>bnd (A.zA 28 j) fun k=>lf 0 1 k h fun m=>aD (C 36 [d,x,m] h) fun n o=>bnd (A.u 0 n) fun q=>bnd (A.u 1 n) fun r=>aF r fun s=>a Z (.bool s) xb x Y G U B E o
def bQd (k:K8 β):=iK Z
 (aF g fun e=>k xb (.bool e) x Y G U B E h)
 (k xb (.bool false) x Y G U B E h)
def bHy (k:K8 β):=bQe C h B E G U Y x Z xb (fun Z g xb x Y G U B E h=>bQd h B E G U Y x Z xb g k)
noncomputable def bGw (k:K8 β):=bnd (A.z prog .add 3 xb (iN 1)) fun b=>k b Z x Y G U B E h
def aSq (C:CF)(L:Nat){β:Type}(k:K7 β):Nat→K8 β
 |0,_,_,_,_,_,_,_,_,_=>none
 |n+1,xb,Z,x,Y,G,U,B,E,h=>bCe h B E G U Y x Z xb k (fun Z xb x Y G U B E h=>bHy C h B E G U Y x Z xb (fun xb Z x Y G U B E h=>bGw h B E G U Y x Z xb (fun xb Z x Y G U B E h=>aSq C L k n xb Z x Y G U B E h)))
def bWa (C:CF)(L:Nat)(K:KK β):∀n,M (fun f h=>Lw prog C L 3 91 [6] (gB Tryz.f21.body 256308) [12,11,10,9,2,8,0,1] [(2,[11,10,9,2,8,0,1]),(1,[9,2,8,0,1]),(0,[])] n f h K) [12,11,10,9,2,8,0,1]=aSq C L (X K 2 [11,10,9,2,8,0,1]) n:=by refine lw [12,11,10,9,2,8,0,1] [12,11,10,9,2,8,0,1] (F:=fun a xb Z x Y G U B E h=>bCe h B E G U Y x Z xb (X K 2 [11,10,9,2,8,0,1]) (fun Z xb x Y G U B E h=>bHy C h B E G U Y x Z xb (fun xb Z x Y G U B E h=>bGw h B E G U Y x Z xb a))) ?_ ?_ (fun a=>w8 fun xb Z x Y G U B E h=>(y 1 [11,12,10,9,2,8,0,1] ?_ (w8 fun Z xb x Y G U B E h=>(q [12,11,10,9,2,8,0,1] (fun k=>(bk 3 ?_ ?_)) ?_ ?_)) ?_))<;>intros<;>kernel_rfl
def bSr (k:K7 β):=cHa h B E G U Y x Z (fun xb Z x Y G U B E h=>aSq C L k L xb Z x Y G U B E h)
def aWq (r:K1 β)(n:K5 β):=iK Z
 (aD (C 35 [B,U,G,x] h) fun j k=>aF j fun l=>iK (.bool !l)
 (r (.bool false) k)
 (n Y G U B E k))
 (n Y G U B E h)
def bIz (r:K1 β)(k:K5 β):=cHb h B E G U Y (fun Z x Y G U B E h=>bSr C L h B E G U Y x Z (fun Z x Y G U B E h=>aWq C h B E G U Y x Z r k))
noncomputable def aWp (k:K5 β):=bnd (A.z prog .add 3 Y (iN 1)) fun b=>k b G U B E h
def aKf (C:CF)(L:Nat){β:Type}(r:K1 β)(k:K0 β):Nat→K5 β
 |0,_,_,_,_,_,_=>none
 |n+1,Y,G,U,B,E,h=>bGx h B E G U Y k (fun Y G U B E h=>bIz C L h B E G U Y r (fun Y G U B E h=>aWp h B E G U Y (fun Y G U B E h=>aKf C L r k n Y G U B E h)))
def bXe (C:CF)(L:Nat)(K:KK β):∀n,M (fun f h=>Lw prog C L 3 91 [6] (gB Tryz.f21.body 500) [9,2,8,0,1] [(0,[])] n f h K) [9,2,8,0,1]=aKf C L (R K [6]) (X K 0 []) n:=by refine lw [9,2,8,0,1] [9,2,8,0,1] (F:=fun a Y G U B E h=>bGx h B E G U Y (X K 0 []) (fun Y G U B E h=>bIz C L h B E G U Y (R K [6]) (fun Y G U B E h=>aWp h B E G U Y a))) ?_ ?_ (fun a=>w5 fun Y G U B E h=>(y 1 [9,2,8,0,1] ?_ (w5 fun Y G U B E h=>(q [9,2,8,0,1] (fun k=>(bk 1 (by unfold bIz;refine(y 2 [11,10,9,2,8,0,1] ?_ (w7 fun Z x Y G U B E h=>(q [11,10,9,2,8,0,1] (fun k=>(by unfold bSr;refine(y 1 [12,11,10,9,2,8,0,1] ?_ (w8 fun xb Z x Y G U B E h=>(bk 2 (lp (c8 (bWa C L _ L) xb Z x Y G U B E h) ?_) ?_)) ?_)<;>intros<;>kernel_rfl)) ?_ ?_)) ?_)<;>intros<;>kernel_rfl) ?_)) ?_ ?_)) ?_))<;>intros<;>kernel_rfl
def bTc (r:K1 β)(k:K0 β):=cHc h B E G U (fun Y G U B E h=>aKf C L r k L Y G U B E h)
def cGz (k:K1 β):=k (.bool true) h
def aXz (k:K1 β):=bGy C h B E G k (fun G U B E h=>bTc C L h B E G U k (fun h=>cGz h k))
def cAv:execK prog C L 3 91 [6] (gB Tryz.f21.body 1) [6] [] (r3 0 1 2 B E G) h K=aXz C L h B E G (R K [6]):=by unfold aXz;refine(y 4 [2,8,0,1] ?_ (w4 fun G U B E h=>(q [] (fun k=>(by unfold bTc;refine(y 1 [9,2,8,0,1] ?_ (w5 fun Y G U B E h=>(bk 0 (lp (c5 (bXe C L _ L) Y G U B E h) ?_) ?_)) ?_)<;>intros<;>kernel_rfl)) ?_ ?_)) ?_)<;>intros<;>kernel_rfl
def F21 (C:CF)(L:Nat)(B E G:V)(h:H):=aXz C L h B E G rS
def cDo (L:Nat)(B E G:V)(h:H){r:V×H}(q:D 21 [B,E,G] h=none):=(ti q Tryz.func21 (cAv _ L h _ B E G) (by kernel_rfl):Fe D (F21 · L B E G h) 21 [B,E,G] h r)
def bHr (k:K1 β)(b:K6 β):=bnd (A.zB 35 B G) fun d=>lf 1 1 d h fun f=>aD (C 38 [B,G,f] h) fun m n=>bnd (A.u 0 m) fun p=>bnd (A.u 1 m) fun q=>bI .lss 3 q (iN 0)
 (k (.bool true) n)
 (aD (C 18 [B,q,G,(iU 3),f,(iU 0)] n) fun e a=>bI .geq 3 e (iN 0)
 (k (.bool true) a)
 (b E f G B q p a))
def cJb (n:K7 β):=aD (C 40 [B,E,Y] h) fun d e=>bnd (A.zB 1 E U) fun k=>bnd (A.load false 1 k e) fun l=>nl 1 1 l e fun o=>nl 0 1 o e fun r=>n r I G B Y U d e
def cGy (k:K8 β):=k (iN 0) Z I G B Y U x h
def bGv (k:K0 β)(n:K8 β):=bnd (A.zE Z) fun c=>bI .lss 3 xb c
 (n xb Z I G B Y U x h)
 (k h)
def cGx (k:K10 β):=bnd (A.zB 4 Z xb) fun d=>lf 0 1 d h fun f=>aD (C 41 [x,f] h) fun i j=>bnd (A.u 0 i) fun l=>bnd (A.u 1 i) fun m=>aF m fun n=>k (.bool n) (.bool true) xb Z I G B Y U x j
def cGw (k:K11 β):=k U g xe xb Z I G B Y U x h
def aWo (k:K10 β)(n:K11 β):=bI .lss 3 xf Y
 (n xe xf g xb Z I G B Y U x h)
 (k g xe xb Z I G B Y U x h)
def bCd (k:K11 β):=iK xe
 (bnd (A.zB 35 B xf) fun f=>lf 0 1 f h fun j=>bI .eql 5 j (iU 5)
 (bnd (A.zB 35 B xf) fun p=>bnd (A.zA 28 p) fun q=>lf 0 1 q h fun s=>bnd (A.zB 4 Z xb) fun v=>lf 0 1 v h fun y=>bB .eql 9 s y fun a=>aF (.bool !a) fun d=>k xf g (.bool d) xb Z I G B Y U x h)
 (aF (.bool !false) fun b=>k xf g (.bool b) xb Z I G B Y U x h))
 (k xf g (.bool false) xb Z I G B Y U x h)
noncomputable def bCc (k:K11 β):=bnd (A.z prog .add 3 xf (iN 1)) fun b=>k b g xe xb Z I G B Y U x h
def aQt (C:CF)(L:Nat){β:Type}(k:K10 β):Nat→K11 β
 |0,_,_,_,_,_,_,_,_,_,_,_,_=>none
 |n+1,xf,g,xe,xb,Z,I,G,B,Y,U,x,h=>aWo h B G I U Y x Z xb g xe xf k (fun xe xf g xb Z I G B Y U x h=>bCd h B G I U Y x Z xb g xe xf (fun xf g xe xb Z I G B Y U x h=>bCc h B G I U Y x Z xb g xe xf (fun xf g xe xb Z I G B Y U x h=>aQt C L k n xf g xe xb Z I G B Y U x h)))
def bWo (C:CF)(L:Nat)(K:KK β):∀n,M (fun f h=>Lw prog C L 3 115 [6] (gB Tryz.f22.body 1042740) [16,14,15,12,11,7,2,0,9,8,10] [(2,[14,15,12,11,7,2,0,9,8,10]),(1,[12,11,7,2,0,9,8,10]),(0,[])] n f h K) [16,14,15,12,11,7,2,0,9,8,10]=aQt C L (X K 2 [14,15,12,11,7,2,0,9,8,10]) n:=by refine lw [16,14,15,12,11,7,2,0,9,8,10] [16,14,15,12,11,7,2,0,9,8,10] (F:=fun a xf g xe xb Z I G B Y U x h=>aWo h B G I U Y x Z xb g xe xf (X K 2 [14,15,12,11,7,2,0,9,8,10]) (fun xe xf g xb Z I G B Y U x h=>bCd h B G I U Y x Z xb g xe xf (fun xf g xe xb Z I G B Y U x h=>bCc h B G I U Y x Z xb g xe xf a))) ?_ ?_ (fun a=>w11 fun xf g xe xb Z I G B Y U x h=>(y 1 [15,16,14,12,11,7,2,0,9,8,10] ?_ (w11 fun xe xf g xb Z I G B Y U x h=>(q [16,14,15,12,11,7,2,0,9,8,10] (fun k=>(bk 3 ?_ ?_)) ?_ ?_)) ?_))<;>intros<;>kernel_rfl
def bSn (k:K10 β):=cGw h B G I U Y x Z xb g xe (fun xf g xe xb Z I G B Y U x h=>aQt C L k L xf g xe xb Z I G B Y U x h)
def aSa (k:K9 β):=iK g
 (iK xe
 (bnd (A.zB 4 Z xb) fun o=>lf 0 1 o h fun q=>aD (C 39 [B,G,I,q,(.bool true)] h) fun r s=>aF r fun t=>aF (.bool !t) fun v=>k (.bool v) xb Z I G B Y U x s)
 (k (.bool false) xb Z I G B Y U x h))
 (k (.bool false) xb Z I G B Y U x h)
def aRz (r:K1 β)(k:K8 β):=aP xt (r (.bool false) h) (k xb Z I G B Y U x h)
def bJa (r:K1 β)(k:K8 β):=cGx C h B G I U Y x Z xb (fun g xe xb Z I G B Y U x h=>bSn C L h B G I U Y x Z xb g xe (fun g xe xb Z I G B Y U x h=>aSa C h B G I U Y x Z xb g xe (fun xt xb Z I G B Y U x h=>aRz h B G I U Y x Z xb xt r k)))
noncomputable def aRy (k:K8 β):=bnd (A.z prog .add 3 xb (iN 1)) fun b=>k b Z I G B Y U x h
def aKe (C:CF)(L:Nat){β:Type}(r:K1 β)(k:K0 β):Nat→K8 β
 |0,_,_,_,_,_,_,_,_,_=>none
 |n+1,xb,Z,I,G,B,Y,U,x,h=>bGv h B G I U Y x Z xb k (fun xb Z I G B Y U x h=>bJa C L h B G I U Y x Z xb r (fun xb Z I G B Y U x h=>aRy h B G I U Y x Z xb (fun xb Z I G B Y U x h=>aKe C L r k n xb Z I G B Y U x h)))
def bXd (C:CF)(L:Nat)(K:KK β):∀n,M (fun f h=>Lw prog C L 3 115 [6] (gB Tryz.f22.body 2036) [12,11,7,2,0,9,8,10] [(0,[])] n f h K) [12,11,7,2,0,9,8,10]=aKe C L (R K [6]) (X K 0 []) n:=by refine lw [12,11,7,2,0,9,8,10] [12,11,7,2,0,9,8,10] (F:=fun a xb Z I G B Y U x h=>bGv h B G I U Y x Z xb (X K 0 []) (fun xb Z I G B Y U x h=>bJa C L h B G I U Y x Z xb (R K [6]) (fun xb Z I G B Y U x h=>aRy h B G I U Y x Z xb a))) ?_ ?_ (fun a=>w8 fun xb Z I G B Y U x h=>(y 1 [12,11,7,2,0,9,8,10] ?_ (w8 fun xb Z I G B Y U x h=>(q [12,11,7,2,0,9,8,10] (fun k=>(bk 1 (by unfold bJa;refine(y 2 [14,15,12,11,7,2,0,9,8,10] ?_ (w10 fun g xe xb Z I G B Y U x h=>(q [14,15,12,11,7,2,0,9,8,10] (fun k=>(by unfold bSn;refine(y 1 [16,14,15,12,11,7,2,0,9,8,10] ?_ (w11 fun xf g xe xb Z I G B Y U x h=>(bk 2 (lp (c11 (bWo C L _ L) xf g xe xb Z I G B Y U x h) ?_) ?_)) ?_)<;>intros<;>kernel_rfl)) (w10 fun g xe xb Z I G B Y U x h=>(y 1 [114,12,11,7,2,0,9,8,10] ?_ ?_ ?_)) ?_)) ?_)<;>intros<;>kernel_rfl) ?_)) ?_ ?_)) ?_))<;>intros<;>kernel_rfl
def bTd (r:K1 β)(k:K0 β):=cGy h B G I U Y x Z (fun xb Z I G B Y U x h=>aKe C L r k L xb Z I G B Y U x h)
def cJh (k:K1 β):=k (.bool true) h
def aXy (k:K1 β):=bHr C h B E G k (fun E I G B Y U h=>cJb C h B E G I U Y (fun Z I G B Y U x h=>bTd C L h B G I U Y x Z k (fun h=>cJh h k)))
def cAu:execK prog C L 3 115 [6] (gB Tryz.f22.body 1) [6] [] (r3 0 1 2 B E G) h K=aXy C L h B E G (R K [6]):=by unfold aXy;refine(y 4 [1,7,2,0,9,8] ?_ (w6 fun E I G B Y U h=>(y 2 [11,7,2,0,9,8,10] ?_ (w7 fun Z I G B Y U x h=>(q [] (fun k=>(by unfold bTd;refine(y 1 [12,11,7,2,0,9,8,10] ?_ (w8 fun xb Z I G B Y U x h=>(bk 0 (lp (c8 (bXd C L _ L) xb Z I G B Y U x h) ?_) ?_)) ?_)<;>intros<;>kernel_rfl)) ?_ ?_)) ?_)) ?_)<;>intros<;>kernel_rfl
def F22 (C:CF)(L:Nat)(B E G:V)(h:H):=aXy C L h B E G rS
def cDn (L:Nat)(B E G:V)(h:H){r:V×H}(q:D 22 [B,E,G] h=none):=(ti q Tryz.func22 (cAu _ L h _ B E G) (by kernel_rfl):Fe D (F22 · L B E G h) 22 [B,E,G] h r)
def bTu (k:K1 β):=bnd (A.zI Z92L []) fun b=>aD (A.box 1 b h) fun c d=>bnd (A.zI Z86L [(1,1,c)]) fun e=>aD (A.box 2 e d) fun f i=>k f i
def cAk:execK prog C L 3 5 [0] (gB Tryz.f32.body 1) [0] [] r0 h K=bTu h (R K [0]):=by kernel_rfl
def F32 (C:CF)(L:Nat)(h:H):=bTu h rS
def cDj (L:Nat)(h:H){r:V×H}(q:D 32 [] h=none):=(ti q Tryz.func32 (cAk _ L h _) (by kernel_rfl):Fe D (F32 · L h) 32 [] h r)
def cGe (k:K2 β):=aD (A.zC 4 0 Z30L [] h) fun b c=>nl 1 1 B c fun i=>nl 0 1 i c fun l=>aD (A.zF 4 40 b l c) fun m n=>bnd (A.zI Z92L [(0,1,m)]) fun o=>aD (A.box 1 o n) fun p q=>bnd (A.zI Z86L [(1,1,p)]) fun r=>aD (A.box 2 r q) fun s t=>k B s t
def cGd (k:K3 β):=k (iN 0) B J h
def bGi (k:K1 β)(n:K3 β):=nl 0 1 B h fun e=>bnd (A.zE e) fun f=>bI .lss 3 P f
 (n P B J h)
 (k J h)
def cGc (n:K4 β):=nl 0 1 B h fun d=>bnd (A.zB 4 d P) fun f=>bnd (A.load true 4 f h) fun i=>aD (A.box 4 Z89 h) fun j k=>bnd (A.store 4 j i k) fun m=>n j P B J m
def cGb (k:K3 β):=lf 3 1 S h fun b=>aD (C 53 [b] h) fun c d=>bnd (A.zA 3 S) fun e=>bnd (A.store 1 e c d) fun i=>nl 0 1 J i fun n=>bnd (A.load true 4 S i) fun o=>aD (A.zC 4 1 Z89L [(0,4,o)] i) fun p q=>aD (A.zF 4 40 n p q) fun r s=>nf 0 J fun u=>bnd (A.store 1 u r s) fun w=>k P B J w
def bRr (k:K3 β):=cGc h B J P (fun S P B J h=>cGb C h B J P S k)
noncomputable def bPh (k:K3 β):=bnd (A.z prog .add 3 P (iN 1)) fun b=>k b B J h
def aMr (C:CF)(L:Nat){β:Type}(k:K1 β):Nat→K3 β
 |0,_,_,_,_=>none
 |n+1,P,B,J,h=>bGi h B J P k (fun P B J h=>bRr C h B J P (fun P B J h=>bPh h B J P (fun P B J h=>aMr C L k n P B J h)))
def bWx (C:CF)(L:Nat)(K:KK β):∀n,M (fun f h=>Lw prog C L 3 50 [2] (gB Tryz.f33.body 116) [4,0,3] [(0,[3])] n f h K) [4,0,3]=aMr C L (X K 0 [3]) n:=by refine lw [4,0,3] [4,0,3] (F:=fun a P B J h=>bGi h B J P (X K 0 [3]) (fun P B J h=>bRr C h B J P (fun P B J h=>bPh h B J P a))) ?_ ?_ (fun a=>w3 fun P B J h=>(y 1 [4,0,3] ?_ (w3 fun P B J h=>(q [4,0,3] (fun k=>(bk 1 ?_ ?_)) ?_ ?_)) ?_))<;>intros<;>kernel_rfl
def bSp (k:K1 β):=cGd h B J (fun P B J h=>aMr C L k L P B J h)
def bGh (k:K1 β):=k J h
def bKe (k:K1 β):=cGe h B (fun B J h=>bSp C L h B J (fun J h=>bGh h J k))
def cAj:execK prog C L 3 50 [2] (gB Tryz.f33.body 1) [2] [] (r1 0 B) h K=bKe C L h B (R K [2]):=by unfold bKe;refine(y 2 [0,3] ?_ (w2 fun B J h=>(q [3] (fun k=>(by unfold bSp;refine(y 1 [4,0,3] ?_ (w3 fun P B J h=>(bk 0 (lp (c3 (bWx C L _ L) P B J h) ?_) ?_)) ?_)<;>intros<;>kernel_rfl)) ?_ ?_)) ?_)<;>intros<;>kernel_rfl
def F33 (C:CF)(L:Nat)(B:V)(h:H):=bKe C L h B rS
def cDi (L:Nat)(B:V)(h:H){r:V×H}(q:D 33 [B] h=none):=(ti q Tryz.func33 (cAj _ L h _ B) (by kernel_rfl):Fe D (F33 · L B h) 33 [B] h r)
def aWm (k:K2 β):=aD (A.box 35 E h) fun a b=>k a B b
def aWl (r:K3 β)(k:K2 β):=lf 0 1 J h fun b=>bI .eql 5 b (iU 5)
 (nl 1 1 B h fun j=>lg 28 4 J h fun l=>aD (C 54 [j,l] h) fun m n=>aF m fun o=>r (.string ⟨⟨[]⟩⟩) (.bool false) (.bool o) n)
 (k J B h)
def bBs (a:K3 β)(k:K4 β):=lf 0 1 J h fun b=>bI .neq 5 b (iU 2)
 (a (.string ⟨⟨[]⟩⟩) (.bool false) (.bool true) h)
 (lf 3 1 J h fun l=>aD (C 55 [B,l] h) fun m n=>bnd (A.zA 4 J) fun p=>lf 0 1 p n fun r=>k J r B m n)
def bGg (k:K5 β):=bB .eql 5 U (iU 1) fun c=>k (.bool c) J U B I h
def bBr (k:K4 β):=lf 2 1 J h fun b=>bI .lss 3 b (iN 1)
 (k (.bool true) J I B h)
 (bI .geq 3 I (iN 0)
 (nl 0 1 B h fun p=>bnd (A.zB 4 p I) fun r=>lf 1 1 r h fun t=>bB .neq 3 t (iN 0) fun v=>k (.bool v) J I B h)
 (k (.bool false) J I B h))
def bBq (r k:K3 β):=aP xg (r (.string ⟨⟨[]⟩⟩) (.bool false) (.bool false) h) (k J I B h)
def aSx (r k:K3 β):=bBr h B J I (fun xg J I B h=>bBq h B J I xg r k)
def aWk (k:K4 β):=bI .geq 3 I (iN 0)
 (nl 0 1 B h fun j=>bnd (A.zB 4 j I) fun l=>lf 2 1 l h fun n=>aF n fun o=>iK (.bool !o)
 (bnd (A.zA 4 J) fun t=>lf 8 1 t h fun v=>aF v fun w=>aF (.bool !w) fun z=>k J I B (.bool z) h)
 (k J I B (.bool false) h))
 (k J I B (.bool false) h)
def aWj (a:K4 β):=lf 3 1 J h fun b=>lf 2 1 J h fun d=>bnd (A.zA 4 J) fun e=>lf 8 1 e h fun i=>aF i fun j=>bnd (A.zI Z118L []) fun k=>aD (A.box 1 k h) fun l m=>bnd (A.zI Z89L [(0,1,b),(1,1,d),(2,1,(.bool j)),(3,1,l)]) fun n=>aD (A.box 4 Z89 m) fun o p=>bnd (A.store 4 o n p) fun r=>iK Y
 (nl 0 1 B r fun y=>bnd (A.zB 4 y I) fun c=>lf 3 1 c r fun c1=>bnd (A.zA 3 o) fun f=>bnd (A.store 1 f c1 r) fun q=>a I B o Y q)
 (a I B o Y r)
def bGf (k:K3 β):=bI .geq 3 I (iN 0)
 (aD (C 56 [B,I] h) fun f i=>nl 0 1 B i fun n=>bnd (A.load true 4 x i) fun o=>aD (A.zC 4 1 Z89L [(0,4,o)] i) fun p q=>aD (A.zF 4 40 n p q) fun r s=>nf 0 B fun u=>bnd (A.store 1 u r s) fun w=>aF Y fun z=>k (.string ⟨⟨[]⟩⟩) (.bool z) (.bool true) w)
 (nl 0 1 B h fun j=>bnd (A.load true 4 x h) fun a=>aD (A.zC 4 1 Z89L [(0,4,a)] h) fun l m=>aD (A.zF 4 40 j l m) fun b c=>nf 0 B fun d=>bnd (A.store 1 d b c) fun e=>aF Y fun t=>k (.string ⟨⟨[]⟩⟩) (.bool t) (.bool true) e)
def bPg (k:K4 β):=k J U B I h
def bIy (k:K3 β)(n:K4 β):=bGg h B J I U (fun xy J U B I h=>aP xy (aSx h B J I k (fun J I B h=>aWk h B J I (fun J I B Y h=>aWj h B J I Y (fun I B x Y h=>bGf C h B I Y x k)))) (bPg h B J I U n))
def aKb (k:K5 β):=bI .lss 3 I (iN 0)
 (k (.bool true) J U B I h)
 (lf 2 1 J h fun m=>bI .lss 3 m (iN 1)
 (k (.bool true) J U B I h)
 (nl 0 1 B h fun y=>bnd (A.zB 4 y I) fun a=>lf 1 1 a h fun c1=>lf 2 1 J h fun e=>bI .neq 3 c1 e
 (k (.bool true) J U B I h)
 (bI .neq 5 U (iU 8)
 (bI .neq 5 U (iU 10)
 (bI .neq 5 U (iU 14)
 (bB .neq 5 U (iU 0) fun d=>k (.bool d) J U B I h)
 (k (.bool false) J U B I h))
 (k (.bool false) J U B I h))
 (k (.bool false) J U B I h))))
def bPf (r:K3 β)(k:K4 β):=aP xv (r (.string ⟨⟨[]⟩⟩) (.bool false) (.bool false) h) (k J U B I h)
def bRy (r:K3 β)(k:K4 β):=aKb h B J I U (fun xv J U B I h=>bPf h B J I U xv r k)
def cGa (k:K5 β):=k J U B I (.string ⟨⟨[]⟩⟩) h
def cFz (k:K6 β):=k (iN 0) J U B I Z h
def aWi (k:K4 β)(n:K6 β):=bnd (A.zA 4 J) fun b=>lf 22 1 b h fun d=>bnd (A.zE d) fun e=>bI .lss 3 xb e
 (n xb J U B I Z h)
 (k U B I Z h)
def bGe (k:K7 β):=bnd (A.zA 4 J) fun a=>lf 22 1 a h fun c=>bnd (A.zB 2 c xb) fun e=>bnd (A.load true 2 e h) fun f=>aD (A.box 2 Z57 h) fun i j=>bnd (A.store 2 i f j) fun l=>k i xb J U B I Z l
def bGd (k:K7 β):=bI .eql 5 U (iU 8)
 (nl 0 1 B h fun j=>bnd (A.zB 4 j I) fun l=>lf 3 1 l h fun n=>lf 0 1 Q h fun p=>lf 1 1 Q h fun r=>aD (C 57 [n,p,r] h) fun s t=>aD (A.zC 1 1 Z5L [(0,1,s)] t) fun u v=>bnd (A.b2s u v) fun w=>bnd (A.z prog .add 9 Z w) fun y=>k Q xb J U B I y v)
 (k Q xb J U B I Z h)
def bGc (n:K6 β):=bI .eql 5 U (iU 10)
 (nl 0 1 B h fun i=>bnd (A.zB 4 i I) fun k=>lf 3 1 k h fun m=>lf 0 1 Q h fun o=>aD (C 58 [m,o] h) fun p q=>aF p fun r=>n xb J U B I Z q)
 (n xb J U B I Z h)
def bDj (k:K6 β):=bGe h B J I U Z xb (fun Q xb J U B I Z h=>bGd C h B J I U Z xb Q (fun Q xb J U B I Z h=>bGc C h B J I U Z xb Q k))
noncomputable def bBp (k:K6 β):=bnd (A.z prog .add 3 xb (iN 1)) fun b=>k b J U B I Z h
def aMq (C:CF)(L:Nat){β:Type}(k:K4 β):Nat→K6 β
 |0,_,_,_,_,_,_,_=>none
 |n+1,xb,J,U,B,I,Z,h=>aWi h B J I U Z xb k (fun xb J U B I Z h=>bDj C h B J I U Z xb (fun xb J U B I Z h=>bBp h B J I U Z xb (fun xb J U B I Z h=>aMq C L k n xb J U B I Z h)))
def bWw (C:CF)(L:Nat)(K:KK β):∀n,M (fun f h=>Lw prog C L 3 216 [4,5,6] (gB Tryz.f34.body 8180) [12,3,8,0,7,11] [(0,[8,0,7,11])] n f h K) [12,3,8,0,7,11]=aMq C L (X K 0 [8,0,7,11]) n:=by refine lw [12,3,8,0,7,11] [12,3,8,0,7,11] (F:=fun a xb J U B I Z h=>aWi h B J I U Z xb (X K 0 [8,0,7,11]) (fun xb J U B I Z h=>bDj C h B J I U Z xb (fun xb J U B I Z h=>bBp h B J I U Z xb a))) ?_ ?_ (fun a=>w6 fun xb J U B I Z h=>(y 1 [12,3,8,0,7,11] ?_ (w6 fun xb J U B I Z h=>(q [12,3,8,0,7,11] (fun k=>(bk 1 ?_ ?_)) ?_ ?_)) ?_))<;>intros<;>kernel_rfl
def bSx (k:K4 β):=cFz h B J I U Z (fun xb J U B I Z h=>aMq C L k L xb J U B I Z h)
def bBo (k:K4 β):=bI .eql 5 U (iU 14)
 (k (.bool true) B I Z h)
 (bB .eql 5 U (iU 0) fun j=>k (.bool j) B I Z h)
def bGb (n:K1 β):=aP xw (nl 0 1 B h fun d=>bnd (A.zB 4 d I) fun f=>bnd (A.zA 1 f) fun i=>bnd (A.store 1 i (iN 0) h) fun k=>nl 0 1 B k fun o=>bnd (A.zB 4 o I) fun q=>lf 2 1 q k fun s=>iK s
 (aD (C 56 [B,I] k) fun w y=>n Z y)
 (n Z k)) (n Z h)
def aSw (k:K1 β):=bBo h B I U Z (fun xw B I Z h=>bGb C h B I Z xw k)
def aRu (k:K3 β):=k Z (.bool false) (.bool true) h
def aRa (k:K3 β):=aWm h B E (fun J B h=>aWl C h B J k (fun J B h=>bBs C h B J k (fun J U B I h=>bIy C h B J I U k (fun J U B I h=>bRy h B J I U k (fun J U B I h=>cGa h B J I U (fun J U B I Z h=>bSx C L h B J I U Z (fun U B I Z h=>aSw C h B I U Z (fun Z h=>aRu h Z k))))))))
def cAi:execK prog C L 3 216 [4,5,6] (gB Tryz.f34.body 1) [4,5,6] [] (r2 0 1 B E) h K=aRa C L h B E (R K [4,5,6]):=by unfold aRa;refine(y 1 [3,0] ?_ (w2 fun J B h=>(y 1 [3,0] ?_ (w2 fun J B h=>(y 3 [3,8,0,7] ?_ (w4 fun J U B I h=>(q [3,8,0,7] (fun k=>?_) (w4 fun J U B I h=>(q [3,8,0,7] (fun k=>?_) (w4 fun J U B I h=>(y 1 [3,8,0,7,11] ?_ (w5 fun J U B I Z h=>(q [8,0,7,11] (fun k=>(by unfold bSx;refine(y 1 [12,3,8,0,7,11] ?_ (w6 fun xb J U B I Z h=>(bk 0 (lp (c6 (bWw C L _ L) xb J U B I Z h) ?_) ?_)) ?_)<;>intros<;>kernel_rfl)) (w4 fun U B I Z h=>(q [11] (fun k=>?_) ?_ ?_)) ?_)) ?_)) ?_)) ?_)) ?_)) ?_)) ?_)<;>intros<;>kernel_rfl
def F34 (C:CF)(L:Nat)(B E:V)(h:H):O (V×H):=aRa C L h B E (fun P S W h=>some (.tuple ⟨[P,S,W]⟩,h))
def cDh (L:Nat)(B E:V)(h:H){r:V×H}(q:D 34 [B,E] h=none):=(ti q Tryz.func34 (cAi _ L h _ B E) (by kernel_rfl):Fe D (F34 · L B E h) 34 [B,E] h r)
def cFy (k:K5 β):=bnd (A.zB 35 B E) fun d=>lf 1 1 d h fun f=>k E G J B f h
def cFx (k:K5 β):=k G E J B Y h
def bBn (k:K0 β)(n:K5 β):=bI .lss 3 x G
 (n x G J B Y h)
 (k h)
def aRt (k:K6 β):=bnd (A.zB 35 B x) fun c=>lf 0 1 c h fun e=>bI .eql 5 e (iU 6)
 (bnd (A.zB 35 B x) fun o=>lf 1 1 o h fun q=>bI .eql 3 q Y
 (bnd (A.zB 35 B x) fun z=>lf 3 1 z h fun b=>bB .eql 9 b J fun a=>k (.bool a) x G J B Y h)
 (k (.bool false) x G J B Y h))
 (bnd (A.zB 35 B x) fun l=>lf 0 1 l h fun n=>bI .eql 5 n (iU 7)
 (bnd (A.zB 35 B x) fun u=>lf 1 1 u h fun w1=>bI .eql 3 w1 Y
 (bnd (A.zB 35 B x) fun f=>lf 3 1 f h fun j=>bB .eql 9 j J fun m=>k (.bool m) x G J B Y h)
 (k (.bool false) x G J B Y h))
 (k (.bool false) x G J B Y h))
def bPe (r:K1 β)(k:K5 β):=aP xg (r (.bool true) h) (k x G J B Y h)
def bIc (r:K1 β)(k:K5 β):=aRt h B G J Y x (fun xg x G J B Y h=>bPe h B G J Y x xg r k)
noncomputable def bPd (k:K5 β):=bnd (A.z prog .add 3 x (iN 1)) fun b=>k G b J B Y h
def aSk (C:CF)(L:Nat){β:Type}(r:K1 β)(k:K0 β):Nat→K5 β
 |0,_,_,_,_,_,_=>none
 |n+1,G,x,J,B,Y,h=>bBn h B G J Y x k (fun x G J B Y h=>bIc h B G J Y x r (fun x G J B Y h=>bPd h B G J Y x (fun G x J B Y h=>aSk C L r k n G x J B Y h)))
def bVu (C:CF)(L:Nat)(K:KK β):∀n,M (fun f h=>Lw prog C L 3 54 [8] (gB Tryz.f35.body 116) [2,10,3,0,9] [(0,[])] n f h K) [2,10,3,0,9]=aSk C L (R K [8]) (X K 0 []) n:=by refine lw [2,10,3,0,9] [2,10,3,0,9] (F:=fun a G x J B Y h=>bBn h B G J Y x (X K 0 []) (fun x G J B Y h=>bIc h B G J Y x (R K [8]) (fun x G J B Y h=>bPd h B G J Y x a))) ?_ ?_ (fun a=>w5 fun G x J B Y h=>(y 1 [10,2,3,0,9] ?_ (w5 fun x G J B Y h=>(q [10,2,3,0,9] (fun k=>(bk 1 ?_ ?_)) ?_ ?_)) ?_))<;>intros<;>kernel_rfl
def bSu (r:K1 β)(k:K0 β):=cFx h B E G J Y (fun G x J B Y h=>aSk C L r k L G x J B Y h)
def cFw (k:K1 β):=k (.bool false) h
def bKd (k:K1 β):=cFy h B E G J (fun E G J B Y h=>bSu C L h B E G J Y k (fun h=>cFw h k))
def cAh:execK prog C L 3 54 [8] (gB Tryz.f35.body 1) [8] [] (r4 0 1 2 3 B E G J) h K=bKd C L h B E G J (R K [8]):=by unfold bKd;refine(y 2 [1,2,3,0,9] ?_ (w5 fun E G J B Y h=>(q [] (fun k=>(by unfold bSu;refine(y 1 [2,10,3,0,9] ?_ (w5 fun G x J B Y h=>(bk 0 (lp (c5 (bVu C L _ L) G x J B Y h) ?_) ?_)) ?_)<;>intros<;>kernel_rfl)) ?_ ?_)) ?_)<;>intros<;>kernel_rfl
def F35 (C:CF)(L:Nat)(B E G J:V)(h:H):=bKd C L h B E G J rS
def cDg (L:Nat)(B E G J:V)(h:H){r:V×H}(q:D 35 [B,E,G,J] h=none):=(ti q Tryz.func35 (cAh _ L h _ B E G J) (by kernel_rfl):Fe D (F35 · L B E G J h) 35 [B,E,G,J] h r)
def bKc (k:K2 β):=aD (C 55 [B,E] h) fun e f=>bI .lss 3 e (iN 0)
 (k (iU 0) (.bool false) f)
 (nl 0 1 B f fun r=>bnd (A.zB 4 r e) fun t=>lf 3 1 t f fun v=>aD (C 41 [v,G] f) fun y z=>bnd (A.u 0 y) fun a=>bnd (A.u 1 y) fun b=>aF b fun c1=>k a (.bool c1) z)
def cAg:execK prog C L 3 26 [6,7] (gB Tryz.f36.body 1) [6,7] [] (r3 0 1 2 B E G) h K=bKc C h B E G (R K [6,7]):=by kernel_rfl
def F36 (C:CF)(L:Nat)(B E G:V)(h:H):O (V×H):=bKc C h B E G (fun W I h=>some (.tuple ⟨[W,I]⟩,h))
def cDf (L:Nat)(B E G:V)(h:H){r:V×H}(q:D 36 [B,E,G] h=none):=(ti q Tryz.func36 (cAg _ L h _ B E G) (by kernel_rfl):Fe D (F36 · L B E G h) 36 [B,E,G] h r)
def bKb (k:K1 β):=aD (A.box 4 B h) fun a b=>aD (A.box 4 Z30 b) fun c d=>lf 2 1 a d fun i=>bI .lss 5 E i
 (bnd (A.zA 2 a) fun m=>bnd (A.store 1 m E d) fun o=>aF G fun q=>bnd (A.zA 3 a) fun r=>bnd (A.store 1 r (.bool q) o) fun t=>bnd (A.load true 4 a t) fun u=>bnd (A.store 4 c u t) fun w=>k c w)
 (aF G fun z=>bnd (A.zA 3 a) fun e=>bnd (A.store 1 e (.bool z) d) fun c1=>bnd (A.load true 4 a c1) fun f=>bnd (A.store 4 c f c1) fun j=>k c j)
def cAf:execK prog C L 3 16 [6] (gB Tryz.f37.body 1) [6] [] (r3 0 1 2 B E G) h K=bKb h B E G (R K [6]):=by kernel_rfl
def F37 (C:CF)(L:Nat)(B E G:V)(h:H):O (V×H):=bKb h B E G (fun W h=>bnd (aPx (A.load true 4 W h) (some [])) fun v=>some (tP v,h))
def cDe (L:Nat)(B E G:V)(h:H){r:V×H}(q:D 37 [B,E,G] h=none):=(ti q Tryz.func37 (cAf _ L h _ B E G) (by kernel_rfl):Fe D (F37 · L B E G h) 37 [B,E,G] h r)
def bDz (k:K2 β):=aD (C 18 [B,(iN 0),E,(iU 2),G,(iU 8)] h) fun f i=>bI .lss 3 f (iN 0)
 (k (iN (-1)) (iN (-1)) i)
 (aD (C 18 [B,(iN 0),f,(iU 1),G,(iU 8)] i) fun s t=>bI .lss 3 s (iN 0)
 (k f f t)
 (k s f t))
def cAe:execK prog C L 3 25 [6,7] (gB Tryz.f38.body 1) [6,7] [] (r3 0 1 2 B E G) h K=bDz C h B E G (R K [6,7]):=by kernel_rfl
def F38 (C:CF)(L:Nat)(B E G:V)(h:H):O (V×H):=bDz C h B E G (fun W I h=>some (.tuple ⟨[W,I]⟩,h))
def cDd (L:Nat)(B E G:V)(h:H){r:V×H}(q:D 38 [B,E,G] h=none):=(ti q Tryz.func38 (cAe _ L h _ B E G) (by kernel_rfl):Fe D (F38 · L B E G h) 38 [B,E,G] h r)
def cFv (k:K5 β):=k E J P G B h
def cFu (k:K6 β):=k E (iN 0) J P G B h
def bBm (k:K0 β)(n:K6 β):=bI .lss 3 Z E
 (n Z E J P G B h)
 (k h)
def bBl (k:K8 β):=bnd (A.zB 35 B Z) fun c=>bnd (A.zA 28 c) fun d=>lf 0 1 d h fun f=>bnd (A.zB 35 B Z) fun l=>lf 0 1 l h fun n=>bI .eql 5 n (iU 8)
 (k (.bool true) f Z E J P G B h)
 (bnd (A.zB 35 B Z) fun v=>lf 0 1 v h fun y=>bI .eql 5 y (iU 7)
 (aD (C 18 [B,(iN 0),Z,(iU 4),G,(iU 0)] h) fun a i=>bB .lss 3 a (iN 0) fun b=>k (.bool b) f Z E J P G B i)
 (k (.bool false) f Z E J P G B h))
def aRs (k:K7 β):=iK Q
 (bnd (A.zB 35 B Z) fun f=>lf 1 1 f h fun j=>bI .eql 3 j G
 (bnd (A.z prog .eql 9 xb J) fun r=>iK r
 (k (.bool true) Z E J P G B h)
 (aF P fun y=>iK (.bool !y)
 (bB .gtr 9 xb J fun a=>k (.bool a) Z E J P G B h)
 (k (.bool false) Z E J P G B h)))
 (k (.bool false) Z E J P G B h))
 (k (.bool false) Z E J P G B h)
def bPc (r:K1 β)(k:K6 β):=aP xr (r (.bool true) h) (k Z E J P G B h)
def bIg (r:K1 β)(k:K6 β):=bBl C h B E G J P Z (fun Q xb Z E J P G B h=>aRs h B E G J P Z xb Q (fun xr Z E J P G B h=>bPc h B E G J P Z xr r k))
noncomputable def bPb (k:K6 β):=bnd (A.z prog .add 3 Z (iN 1)) fun b=>k E b J P G B h
def aQr (C:CF)(L:Nat){β:Type}(r:K1 β)(k:K0 β):Nat→K6 β
 |0,_,_,_,_,_,_,_=>none
 |n+1,E,Z,J,P,G,B,h=>bBm h B E G J P Z k (fun Z E J P G B h=>bIg C h B E G J P Z r (fun Z E J P G B h=>bPb h B E G J P Z (fun E Z J P G B h=>aQr C L r k n E Z J P G B h)))
def bWm (C:CF)(L:Nat)(K:KK β):∀n,M (fun f h=>Lw prog C L 3 70 [10] (gB Tryz.f39.body 52) [1,11,3,4,2,0] [(0,[])] n f h K) [1,11,3,4,2,0]=aQr C L (R K [10]) (X K 0 []) n:=by refine lw [1,11,3,4,2,0] [1,11,3,4,2,0] (F:=fun a E Z J P G B h=>bBm h B E G J P Z (X K 0 []) (fun Z E J P G B h=>bIg C h B E G J P Z (R K [10]) (fun Z E J P G B h=>bPb h B E G J P Z a))) ?_ ?_ (fun a=>w6 fun E Z J P G B h=>(y 1 [11,1,3,4,2,0] ?_ (w6 fun Z E J P G B h=>(q [11,1,3,4,2,0] (fun k=>(bk 1 ?_ ?_)) ?_ ?_)) ?_))<;>intros<;>kernel_rfl
def bSw (r:K1 β)(k:K0 β):=cFu h B E G J P (fun E Z J P G B h=>aQr C L r k L E Z J P G B h)
def bPa (k:K1 β):=k (.bool false) h
def bKa (k:K1 β):=cFv h B E G J P (fun E J P G B h=>bSw C L h B E G J P k (fun h=>bPa h k))
def cAd:execK prog C L 3 70 [10] (gB Tryz.f39.body 1) [10] [] (r5 0 1 2 3 4 B E G J P) h K=bKa C L h B E G J P (R K [10]):=by unfold bKa;refine(y 1 [1,3,4,2,0] ?_ (w5 fun E J P G B h=>(q [] (fun k=>(by unfold bSw;refine(y 1 [1,11,3,4,2,0] ?_ (w6 fun E Z J P G B h=>(bk 0 (lp (c6 (bWm C L _ L) E Z J P G B h) ?_) ?_)) ?_)<;>intros<;>kernel_rfl)) ?_ ?_)) ?_)<;>intros<;>kernel_rfl
def F39 (C:CF)(L:Nat)(B E G J P:V)(h:H):=bKa C L h B E G J P rS
def cDc (L:Nat)(B E G J P:V)(h:H){r:V×H}(q:D 39 [B,E,G,J,P] h=none):=(ti q Tryz.func39 (cAd _ L h _ B E G J P) (by kernel_rfl):Fe D (F39 · L B E G J P h) 39 [B,E,G,J,P] h r)
def cFt (k:K3 β):=k E G B h
def cFs (a:K3 β):=bnd (A.zB 1 E G) fun c=>bnd (A.load false 1 c h) fun d=>aD (C 33 [d] h) fun e f=>bnd (A.zB 35 B G) fun k=>bnd (A.load true 35 k f) fun l=>bif (chk (bnd (A.load true 35 k h) fun v=>some v) l&&true)then
 aD (C 34 [e,l] f) fun m n=>bnd (A.u 0 m) fun p=>bnd (A.u 1 m) fun q=>aF q fun r=>bnd (A.u 2 m) fun s=>aF s fun t=>a p G B n
 else none
def cFr (k:K4 β):=bnd (A.zI Z118L []) fun a=>aD (A.box 1 a h) fun b c=>k I G B b c
def cFq (k:K5 β):=k (iN 0) I G B x h
def bBk (k:K1 β)(n:K5 β):=bnd (A.zB 35 B G) fun d=>bnd (A.zA 4 d) fun e=>lf 22 1 e h fun i=>bnd (A.zE i) fun j=>bI .lss 3 Z j
 (bnd (A.zB 35 B G) fun o=>bnd (A.zA 4 o) fun p=>lf 22 1 p h fun r=>bnd (A.zB 2 r Z) fun t=>bnd (A.load true 2 t h) fun u=>aD (A.box 2 Z57 h) fun v w=>bnd (A.store 2 v u w) fun z=>bnd (A.zD I Z) fun c1=>bI .lss 5 c1 (iU 128)
 (lf 0 1 v z fun a=>lf 1 1 v z fun l=>aD (C 57 [x,a,l] z) fun m b=>bnd (A.z prog .add 3 Z (iN 1)) fun c=>n c I G B x b)
 (bnd (A.z prog .add 3 Z (iN 1)) fun s=>n s I G B x z))
 (k x h)
def aQq (C:CF)(L:Nat){β:Type}(k:K1 β):Nat→K5 β
 |0,_,_,_,_,_,_=>none
 |n+1,Z,I,G,B,x,h=>bBk C h B G I x Z k (fun Z I G B x h=>aQq C L k n Z I G B x h)
def bWl (C:CF)(L:Nat)(K:KK β):∀n,M (fun f h=>Lw prog C L 3 60 [6] (gB Tryz.f40.body 244) [11,7,2,0,10] [(0,[10])] n f h K) [11,7,2,0,10]=aQq C L (X K 0 [10]) n:=by refine lw [11,7,2,0,10] [11,7,2,0,10] (F:=fun k Z I G B x h=>bBk C h B G I x Z (X K 0 [10]) k) ?_ ?_ ?_<;>intros<;>kernel_rfl
def bSg (k:K1 β):=cFq h B G I x (fun Z I G B x h=>aQq C L k L Z I G B x h)
def bGa (k:K1 β):=k x h
def bJz (k:K1 β):=cFt h B E G (fun E G B h=>cFs C h B E G (fun I G B h=>cFr h B G I (fun I G B x h=>bSg C L h B G I x (fun x h=>bGa h x k))))
def cAc:execK prog C L 3 60 [6] (gB Tryz.f40.body 1) [6] [] (r3 0 1 2 B E G) h K=bJz C L h B E G (R K [6]):=by unfold bJz;refine(y 1 [1,2,0] ?_ (w3 fun E G B h=>(y 1 [7,2,0] ?_ (w3 fun I G B h=>(y 1 [7,2,0,10] ?_ (w4 fun I G B x h=>(q [10] (fun k=>(by unfold bSg;refine(y 1 [11,7,2,0,10] ?_ (w5 fun Z I G B x h=>(bk 0 (lp (c5 (bWl C L _ L) Z I G B x h) ?_) ?_)) ?_)<;>intros<;>kernel_rfl)) ?_ ?_)) ?_)) ?_)) ?_)<;>intros<;>kernel_rfl
def F40 (C:CF)(L:Nat)(B E G:V)(h:H):=bJz C L h B E G rS
def cDb (L:Nat)(B E G:V)(h:H){r:V×H}(q:D 40 [B,E,G] h=none):=(ti q Tryz.func40 (cAc _ L h _ B E G) (by kernel_rfl):Fe D (F40 · L B E G h) 40 [B,E,G] h r)
def cFp (k:K4 β):=k B E (iU 0) (.bool false) h
def cFo (k:K5 β):=k (iN 0) B E W I h
def aWh (a:K2 β)(k:K5 β):=nl 0 1 B h fun e=>bnd (A.zE e) fun f=>bI .lss 3 U f
 (nl 0 1 B h fun n=>bnd (A.zB 2 n U) fun p=>lf 0 1 p h fun r=>aD (C 59 [r,E] h) fun t u=>iK t
 (nl 0 1 B u fun b=>bnd (A.zB 2 b U) fun d=>lf 1 1 d u fun c=>bI .gtr 5 c W
 (nl 0 1 B u fun o=>bnd (A.zB 2 o U) fun q=>lf 1 1 q u fun s=>bnd (A.z prog .add 3 U (iN 1)) fun v=>k v B E s (.bool true) u)
 (bnd (A.z prog .add 3 U (iN 1)) fun i=>k i B E W (.bool true) u))
 (bnd (A.z prog .add 3 U (iN 1)) fun c2=>k c2 B E W I u))
 (a W I h)
def aMp (C:CF)(L:Nat){β:Type}(k:K2 β):Nat→K5 β
 |0,_,_,_,_,_,_=>none
 |n+1,U,B,E,W,I,h=>aWh C h B E W I U k (fun U B E W I h=>aMp C L k n U B E W I h)
def bWv (C:CF)(L:Nat)(K:KK β):∀n,M (fun f h=>Lw prog C L 3 48 [4,5] (gB Tryz.f41.body 244) [8,0,1,6,7] [(0,[6,7])] n f h K) [8,0,1,6,7]=aMp C L (X K 0 [6,7]) n:=by refine lw [8,0,1,6,7] [8,0,1,6,7] (F:=fun k U B E W I h=>aWh C h B E W I U (X K 0 [6,7]) k) ?_ ?_ ?_<;>intros<;>kernel_rfl
def bSj (k:K2 β):=cFo h B E W I (fun U B E W I h=>aMp C L k L U B E W I h)
def bOz (k:K2 β):=aF I fun c=>k W (.bool c) h
def bJy (k:K2 β):=cFp h B E (fun B E W I h=>bSj C L h B E W I (fun W I h=>bOz h W I k))
def cAb:execK prog C L 3 48 [4,5] (gB Tryz.f41.body 1) [4,5] [] (r2 0 1 B E) h K=bJy C L h B E (R K [4,5]):=by unfold bJy;refine(y 3 [0,1,6,7] ?_ (w4 fun B E W I h=>(q [6,7] (fun k=>(by unfold bSj;refine(y 1 [8,0,1,6,7] ?_ (w5 fun U B E W I h=>(bk 0 (lp (c5 (bWv C L _ L) U B E W I h) ?_) ?_)) ?_)<;>intros<;>kernel_rfl)) ?_ ?_)) ?_)<;>intros<;>kernel_rfl
def F41 (C:CF)(L:Nat)(B E:V)(h:H):O (V×H):=bJy C L h B E (fun P S h=>some (.tuple ⟨[P,S]⟩,h))
def cDa (L:Nat)(B E:V)(h:H){r:V×H}(q:D 41 [B,E] h=none):=(ti q Tryz.func41 (cAb _ L h _ B E) (by kernel_rfl):Fe D (F41 · L B E h) 41 [B,E] h r)
def bOy (k:K3 β):=aD (A.box 4 Z30 h) fun a b=>k B E a b
def bOx (k:K4 β):=k (iN 0) B E P h
def bBj (d:K2 β)(k:K1 β)(c:K4 β):=nl 0 1 B h fun e=>bnd (A.zE e) fun f=>bI .lss 3 W f
 (nl 0 1 B h fun n=>bnd (A.zB 4 n W) fun p=>lf 0 1 p h fun r=>bI .eql 9 r E
 (nl 0 1 B h fun z=>bnd (A.zB 4 z W) fun b=>bnd (A.load true 4 b h) fun c1=>bnd (A.store 4 P c1 h) fun a=>d P (.bool true) a)
 (bnd (A.z prog .add 3 W (iN 1)) fun j=>c j B E P h))
 (k P h)
def aCs (C:CF)(L:Nat){β:Type}(r:K2 β)(k:K1 β):Nat→K4 β
 |0,_,_,_,_,_=>none
 |n+1,W,B,E,P,h=>bBj h B E P W r k (fun W B E P h=>aCs C L r k n W B E P h)
def bXj (C:CF)(L:Nat)(K:KK β):∀n,M (fun f h=>Lw prog C L 3 34 [4,5] (gB Tryz.f42.body 52) [6,0,1,4] [(0,[4])] n f h K) [6,0,1,4]=aCs C L (R K [4,5]) (X K 0 [4]) n:=by refine lw [6,0,1,4] [6,0,1,4] (F:=fun k W B E P h=>bBj h B E P W (R K [4,5]) (X K 0 [4]) k) ?_ ?_ ?_<;>intros<;>kernel_rfl
def bIk (r:K2 β)(k:K1 β):=bOx h B E P (fun W B E P h=>aCs C L r k L W B E P h)
def bOw (k:K2 β):=bnd (A.zI Z30L []) fun a=>bnd (A.store 4 P a h) fun c=>k P (.bool false) c
def bDy (k:K2 β):=bOy h B E (fun B E P h=>bIk C L h B E P k (fun P h=>bOw h P k))
def cAa:execK prog C L 3 34 [4,5] (gB Tryz.f42.body 1) [4,5] [] (r2 0 1 B E) h K=bDy C L h B E (R K [4,5]):=by unfold bDy;refine(y 1 [0,1,4] ?_ (w3 fun B E P h=>(q [4] (fun k=>(by unfold bIk;refine(y 1 [6,0,1,4] ?_ (w4 fun W B E P h=>(bk 0 (lp (c4 (bXj C L _ L) W B E P h) ?_) ?_)) ?_)<;>intros<;>kernel_rfl)) ?_ ?_)) ?_)<;>intros<;>kernel_rfl
def F42 (C:CF)(L:Nat)(B E:V)(h:H):O (V×H):=bDy C L h B E (fun P S h=>bnd (aPx (A.load true 4 P h) (aPx (some S) (some []))) fun v=>some (tP v,h))
def cCz (L:Nat)(B E:V)(h:H){r:V×H}(q:D 42 [B,E] h=none):=(ti q Tryz.func42 (cAa _ L h _ B E) (by kernel_rfl):Fe D (F42 · L B E h) 42 [B,E] h r)
def bTq (r:K1 β):=aD (A.zC 2 0 Z57L [] h) fun b c=>nl 0 1 B c fun i=>aD (A.zF 2 24 b i c) fun j k=>bnd (A.zI Z118L [(0,1,j)]) fun l=>aD (A.box 1 l k) fun m n=>r m n
def bZp:execK prog C L 3 11 [2] (gB Tryz.f53.body 1) [2] [] (r1 0 B) h K=bTq h B (R K [2]):=by kernel_rfl
def F53 (C:CF)(L:Nat)(B:V)(h:H):=bTq h B rS
def cCq (L:Nat)(B:V)(h:H){r:V×H}(q:D 53 [B] h=none):=(ti q Tryz.func53 (bZp _ L h _ B) (by kernel_rfl):Fe D (F53 · L B h) 53 [B] h r)
def bRo (c:K1 β)(k:K4 β):=aD (A.box 4 E h) fun a b=>bnd (A.load true 4 a b) fun d=>aD (C 74 [d] b) fun e f=>aF e fun i=>iK (.bool !i)
 (c (.bool false) f)
 (bnd (A.zA 3 a) fun m=>bnd (A.store 1 m (.bool true) f) fun o=>lf 1 1 a o fun r=>bB .eql 9 r (.string ⟨⟨[]⟩⟩) fun t=>k (.bool t) a B (.slice none 0 0) o)
def cFd (k:K5 β):=k (iN 0) W J B S h
def aWb (k:K4 β)(n:K5 β):=nl 0 1 B h fun e=>bnd (A.zE e) fun f=>bI .lss 3 I f
 (n I W J B S h)
 (k W J B S h)
def bFs (n:K6 β):=aF W fun b=>iK (.bool !b)
 (nl 0 1 B h fun k=>bnd (A.zB 4 k I) fun m=>lf 0 1 m h fun o=>lf 0 1 J h fun q=>bB .gtr 9 o q fun s=>n (.bool s) I W J B S h)
 (n (.bool false) I W J B S h)
def bFr (k:K5 β):=aP xl (bnd (A.load true 4 J h) fun b=>aD (A.zC 4 1 Z30L [(0,4,b)] h) fun c d=>aD (A.zF 4 40 S c d) fun e f=>k I (.bool true) J B e f) (k I W J B S h)
def bDd (k:K5 β):=bFs h B J S W I (fun xl I W J B S h=>bFr h B J S W I xl k)
def bOq (k:K6 β):=nl 0 1 B h fun d=>bnd (A.zB 4 d I) fun f=>lf 0 1 f h fun j=>lf 0 1 J h fun l=>bB .neq 9 j l fun n=>k (.bool n) I W J B S h
def bOp (a:K5 β):=aP xg (nl 0 1 B h fun e=>bnd (A.zB 4 e I) fun i=>bnd (A.load true 4 i h) fun j=>aD (A.zC 4 1 Z30L [(0,4,j)] h) fun k l=>aD (A.zF 4 40 S k l) fun m n=>a I W J B m n) (a I W J B S h)
def bIp (k:K5 β):=bDd h B J S W I (fun I W J B S h=>bOq h B J S W I (fun xg I W J B S h=>bOp h B J S W I xg k))
noncomputable def bFq (k:K5 β):=bnd (A.z prog .add 3 I (iN 1)) fun b=>k b W J B S h
def aMo (C:CF)(L:Nat){β:Type}(k:K4 β):Nat→K5 β
 |0,_,_,_,_,_,_=>none
 |n+1,I,W,J,B,S,h=>aWb h B J S W I k (fun I W J B S h=>bIp h B J S W I (fun I W J B S h=>bFq h B J S W I (fun I W J B S h=>aMo C L k n I W J B S h)))
def bWu (C:CF)(L:Nat)(K:KK β):∀n,M (fun f h=>Lw prog C L 3 74 [4] (gB Tryz.f54.body 1012) [7,6,3,0,5] [(0,[6,3,0,5])] n f h K) [7,6,3,0,5]=aMo C L (X K 0 [6,3,0,5]) n:=by refine lw [7,6,3,0,5] [7,6,3,0,5] (F:=fun a I W J B S h=>aWb h B J S W I (X K 0 [6,3,0,5]) (fun I W J B S h=>bIp h B J S W I (fun I W J B S h=>bFq h B J S W I a))) ?_ ?_ (fun a=>w5 fun I W J B S h=>(y 1 [7,6,3,0,5] ?_ (w5 fun I W J B S h=>(q [7,6,3,0,5] (fun k=>(bk 1 ?_ ?_)) ?_ ?_)) ?_))<;>intros<;>kernel_rfl
def bSz (k:K4 β):=cFd h B J S W (fun I W J B S h=>aMo C L k L I W J B S h)
def bDm (r:K1 β):=aF W fun b=>iK (.bool !b)
 (bnd (A.load true 4 J h) fun f=>aD (A.zC 4 1 Z30L [(0,4,f)] h) fun i j=>aD (A.zF 4 40 S i j) fun k l=>nf 0 B fun q=>bnd (A.store 1 q k l) fun s=>r (.bool true) s)
 (nf 0 B fun y=>bnd (A.store 1 y S h) fun a=>r (.bool true) a)
def bDx (k:K1 β):=bRo C h B E k (fun W J B S h=>bSz C L h B J S W (fun W J B S h=>bDm h B J S W k))
def bZo:execK prog C L 3 74 [4] (gB Tryz.f54.body 1) [4] [] (r2 0 1 B E) h K=bDx C L h B E (R K [4]):=by unfold bDx;refine(y 5 [6,3,0,5] ?_ (w4 fun W J B S h=>(q [6,3,0,5] (fun k=>(by unfold bSz;refine(y 1 [7,6,3,0,5] ?_ (w5 fun I W J B S h=>(bk 0 (lp (c5 (bWu C L _ L) I W J B S h) ?_) ?_)) ?_)<;>intros<;>kernel_rfl)) ?_ ?_)) ?_)<;>intros<;>kernel_rfl
def F54 (C:CF)(L:Nat)(B E:V)(h:H):=bDx C L h B E rS
def cCp (L:Nat)(B E:V)(h:H){r:V×H}(q:D 54 [B,E] h=none):=(ti q Tryz.func54 (bZo _ L h _ B E) (by kernel_rfl):Fe D (F54 · L B E h) 54 [B,E] h r)
def cFc (k:K2 β):=k E B h
def cFb (k:K3 β):=k (iN 0) E B h
def bBe (b:K1 β)(k:K0 β)(a:K3 β):=nl 0 1 B h fun e=>bnd (A.zE e) fun f=>bI .lss 3 S f
 (nl 0 1 B h fun n=>bnd (A.zB 4 n S) fun p=>lf 0 1 p h fun r=>bI .eql 9 r E
 (b S h)
 (bnd (A.z prog .add 3 S (iN 1)) fun z=>a z E B h))
 (k h)
def aQo (C:CF)(L:Nat){β:Type}(r:K1 β)(k:K0 β):Nat→K3 β
 |0,_,_,_,_=>none
 |n+1,S,E,B,h=>bBe h B E S r k (fun S E B h=>aQo C L r k n S E B h)
def bWj (C:CF)(L:Nat)(K:KK β):∀n,M (fun f h=>Lw prog C L 3 26 [4] (gB Tryz.f55.body 52) [5,1,0] [(0,[])] n f h K) [5,1,0]=aQo C L (R K [4]) (X K 0 []) n:=by refine lw [5,1,0] [5,1,0] (F:=fun k S E B h=>bBe h B E S (R K [4]) (X K 0 []) k) ?_ ?_ ?_<;>intros<;>kernel_rfl
def bSe (r:K1 β)(k:K0 β):=cFb h B E (fun S E B h=>aQo C L r k L S E B h)
def bOo (k:K1 β):=k (iN (-1)) h
def bJt (k:K1 β):=cFc h B E (fun E B h=>bSe C L h B E k (fun h=>bOo h k))
def bZn:execK prog C L 3 26 [4] (gB Tryz.f55.body 1) [4] [] (r2 0 1 B E) h K=bJt C L h B E (R K [4]):=by unfold bJt;refine(y 1 [1,0] ?_ (w2 fun E B h=>(q [] (fun k=>(by unfold bSe;refine(y 1 [5,1,0] ?_ (w3 fun S E B h=>(bk 0 (lp (c3 (bWj C L _ L) S E B h) ?_) ?_)) ?_)<;>intros<;>kernel_rfl)) ?_ ?_)) ?_)<;>intros<;>kernel_rfl
def F55 (C:CF)(L:Nat)(B E:V)(h:H):=bJt C L h B E rS
def cCo (L:Nat)(B E:V)(h:H){r:V×H}(q:D 55 [B,E] h=none):=(ti q Tryz.func55 (bZn _ L h _ B E) (by kernel_rfl):Fe D (F55 · L B E h) 55 [B,E] h r)
noncomputable def bTp (n:K0 β):=nl 0 1 B h fun f=>bnd (A.zK 4 f none (some E) none h) fun j=>aD (A.zF 4 40 (.slice none 0 0) j h) fun k l=>nl 0 1 B l fun s=>bnd (A.z prog .add 3 E (iN 1)) fun u=>bnd (A.zK 4 s (some u) none none l) fun v=>aD (A.zF 4 40 k v l) fun w y=>nf 0 B fun a=>bnd (A.store 1 a w y) fun c1=>n c1
def bZm:execK prog C L 3 25 [] (gB Tryz.f56.body 1) [] [] (r2 0 1 B E) h K=bTp h B E (N K []):=by kernel_rfl
def F56 (C:CF)(L:Nat)(B E:V)(h:H):O (V×H):=bTp h B E (fun h=>some (.tuple ⟨[]⟩,h))
def cCn (L:Nat)(B E:V)(h:H){r:V×H}(q:D 56 [B,E] h=none):=(ti q Tryz.func56 (bZm _ L h _ B E) (by kernel_rfl):Fe D (F56 · L B E h) 56 [B,E] h r)
def bRn (k:K3 β):=k E B G h
def aWa (n:K4 β):=bI .gtr 5 G (iU 2)
 (n (.bool true) E B G h)
 (aD (C 75 [E] h) fun k l=>aF k fun m=>iK (.bool !m)
 (n (.bool true) E B G l)
 (aD (C 76 [B,E] l) fun u v=>aF u fun w=>iK (.bool !w)
 (nl 0 1 B v fun e=>bnd (A.zE e) fun f=>bB .geq 3 f (iN 16) fun j=>n (.bool j) E B G v)
 (n (.bool false) E B G v)))
def bOn (r:K1 β)(k:K3 β):=aP xj (r (iU 128) h) (k E B G h)
def bRw (r:K1 β)(k:K3 β):=aWa C h B E G (fun xj E B G h=>bOn h B E G xj r k)
def cJj (k:K4 β):=aD (C 58 [B,E] h) fun c d=>aF c fun e=>k E B (iN 0) G d
def bBd (k n:K4 β):=nl 0 1 B h fun e=>bnd (A.zE e) fun f=>bI .lss 3 I f
 (nl 0 1 B h fun o=>bnd (A.zB 2 o I) fun q=>lf 0 1 q h fun s=>bI .lss 9 s E
 (bnd (A.z prog .add 3 I (iN 1)) fun z=>n E B z G h)
 (k E B I G h))
 (k E B I G h)
def aMn (C:CF)(L:Nat){β:Type}(k:K4 β):Nat→K4 β
 |0,_,_,_,_,_=>none
 |n+1,E,B,I,G,h=>bBd h B E G I k (fun E B I G h=>aMn C L k n E B I G h)
def bWt (C:CF)(L:Nat)(K:KK β):∀n,M (fun f h=>Lw prog C L 3 77 [6] (gB Tryz.f57.body 248) [1,0,7,2] [(0,[1,0,7,2])] n f h K) [1,0,7,2]=aMn C L (X K 0 [1,0,7,2]) n:=by refine lw [1,0,7,2] [1,0,7,2] (F:=fun k E B I G h=>bBd h B E G I (X K 0 [1,0,7,2]) k) ?_ ?_ ?_<;>intros<;>kernel_rfl
def bFp (n:K1 β):=aD (A.zC 2 0 Z57L [] h) fun b c=>nl 0 1 B c fun i=>bnd (A.zK 2 i none (some I) none c) fun k=>aD (A.zF 2 24 b k c) fun l m=>bnd (A.zI Z57L [(0,1,E),(1,1,G)]) fun p=>aD (A.zC 2 1 Z57L [(0,2,p)] m) fun q r=>aD (A.zF 2 24 l q r) fun s t=>bnd (A.zR B) fun v=>bnd (A.zA 0 v) fun w=>bnd (A.load false 1 w t) fun y=>bif (chk (bnd (A.load false 1 w r) fun v=>some v) y&&(chk (bnd (A.load false 1 w c) fun v=>some v) y&&true))then
 bnd (A.zK 2 y (some I) none none t) fun a=>bif (chk (bnd (A.zK 2 y (some I) none none r) fun v=>some v) a&&(chk (bnd (A.zK 2 y (some I) none none c) fun v=>some v) a&&true))then
 aD (A.zF 2 24 s a t) fun d c1=>nf 0 B fun e=>bnd (A.store 1 e d c1) fun f=>n G f
 else none
 else none
def bSl (k:K1 β):=k G h
def bDw (k:K1 β):=bRn h B E G (fun E B G h=>bRw C h B E G k (fun E B G h=>cJj C h B E G (fun E B I G h=>aMn C L (fun E B I G h=>bFp h B E G I (fun G h=>bSl h G k)) L E B I G h)))
def bZl:execK prog C L 3 77 [6] (gB Tryz.f57.body 1) [6] [] (r3 0 1 2 B E G) h K=bDw C L h B E G (R K [6]):=by unfold bDw;refine(y 1 [1,0,2] ?_ (w3 fun E B G h=>(q [1,0,2] (fun k=>?_) (w3 fun E B G h=>(y 2 [1,0,7,2] ?_ (w4 fun E B I G h=>(q [1,0,7,2] (A:=fun z=>aMn C L z L E B I G h) (fun k=>(bk 0 (lp (c4 (bWt C L _ L) E B I G h) ?_) ?_)) (w4 fun E B I G h=>(y 1 [2] ?_ ?_ ?_)) ?_)) ?_)) ?_)) ?_)<;>intros<;>kernel_rfl
def F57 (C:CF)(L:Nat)(B E G:V)(h:H):=bDw C L h B E G rS
def cCm (L:Nat)(B E G:V)(h:H){r:V×H}(q:D 57 [B,E,G] h=none):=(ti q Tryz.func57 (bZl _ L h _ B E G) (by kernel_rfl):Fe D (F57 · L B E G h) 57 [B,E,G] h r)
def cFa (k:K4 β):=aD (C 76 [B,E] h) fun d e=>aF d fun f=>k E B (.slice none 0 0) (.bool f) e
def cEz (k:K5 β):=k (iN 0) E B W S h
def bBc (k:K3 β)(a:K5 β):=nl 0 1 B h fun e=>bnd (A.zE e) fun f=>bI .lss 3 I f
 (nl 0 1 B h fun n=>bnd (A.zB 2 n I) fun p=>lf 0 1 p h fun r=>bI .neq 9 r E
 (nl 0 1 B h fun b=>bnd (A.zB 2 b I) fun c1=>bnd (A.load true 2 c1 h) fun d=>aD (A.zC 2 1 Z57L [(0,2,d)] h) fun c i=>aD (A.zF 2 24 W c i) fun j l=>bnd (A.z prog .add 3 I (iN 1)) fun m=>a m E B j S l)
 (bnd (A.z prog .add 3 I (iN 1)) fun o=>a o E B W S h))
 (k B W S h)
def aQn (C:CF)(L:Nat){β:Type}(k:K3 β):Nat→K5 β
 |0,_,_,_,_,_,_=>none
 |n+1,I,E,B,W,S,h=>bBc h B E S W I k (fun I E B W S h=>aQn C L k n I E B W S h)
def bWi (C:CF)(L:Nat)(K:KK β):∀n,M (fun f h=>Lw prog C L 3 45 [4] (gB Tryz.f58.body 244) [7,1,0,6,5] [(0,[0,6,5])] n f h K) [7,1,0,6,5]=aQn C L (X K 0 [0,6,5]) n:=by refine lw [7,1,0,6,5] [7,1,0,6,5] (F:=fun k I E B W S h=>bBc h B E S W I (X K 0 [0,6,5]) k) ?_ ?_ ?_<;>intros<;>kernel_rfl
def bSd (k:K3 β):=cEz h B E S W (fun I E B W S h=>aQn C L k L I E B W S h)
def bFo (k:K1 β):=nf 0 B fun d=>bnd (A.store 1 d W h) fun f=>aF S fun j=>k (.bool j) f
def bJs (k:K1 β):=cFa C h B E (fun E B W S h=>bSd C L h B E S W (fun B W S h=>bFo h B S W k))
def bZk:execK prog C L 3 45 [4] (gB Tryz.f58.body 1) [4] [] (r2 0 1 B E) h K=bJs C L h B E (R K [4]):=by unfold bJs;refine(y 3 [1,0,6,5] ?_ (w4 fun E B W S h=>(q [0,6,5] (fun k=>(by unfold bSd;refine(y 1 [7,1,0,6,5] ?_ (w5 fun I E B W S h=>(bk 0 (lp (c5 (bWi C L _ L) I E B W S h) ?_) ?_)) ?_)<;>intros<;>kernel_rfl)) ?_ ?_)) ?_)<;>intros<;>kernel_rfl
def F58 (C:CF)(L:Nat)(B E:V)(h:H):=bJs C L h B E rS
def cCl (L:Nat)(B E:V)(h:H){r:V×H}(q:D 58 [B,E] h=none):=(ti q Tryz.func58 (bZk _ L h _ B E) (by kernel_rfl):Fe D (F58 · L B E h) 58 [B,E] h r)
def bJr (r:K1 β):=aD (C 77 [E] h) fun c d=>iK c
 (aD (C 78 [B,E] d) fun k l=>aF k fun m=>r (.bool m) l)
 (r (.bool false) d)
def bZj:execK prog C L 3 12 [4] (gB Tryz.f59.body 1) [4] [] (r2 0 1 B E) h K=bJr C h B E (R K [4]):=by kernel_rfl
def F59 (C:CF)(L:Nat)(B E:V)(h:H):=bJr C h B E rS
def cCk (L:Nat)(B E:V)(h:H){r:V×H}(q:D 59 [B,E] h=none):=(ti q Tryz.func59 (bZj _ L h _ B E) (by kernel_rfl):Fe D (F59 · L B E h) 59 [B,E] h r)
def bJn (k:K1 β):=aD (A.box 4 B h) fun a b=>lf 0 1 a b fun e=>aD (C 77 [e] b) fun f i=>iK f
 (lf 2 1 a i fun m=>bB .leq 5 m (iU 2) fun o=>k (.bool o) i)
 (k (.bool false) i)
def bYy:execK prog C L 3 11 [2] (gB Tryz.f74.body 1) [2] [] (r1 0 B) h K=bJn C h B (R K [2]):=by kernel_rfl
def F74 (C:CF)(L:Nat)(B:V)(h:H):=bJn C h B rS
def cCb (L:Nat)(B:V)(h:H){r:V×H}(q:D 74 [B] h=none):=(ti q Tryz.func74 (bYy _ L h _ B) (by kernel_rfl):Fe D (F74 · L B h) 74 [B] h r)
def bFi (k:K2 β):=aD (C 93 [B] h) fun c d=>k c B d
def bFh (k:K3 β):=k (iN 0) J B h
def aQa (k:K1 β)(n:K3 β):=bnd (A.zE J) fun c=>bI .lss 3 P c
 (n P J B h)
 (k B h)
def aVy (k:K4 β):=bnd (A.zB 1 J P) fun c=>bnd (A.load false 1 c h) fun d=>aD (C 94 [d] h) fun e f=>aF e fun i=>iK (.bool !i)
 (bnd (A.zB 1 J P) fun o=>bnd (A.load false 1 o f) fun p=>bI .neq 9 p (.string ⟨⟨[43]⟩⟩)
 (bnd (A.zB 1 J P) fun w=>bnd (A.load false 1 w f) fun y=>bI .neq 9 y (.string ⟨⟨[35]⟩⟩)
 (k (.bool true) P J B f)
 (bnd (A.zE J) fun a=>bnd (A.z prog .sub 3 a (iN 1)) fun j=>bB .lss 3 P j fun l=>k (.bool l) P J B f))
 (k (.bool false) P J B f))
 (k (.bool false) P J B f)
def aVx (r:K1 β)(k:K3 β):=aP xh (r (.bool false) h) (k P J B h)
def aSz (r:K1 β)(k:K3 β):=aVy C h B J P (fun xh P J B h=>aVx h B J P xh r k)
noncomputable def aRm (k:K3 β):=bnd (A.z prog .add 3 P (iN 1)) fun b=>k b J B h
def aCr (C:CF)(L:Nat){β:Type}(r k:K1 β):Nat→K3 β
 |0,_,_,_,_=>none
 |n+1,P,J,B,h=>aQa h B J P k (fun P J B h=>aSz C h B J P r (fun P J B h=>aRm h B J P (fun P J B h=>aCr C L r k n P J B h)))
def bXi (C:CF)(L:Nat)(K:KK β):∀n,M (fun f h=>Lw prog C L 3 47 [2] (gB Tryz.f75.body 116) [4,3,0] [(0,[0])] n f h K) [4,3,0]=aCr C L (R K [2]) (X K 0 [0]) n:=by refine lw [4,3,0] [4,3,0] (F:=fun a P J B h=>aQa h B J P (X K 0 [0]) (fun P J B h=>aSz C h B J P (R K [2]) (fun P J B h=>aRm h B J P a))) ?_ ?_ (fun a=>w3 fun P J B h=>(y 1 [4,3,0] ?_ (w3 fun P J B h=>(q [4,3,0] (fun k=>(bk 1 ?_ ?_)) ?_ ?_)) ?_))<;>intros<;>kernel_rfl
def bDp (r k:K1 β):=bFh h B J (fun P J B h=>aCr C L r k L P J B h)
def bFg (r:K1 β):=bnd (A.zH B) fun b=>bI .gtr 3 b (iN 0)
 (aD (C 95 [B] h) fun i j=>aF i fun k=>r (.bool k) j)
 (r (.bool false) h)
def aXs (k:K1 β):=bFi C h B (fun J B h=>bDp C L h B J k (fun B h=>bFg C h B k))
def bYx:execK prog C L 3 47 [2] (gB Tryz.f75.body 1) [2] [] (r1 0 B) h K=aXs C L h B (R K [2]):=by unfold aXs;refine(y 2 [3,0] ?_ (w2 fun J B h=>(q [0] (fun k=>(by unfold bDp;refine(y 1 [4,3,0] ?_ (w3 fun P J B h=>(bk 0 (lp (c3 (bXi C L _ L) P J B h) ?_) ?_)) ?_)<;>intros<;>kernel_rfl)) ?_ ?_)) ?_)<;>intros<;>kernel_rfl
def F75 (C:CF)(L:Nat)(B:V)(h:H):=aXs C L h B rS
def cCa (L:Nat)(B:V)(h:H){r:V×H}(q:D 75 [B] h=none):=(ti q Tryz.func75 (bYx _ L h _ B) (by kernel_rfl):Fe D (F75 · L B h) 75 [B] h r)
def cEu (k:K2 β):=k E B h
def cEt (k:K3 β):=k (iN 0) E B h
def bAy (b:K1 β)(k:K0 β)(a:K3 β):=nl 0 1 B h fun e=>bnd (A.zE e) fun f=>bI .lss 3 S f
 (nl 0 1 B h fun n=>bnd (A.zB 2 n S) fun p=>lf 0 1 p h fun r=>bI .eql 9 r E
 (b (.bool true) h)
 (bnd (A.z prog .add 3 S (iN 1)) fun y=>a y E B h))
 (k h)
def aQl (C:CF)(L:Nat){β:Type}(r:K1 β)(k:K0 β):Nat→K3 β
 |0,_,_,_,_=>none
 |n+1,S,E,B,h=>bAy h B E S r k (fun S E B h=>aQl C L r k n S E B h)
def bWg (C:CF)(L:Nat)(K:KK β):∀n,M (fun f h=>Lw prog C L 3 25 [4] (gB Tryz.f76.body 52) [5,1,0] [(0,[])] n f h K) [5,1,0]=aQl C L (R K [4]) (X K 0 []) n:=by refine lw [5,1,0] [5,1,0] (F:=fun k S E B h=>bAy h B E S (R K [4]) (X K 0 []) k) ?_ ?_ ?_<;>intros<;>kernel_rfl
def bSb (r:K1 β)(k:K0 β):=cEt h B E (fun S E B h=>aQl C L r k L S E B h)
def bOf (k:K1 β):=k (.bool false) h
def bJm (k:K1 β):=cEu h B E (fun E B h=>bSb C L h B E k (fun h=>bOf h k))
def bYw:execK prog C L 3 25 [4] (gB Tryz.f76.body 1) [4] [] (r2 0 1 B E) h K=bJm C L h B E (R K [4]):=by unfold bJm;refine(y 1 [1,0] ?_ (w2 fun E B h=>(q [] (fun k=>(by unfold bSb;refine(y 1 [5,1,0] ?_ (w3 fun S E B h=>(bk 0 (lp (c3 (bWg C L _ L) S E B h) ?_) ?_)) ?_)<;>intros<;>kernel_rfl)) ?_ ?_)) ?_)<;>intros<;>kernel_rfl
def F76 (C:CF)(L:Nat)(B E:V)(h:H):=bJm C L h B E rS
def cBz (L:Nat)(B E:V)(h:H){r:V×H}(q:D 76 [B,E] h=none):=(ti q Tryz.func76 (bYw _ L h _ B E) (by kernel_rfl):Fe D (F76 · L B E h) 76 [B,E] h r)
def bJl (a:K1 β):=bnd (A.zH B) fun c=>bI .gtr 3 c (iN 0)
 (aD (C 95 [B] h) fun j k=>iK j
 (aD (C 94 [B] k) fun p q=>aF p fun r=>a (.bool r) q)
 (a (.bool false) k))
 (a (.bool false) h)
def bYv:execK prog C L 3 14 [2] (gB Tryz.f77.body 1) [2] [] (r1 0 B) h K=bJl C h B (R K [2]):=by kernel_rfl
def F77 (C:CF)(L:Nat)(B:V)(h:H):=bJl C h B rS
def cBy (L:Nat)(B:V)(h:H){r:V×H}(q:D 77 [B] h=none):=(ti q Tryz.func77 (bYv _ L h _ B) (by kernel_rfl):Fe D (F77 · L B h) 77 [B] h r)
def bAx (k:K2 β):=k B E h
def aVw (k:K3 β):=aD (C 75 [B] h) fun b c=>aF b fun d=>iK (.bool !d)
 (k (.bool true) B E c)
 (aD (C 75 [E] c) fun n o=>aF n fun p=>iK (.bool !p)
 (k (.bool true) B E o)
 (aD (C 96 [B] o) fun w y=>iK w
 (bnd (A.zD E (iN 0)) fun c1=>bB .eql 5 c1 (iU 36) fun e=>k (.bool e) B E y)
 (k (.bool false) B E y)))
def bAw (r:K1 β)(k:K2 β):=aP xi (r (.bool false) h) (k B E h)
def bDg (r:K1 β)(k:K2 β):=aVw C h B E (fun xi B E h=>bAw h B E xi r k)
def cEs (k:K2 β):=aD (C 93 [B] h) fun b c=>aD (C 93 [E] c) fun f i=>k b f i
def cEr (k:K3 β):=k (iN 0) S W h
def aMj (k:K2 β)(n:K3 β):=bnd (A.zE S) fun c=>bI .lss 3 I c
 (n I S W h)
 (k S W h)
def aRl (r:K1 β)(k:K3 β):=bnd (A.zB 1 S I) fun c=>bnd (A.load false 1 c h) fun d=>bI .eql 9 d (.string ⟨⟨[35]⟩⟩)
 (r (.bool true) h)
 (k I S W h)
def aVv (k:K4 β):=bnd (A.zE W) fun c=>bI .geq 3 I c
 (k (.bool true) I S W h)
 (bnd (A.zB 1 W I) fun n=>bnd (A.load false 1 n h) fun o=>bI .eql 9 o (.string ⟨⟨[35]⟩⟩)
 (k (.bool true) I S W h)
 (bnd (A.zB 1 S I) fun w=>bnd (A.load false 1 w h) fun y=>bI .neq 9 y (.string ⟨⟨[43]⟩⟩)
 (bnd (A.zB 1 S I) fun e=>bnd (A.load false 1 e h) fun f=>bnd (A.zB 1 W I) fun a=>bnd (A.load false 1 a h) fun l=>bB .neq 9 f l fun b=>k (.bool b) I S W h)
 (k (.bool false) I S W h)))
def aVu (r:K1 β)(k:K3 β):=aP xq (r (.bool false) h) (k I S W h)
def aQx (k:K1 β)(n:K3 β):=aRl h S W I k (fun I S W h=>aVv h S W I (fun xq I S W h=>aVu h S W I xq k n))
noncomputable def bAv (k:K3 β):=bnd (A.z prog .add 3 I (iN 1)) fun b=>k b S W h
def aFh (C:CF)(L:Nat){β:Type}(r:K1 β)(k:K2 β):Nat→K3 β
 |0,_,_,_,_=>none
 |n+1,I,S,W,h=>aMj h S W I k (fun I S W h=>aQx h S W I r (fun I S W h=>bAv h S W I (fun I S W h=>aFh C L r k n I S W h)))
def bXh (C:CF)(L:Nat)(K:KK β):∀n,M (fun f h=>Lw prog C L 3 74 [4] (gB Tryz.f78.body 500) [7,5,6] [(0,[5,6])] n f h K) [7,5,6]=aFh C L (R K [4]) (X K 0 [5,6]) n:=by refine lw [7,5,6] [7,5,6] (F:=fun a I S W h=>aMj h S W I (X K 0 [5,6]) (fun I S W h=>aQx h S W I (R K [4]) (fun I S W h=>bAv h S W I a))) ?_ ?_ (fun a=>w3 fun I S W h=>(y 1 [7,5,6] ?_ (w3 fun I S W h=>(q [7,5,6] (fun k=>(bk 1 ?_ ?_)) ?_ ?_)) ?_))<;>intros<;>kernel_rfl
def bTa (r:K1 β)(k:K2 β):=cEr h S W (fun I S W h=>aFh C L r k L I S W h)
def bOe (k:K1 β):=bnd (A.zE S) fun b=>bnd (A.zE W) fun d=>bB .eql 3 b d fun f=>k (.bool f) h
def aTg (k:K1 β):=bAx h B E (fun B E h=>bDg C h B E k (fun B E h=>cEs C h B E (fun S W h=>bTa C L h S W k (fun S W h=>bOe h S W k))))
def bYu:execK prog C L 3 74 [4] (gB Tryz.f78.body 1) [4] [] (r2 0 1 B E) h K=aTg C L h B E (R K [4]):=by unfold aTg;refine(y 1 [0,1] ?_ (w2 fun B E h=>(q [0,1] (fun k=>?_) (w2 fun B E h=>(y 2 [5,6] ?_ (w2 fun S W h=>(q [5,6] (fun k=>(by unfold bTa;refine(y 1 [7,5,6] ?_ (w3 fun I S W h=>(bk 0 (lp (c3 (bXh C L _ L) I S W h) ?_) ?_)) ?_)<;>intros<;>kernel_rfl)) ?_ ?_)) ?_)) ?_)) ?_)<;>intros<;>kernel_rfl
def F78 (C:CF)(L:Nat)(B E:V)(h:H):=aTg C L h B E rS
def cBx (L:Nat)(B E:V)(h:H){r:V×H}(q:D 78 [B,E] h=none):=(ti q Tryz.func78 (bYu _ L h _ B E) (by kernel_rfl):Fe D (F78 · L B E h) 78 [B,E] h r)
def cEo (k:K2 β):=aD (A.zC 1 1 Z9L [(0,1,(.string ⟨⟨[]⟩⟩))] h) fun b c=>k B b c
def cEn (k:K3 β):=k (iN 0) B J h
def bAp (k:K1 β)(n:K3 β):=bnd (A.zH B) fun c=>bI .lss 3 P c
 (n P B J h)
 (k J h)
def bNx (a n:K3 β):=bnd (A.zD B P) fun c=>bI .eql 5 c (iU 47)
 (aD (A.zC 1 1 Z9L [(0,1,(.string ⟨⟨[]⟩⟩))] h) fun i j=>aD (A.zF 1 16 J i j) fun k l=>a P B k l)
 (n P B J h)
noncomputable def cEm (n:K3 β):=bnd (A.zE J) fun c=>bnd (A.z prog .sub 3 c (iN 1)) fun d=>bnd (A.zE J) fun i=>bnd (A.z prog .sub 3 i (iN 1)) fun j=>bnd (A.zB 1 J j) fun k=>bnd (A.load false 1 k h) fun l=>bnd (A.z prog .add 3 P (iN 1)) fun p=>bnd (A.zN B (some P) (some p)) fun q=>bnd (A.z prog .add 9 l q) fun r=>bnd (A.zB 1 J d) fun s=>bnd (A.store 1 s r h) fun u=>n P B J u
def bHx (k:K3 β):=bNx h B J P k (fun P B J h=>cEm h B J P k)
noncomputable def bFf (k:K3 β):=bnd (A.z prog .add 3 P (iN 1)) fun b=>k b B J h
def aQj (C:CF)(L:Nat){β:Type}(k:K1 β):Nat→K3 β
 |0,_,_,_,_=>none
 |n+1,P,B,J,h=>bAp h B J P k (fun P B J h=>bHx h B J P (fun P B J h=>bFf h B J P (fun P B J h=>aQj C L k n P B J h)))
def bWe (C:CF)(L:Nat)(K:KK β):∀n,M (fun f h=>Lw prog C L 3 37 [2] (gB Tryz.f93.body 116) [4,0,3] [(0,[3])] n f h K) [4,0,3]=aQj C L (X K 0 [3]) n:=by refine lw [4,0,3] [4,0,3] (F:=fun a P B J h=>bAp h B J P (X K 0 [3]) (fun P B J h=>bHx h B J P (fun P B J h=>bFf h B J P a))) ?_ ?_ (fun a=>w3 fun P B J h=>(y 1 [4,0,3] ?_ (w3 fun P B J h=>(q [4,0,3] (fun k=>?_) ?_ ?_)) ?_))<;>intros<;>kernel_rfl
def bSq (k:K1 β):=cEn h B J (fun P B J h=>aQj C L k L P B J h)
def bFe (k:K1 β):=k J h
def bJj (k:K1 β):=cEo h B (fun B J h=>bSq C L h B J (fun J h=>bFe h J k))
def bYi:execK prog C L 3 37 [2] (gB Tryz.f93.body 1) [2] [] (r1 0 B) h K=bJj C L h B (R K [2]):=by unfold bJj;refine(y 2 [0,3] ?_ (w2 fun B J h=>(q [3] (fun k=>(by unfold bSq;refine(y 1 [4,0,3] ?_ (w3 fun P B J h=>(bk 0 (lp (c3 (bWe C L _ L) P B J h) ?_) ?_)) ?_)<;>intros<;>kernel_rfl)) ?_ ?_)) ?_)<;>intros<;>kernel_rfl
def F93 (C:CF)(L:Nat)(B:V)(h:H):=bJj C L h B rS
def cBm (L:Nat)(B:V)(h:H){r:V×H}(q:D 93 [B] h=none):=(ti q Tryz.func93 (bYi _ L h _ B) (by kernel_rfl):Fe D (F93 · L B h) 93 [B] h r)
def cEl (k:K1 β):=k B h
def cEk (k:K2 β):=k (iN 0) B h
def aVo (k:K0 β)(n:K2 β):=bnd (A.zH B) fun c=>bI .lss 3 J c
 (n J B h)
 (k h)
def bAo (k:K1 β)(n:K2 β):=bnd (A.zD B J) fun c=>bI .eql 5 c (iU 43)
 (k (.bool false) h)
 (bnd (A.zD B J) fun m=>bI .eql 5 m (iU 35)
 (k (.bool false) h)
 (n J B h))
noncomputable def bNw (k:K2 β):=bnd (A.z prog .add 3 J (iN 1)) fun b=>k b B h
def aMl (C:CF)(L:Nat){β:Type}(r:K1 β)(k:K0 β):Nat→K2 β
 |0,_,_,_=>none
 |n+1,J,B,h=>aVo h B J k (fun J B h=>bAo h B J r (fun J B h=>bNw h B J (fun J B h=>aMl C L r k n J B h)))
def bWr (C:CF)(L:Nat)(K:KK β):∀n,M (fun f h=>Lw prog C L 3 20 [2] (gB Tryz.f94.body 52) [3,0] [(0,[])] n f h K) [3,0]=aMl C L (R K [2]) (X K 0 []) n:=by refine lw [3,0] [3,0] (F:=fun a J B h=>aVo h B J (X K 0 []) (fun J B h=>bAo h B J (R K [2]) (fun J B h=>bNw h B J a))) ?_ ?_ (fun a=>w2 fun J B h=>(y 1 [3,0] ?_ (w2 fun J B h=>(q [3,0] (fun k=>(bk 1 ?_ ?_)) ?_ ?_)) ?_))<;>intros<;>kernel_rfl
def bSm (r:K1 β)(k:K0 β):=cEk h B (fun J B h=>aMl C L r k L J B h)
def bNv (k:K1 β):=k (.bool true) h
def bJi (k:K1 β):=cEl h B (fun B h=>bSm C L h B k (fun h=>bNv h k))
def bYh:execK prog C L 3 20 [2] (gB Tryz.f94.body 1) [2] [] (r1 0 B) h K=bJi C L h B (R K [2]):=by unfold bJi;refine(y 1 [0] ?_ (w1 fun B h=>(q [] (fun k=>(by unfold bSm;refine(y 1 [3,0] ?_ (w2 fun J B h=>(bk 0 (lp (c2 (bWr C L _ L) J B h) ?_) ?_)) ?_)<;>intros<;>kernel_rfl)) ?_ ?_)) ?_)<;>intros<;>kernel_rfl
def F94 (C:CF)(L:Nat)(B:V)(h:H):=bJi C L h B rS
def cBl (L:Nat)(B:V)(h:H){r:V×H}(q:D 94 [B] h=none):=(ti q Tryz.func94 (bYh _ L h _ B) (by kernel_rfl):Fe D (F94 · L B h) 94 [B] h r)
def bTg (k:K1 β):=aD (C 117 [B] h) fun c d=>bB .geq 3 c (iN 0) fun f=>k (.bool f) d
def bYg:execK prog C L 3 6 [2] (gB Tryz.f95.body 1) [2] [] (r1 0 B) h K=bTg C h B (R K [2]):=by kernel_rfl
def F95 (C:CF)(L:Nat)(B:V)(h:H):=bTg C h B rS
def cBk (L:Nat)(B:V)(h:H){r:V×H}(q:D 95 [B] h=none):=(ti q Tryz.func95 (bYg _ L h _ B) (by kernel_rfl):Fe D (F95 · L B h) 95 [B] h r)
def bJh (k:K1 β):=aD (C 93 [B] h) fun c d=>bnd (A.zB 1 c (iN 0)) fun e=>bnd (A.load false 1 e d) fun f=>bI .eql 9 f (.string ⟨⟨[43]⟩⟩)
 (k (.bool true) d)
 (bB .eql 9 f (.string ⟨⟨[35]⟩⟩) fun r=>k (.bool r) d)
def bYf:execK prog C L 3 14 [2] (gB Tryz.f96.body 1) [2] [] (r1 0 B) h K=bJh C h B (R K [2]):=by kernel_rfl
def F96 (C:CF)(L:Nat)(B:V)(h:H):=bJh C h B rS
def cBj (L:Nat)(B:V)(h:H){r:V×H}(q:D 96 [B] h=none):=(ti q Tryz.func96 (bYf _ L h _ B) (by kernel_rfl):Fe D (F96 · L B h) 96 [B] h r)
def bHo (r:K1 β)(k:K2 β):=bnd (A.zH B) fun c=>bI .gtr 3 c (iN 65535)
 (r (iN (-1)) h)
 (k B (iN 0) h)
def bRh (k:K3 β):=k (iN 0) B J h
def bCy (r a:K1 β)(d:K3 β):=bnd (A.zH B) fun c=>bI .lss 3 P c
 (bnd (A.zN B (some P) none) fun j=>aD (C 131 [j] h) fun k l=>bnd (A.u 0 k) fun n=>bnd (A.u 1 k) fun o=>bI .eql 3 o (iN 0)
 (r (iN (-1)) l)
 (bnd (A.z prog .add 3 P o) fun y=>bnd (A.z prog .add 3 J (iN 1)) fun b=>d y B b l))
 (a J h)
def aSt (C:CF)(L:Nat){β:Type}(r k:K1 β):Nat→K3 β
 |0,_,_,_,_=>none
 |n+1,P,B,J,h=>bCy C h B J P r k (fun P B J h=>aSt C L r k n P B J h)
def bWd (C:CF)(L:Nat)(K:KK β):∀n,M (fun f h=>Lw prog C L 3 29 [2] (gB Tryz.f117.body 244) [4,0,3] [(0,[3])] n f h K) [4,0,3]=aSt C L (R K [2]) (X K 0 [3]) n:=by refine lw [4,0,3] [4,0,3] (F:=fun k P B J h=>bCy C h B J P (R K [2]) (X K 0 [3]) k) ?_ ?_ ?_<;>intros<;>kernel_rfl
def bIh (r k:K1 β):=bRh h B J (fun P B J h=>aSt C L r k L P B J h)
def bRg (k:K1 β):=k J h
def aGf (k:K1 β):=bHo h B k (fun B J h=>bIh C L h B J k (fun J h=>bRg h J k))
def bMf:execK prog C L 3 29 [2] (gB Tryz.f117.body 1) [2] [] (r1 0 B) h K=aGf C L h B (R K [2]):=by unfold aGf;refine(y 3 [0,3] ?_ (w2 fun B J h=>(q [3] (fun k=>(by unfold bIh;refine(y 1 [4,0,3] ?_ (w3 fun P B J h=>(bk 0 (lp (c3 (bWd C L _ L) P B J h) ?_) ?_)) ?_)<;>intros<;>kernel_rfl)) ?_ ?_)) ?_)<;>intros<;>kernel_rfl
def bKq (C:CF)(L:Nat)(B:V)(h:H):=aGf C L h B rS
def bNh (L:Nat)(B:V)(h:H){r:V×H}(q:D 117 [B] h=none):=(ti q Tryz.func117 (bMf _ L h _ B) (by kernel_rfl):Fe D (bKq · L B h) 117 [B] h r)
def bCs (k n:K2 β):=bnd (A.zD B (iN 0)) fun d=>aD (C 143 [d] h) fun e f=>bI .eql 3 e (iN 0)
 (k (iN 0) (iN 0) f)
 (bnd (A.zH B) fun s=>bI .gtr 3 e s
 (k (iN 0) (iN 0) f)
 (n B e f))
def bRd (a:K3 β):=bnd (A.zD B (iN 0)) fun b=>bnd (A.conv prog 5 3 b) fun c=>bI .gtr 3 P (iN 1)
 (aD (A.zC 1 5 Z3L [(0,1,(iN 0)),(1,1,(iN 0)),(2,1,(iN 192)),(3,1,(iN 224)),(4,1,(iN 240))] h) fun k l=>bnd (A.zB 1 k P) fun n=>bnd (A.load false 1 n l) fun o=>bnd (A.z prog .sub 3 c o) fun p=>a B p P l)
 (a B c P h)
def cIr (k:K4 β):=k (iN 1) B S P h
def aXb (k:K2 β)(n:K4 β):=bI .lss 3 W P
 (n S W B P h)
 (k S P h)
def bCr (k:K2 β)(d:K4 β):=bnd (A.zD B W) fun c=>bI .lss 5 c (iU 128)
 (k (iN 0) (iN 0) h)
 (bnd (A.zD B W) fun n=>bI .gtr 5 n (iU 191)
 (k (iN 0) (iN 0) h)
 (bnd (A.z prog .mul 3 (iN 64) S) fun u=>bnd (A.zD B W) fun y=>bnd (A.conv prog 5 3 y) fun z=>bnd (A.z prog .add 3 u z) fun a=>bnd (A.z prog .sub 3 a (iN 128)) fun b=>d W B b P h))
noncomputable def bRc (k:K4 β):=bnd (A.z prog .add 3 W (iN 1)) fun b=>k b B S P h
def aMt (C:CF)(L:Nat){β:Type}(r k:K2 β):Nat→K4 β
 |0,_,_,_,_,_=>none
 |n+1,W,B,S,P,h=>aXb h B P S W k (fun S W B P h=>bCr h B P S W r (fun W B S P h=>bRc h B P S W (fun W B S P h=>aMt C L r k n W B S P h)))
def bWz (C:CF)(L:Nat)(K:KK β):∀n,M (fun f h=>Lw prog C L 3 70 [2,3] (gB Tryz.f131.body 1012) [6,0,5,4] [(0,[5,4])] n f h K) [6,0,5,4]=aMt C L (R K [2,3]) (X K 0 [5,4]) n:=by refine lw [6,0,5,4] [6,0,5,4] (F:=fun a W B S P h=>aXb h B P S W (X K 0 [5,4]) (fun S W B P h=>bCr h B P S W (R K [2,3]) (fun W B S P h=>bRc h B P S W a))) ?_ ?_ (fun a=>w4 fun W B S P h=>(y 1 [5,6,0,4] ?_ (w4 fun S W B P h=>(q [6,0,5,4] (fun k=>(bk 1 ?_ ?_)) ?_ ?_)) ?_))<;>intros<;>kernel_rfl
def bIr (r k:K2 β):=cIr h B P S (fun W B S P h=>aMt C L r k L W B S P h)
def aXa (k:K3 β):=aD (C 144 [P] h) fun c d=>bI .lss 3 S c
 (k (.bool true) S P d)
 (bI .gtr 3 S (iN 1114111)
 (k (.bool true) S P d)
 (bI .geq 3 S (iN 55296)
 (bB .leq 3 S (iN 57343) fun z=>k (.bool z) S P d)
 (k (.bool false) S P d)))
def aWz (r k:K2 β):=aP xp (r (iN 0) (iN 0) h) (k S P h)
def aMw (r k:K2 β):=aXa C h P S (fun xp S P h=>aWz h P S xp r k)
def aWy (k:K2 β):=k S P h
def aEj (k:K2 β):=bCs C h B k (fun B P h=>bRd h B P (fun B S P h=>bIr C L h B P S k (fun S P h=>aMw C h P S k (fun S P h=>aWy h P S k))))
def bMa:execK prog C L 3 70 [2,3] (gB Tryz.f131.body 1) [2,3] [] (r1 0 B) h K=aEj C L h B (R K [2,3]):=by unfold aEj;refine(y 3 [0,4] ?_ (w2 fun B P h=>(y 2 [0,5,4] ?_ (w3 fun B S P h=>(q [5,4] (fun k=>(by unfold bIr;refine(y 1 [6,0,5,4] ?_ (w4 fun W B S P h=>(bk 0 (lp (c4 (bWz C L _ L) W B S P h) ?_) ?_)) ?_)<;>intros<;>kernel_rfl)) (w2 fun S P h=>(q [5,4] (fun k=>?_) ?_ ?_)) ?_)) ?_)) ?_)<;>intros<;>kernel_rfl
def bEj (C:CF)(L:Nat)(B:V)(h:H):O (V×H):=aEj C L h B (fun G J h=>some (.tuple ⟨[G,J]⟩,h))
def bNd (L:Nat)(B:V)(h:H){r:V×H}(q:D 131 [B] h=none):=(ti q Tryz.func131 (bMa _ L h _ B) (by kernel_rfl):Fe D (bEj · L B h) 131 [B] h r)
def aSf (k:K1 β):=k B h
def aSe (k:K2 β):=bB .lss 5 B (iU 128) fun c=>k (.bool c) B h
def cId (k:K1 β):=k (iN 1) h
def aWx (k:K2 β):=bI .geq 5 B (iU 192)
 (bB .lss 5 B (iU 224) fun i=>k (.bool i) B h)
 (k (.bool false) B h)
def cIe (k:K1 β):=k (iN 2) h
def bCq (k:K2 β):=bI .geq 5 B (iU 224)
 (bB .lss 5 B (iU 240) fun i=>k (.bool i) B h)
 (k (.bool false) B h)
def cIf (k:K1 β):=k (iN 3) h
def bHj (r:K1 β)(k:K0 β):=bI .geq 5 B (iU 240)
 (bI .lss 5 B (iU 248)
 (r (iN 4) h)
 (k h))
 (k h)
def aTd (k:K1 β)(n:K0 β):=aSe h B (fun J B h=>aP J (cId h k) (aWx h B (fun W B h=>aP W (cIe h k) (bCq h B (fun Q B h=>aP Q (cIf h k) (bHj h B k n))))))
def bQw (k:K1 β):=k (iN 0) h
def xX (k:K1 β):=aSf h B (fun B h=>aTd h B k (fun h=>bQw h k))
def bLt:execK prog C L 3 27 [2] (gB Tryz.f143.body 1) [2] [] (r1 0 B) h K=xX h B (R K [2]):=by unfold xX;refine(y 1 [0] ?_ (w1 fun B h=>(q [] (fun k=>(bk 0 ?_ ?_)) ?_ ?_)) ?_)<;>intros<;>kernel_rfl
def aTn (C:CF)(L:Nat)(B:V)(h:H):=xX h B rS
def bMw (L:Nat)(B:V)(h:H){r:V×H}(q:D 143 [B] h=none):=(ti q Tryz.func143 (bLt _ L h _ B) (by kernel_rfl):Fe D (aTn · L B h) 143 [B] h r)
def aYg (k:K1 β):=aD (A.zC 1 5 Z3L [(0,1,(iN 0)),(1,1,(iN 1)),(2,1,(iN 128)),(3,1,(iN 2048)),(4,1,(iN 65536))] h) fun b c=>bnd (A.zB 1 b B) fun e=>bnd (A.load false 1 e c) fun f=>k f c
def bLs:execK prog C L 3 7 [2] (gB Tryz.f144.body 1) [2] [] (r1 0 B) h K=aYg h B (R K [2]):=by kernel_rfl
def cKg (C:CF)(L:Nat)(B:V)(h:H):=aYg h B rS
def bMv (L:Nat)(B:V)(h:H){r:V×H}(q:D 144 [B] h=none):=(ti q Tryz.func144 (bLs _ L h _ B) (by kernel_rfl):Fe D (cKg · L B h) 144 [B] h r)
end
end Go.Proofs.YtbmdhjdgpeleoaaGreatDoor.TaV
