import Derived.Test.YtbmdhjdgpeleoaaGreatDoorProg
import Derived.Test.YtbmdhjdgpeleoaaGreatDoorGq
import Derived.Test.YtbmdhjdgpeleoaaGreatDoorTaK
set_option linter.unusedVariables false
set_option linter.defProp false
set_option maxRecDepth 100000
namespace Go.Proofs.YtbmdhjdgpeleoaaGreatDoor.TaW
open Tryz (prog)
open Go.AM.Pk hiding y Q q lw s0 bk sc cd lp exS yT Lw tq
open Go Go.AM TaZ TaK Go.AM.Pw
noncomputable section
def Z57L:kC V:=[(.string ⟨⟨[]⟩⟩),(iU 0)]
def Z57:V:=.agg ⟨Z57L⟩
def Z111L:kC V:=[(.string ⟨⟨[]⟩⟩),(.string ⟨⟨[]⟩⟩)]
def Z111:V:=.agg ⟨Z111L⟩
def Z63:V:=(.pointer none)
def Z30L:kC V:=[(.string ⟨⟨[]⟩⟩),(.string ⟨⟨[]⟩⟩),(iU 0),(.bool false)]
def Z30:V:=.agg ⟨Z30L⟩
def Z90:V:=(.slice none 0 0)
def Z65:V:=(.pointer none)
def Z103L:kC V:=[]
def Z103:V:=.agg ⟨Z103L⟩
def Z105L:kC V:=[(.string ⟨⟨[]⟩⟩),(.string ⟨⟨[]⟩⟩),(.string ⟨⟨[]⟩⟩),(iU 0),(.bool false),(iN 0),(.bool false),(.map none),(.map none)]
def Z47L:kC V:=[(.pointer none),(.map none),(.map none),(iN 0)]
def Z35L:kC V:=[(iU 0),(iN 0),(iN 0),(.string ⟨⟨[]⟩⟩),(iU 0),(.bool false),(iU 0),(.bool false),(.int .u16 0),(.string ⟨⟨[]⟩⟩),(.string ⟨⟨[]⟩⟩),(iU 0),(.bool false),(.int .u16 0),(.string ⟨⟨[]⟩⟩),(.bool false),(.string ⟨⟨[]⟩⟩),(.string ⟨⟨[]⟩⟩),(iU 0),(.bool false),(.bool false),(.bool false),(.string ⟨⟨[]⟩⟩),(.string ⟨⟨[]⟩⟩),(.bool false),(iU 0),(.slice none 0 0),(.string ⟨⟨[]⟩⟩),(.string ⟨⟨[]⟩⟩),(.string ⟨⟨[]⟩⟩),(iU 0),(.bool false),(.string ⟨⟨[]⟩⟩),(.bool false),(iU 0)]
def Z35:V:=.agg ⟨Z35L⟩
variable (C:CF)(L:Nat)(dm:Dm)(rl:Rl)(h:H)(K:KK Unit)(B G D J E U x7 S x9 xm xl I xj P xf xk Y xo xe g xp xq x xb W xr xs xt xu xv Z xh xi xg xn:V)
def cFh (r:K1 Unit)(k:K2 Unit):=bI .eql 42 B (.pointer none)
 (r (.slice none 0 0) h)
 (k B (.slice none 0 0) h)
def cFg (k:K2 Unit):=nl 0 1 B h fun d=>aD (A.zX d h) fun e f=>k e D f
def bOs (k:K1 Unit)(n:K2 Unit):=aKi (A.b P h) fun a b=>bnd (A.u 0 a) fun c=>iK c
 (n P D b)
 (k D b)
def bOr (d:K6 Unit):=bnd (A.zT P h) fun a=>bnd (A.u 0 a) fun b=>bnd (A.u 1 a) fun c=>nl 0 1 c h fun k=>aD (C 67 [k] h) fun l m=>bnd (A.zE l) fun n=>d n (iN 0) b l P D m
noncomputable def bFu (k:K2 Unit)(f:K6 Unit):=bnd (A.z prog .lss 3 Y xk) fun a=>aP a (bnd (A.zB 2 xf Y) fun b=>bnd (A.load true 2 b h) fun c=>aD (A.box 2 Z57 h) fun d e=>bnd (A.store 2 d c e) fun i=>lf 0 1 d i fun l=>bnd (A.zI Z111L [(0,1,l),(1,1,J)]) fun n=>aD (A.zC 2 1 Z111L [(0,2,n)] i) fun o p=>aD (A.zF 2 32 D o p) fun q r=>bnd (A.z prog .add 3 Y (iN 1)) fun t=>f xk t J xf P q r) (k P D h)
def aSh (C:CF)(L:Nat)(dm:Dm)(rl:Rl)(k:K2 Unit):Nat→K6 Unit
 |0,_,_,_,_,_,_,_=>none
 |n+1,xk,Y,J,xf,P,D,h=>bFu h D J P xf xk Y k (fun xk Y J xf P D h=>aSh C L dm rl k n xk Y J xf P D h)
def bVr (C:CF)(L:Nat)(dm:Dm)(rl:Rl)(K:KK Unit):∀n,M (fun f h=>Lw (rgP prog C 3 41 isR dm rl) L 3 [2] (gB Tryz.f48.body 31340) [25,26,4,24,14,3] [(2,[14,3]),(1,[14,3]),(0,[3])] n f h K) [25,26,4,24,14,3]=aSh C L dm rl (X K 2 [14,3]) n:=by refine lw [25,26,4,24,14,3] [25,26,4,24,14,3] (F:=fun k xk Y J xf P D h=>bFu h D J P xf xk Y (X K 2 [14,3]) k) ?_ ?_ ?_<;>intros<;>kernel_rfl
def aXh (C:CF)(L:Nat)(dm:Dm)(rl:Rl)(k:K1 Unit):Nat→K2 Unit
 |0,_,_,_=>none
 |n+1,P,D,h=>bOs h D P k (fun P D h=>bOr C h D P (fun xk Y J xf P D h=>aSh C L dm rl (fun P D h=>aXh C L dm rl k n P D h) L xk Y J xf P D h))
def bVk (C:CF)(L:Nat)(dm:Dm)(rl:Rl)(K:KK Unit):∀n,M (fun f h=>Lw (rgP prog C 3 41 isR dm rl) L 3 [2] (gB Tryz.f48.body 244) [14,3] [(0,[3])] n f h K) [14,3]=aXh C L dm rl (X K 0 [3]) n:=by refine lw [14,3] [14,3] (F:=fun k P D h=>bOs h D P (X K 0 [3]) (fun P D h=>bOr C h D P (fun xk Y J xf P D h=>aSh C L dm rl k L xk Y J xf P D h))) ?_ ?_ (fun k=>w2 fun P D h=>(y 2 [14,3] ?_ (w2 fun P D h=>(bk 1 (y 2 [25,26,4,24,14,3] ?_ (w6 fun xk Y J xf P D h=>(bk 2 (lp (c6 (bVr C L dm rl _ L) xk Y J xf P D h) ?_) ?_)) ?_) ?_)) ?_))<;>intros<;>kernel_rfl
def bIs (k:K1 Unit):=cFg h B D (fun P D h=>aXh C L dm rl k L P D h)
def bXx:bG (rgP prog C 3 41 isR dm rl) L 3 [2] (gB Tryz.f48.body 30) [3] [] (r2 0 3 B D) h K=bIs C L dm rl h B D (N K [3]):=by unfold bIs;refine(y 1 [14,3] ?_ (w2 fun P D h=>(bk 0 (lp (c2 (bVk C L dm rl _ L) P D h) ?_) ?_)) ?_)<;>intros<;>kernel_rfl
def bFt (k:K1 Unit):=aD (C 68 [D,(.func (.func 69) ⟨[]⟩ ⟨[]⟩)] h) fun b c=>k D c
def bJw (k:K1 Unit):=cFh h B k (fun B D h=>bIs C L dm rl h B D (fun D h=>bFt C h D k))
def bZu:bG (rgP prog C 3 41 isR dm rl) L 3 [2] (gB Tryz.f48.body 1) [2] [] (r1 0 B) h K=bJw C L dm rl h B (R K [2]):=by unfold bJw;refine(y 3 [0,3] ?_ (w2 fun B D h=>(q [3] (fun k=>(bXx C L dm rl h _ B D)) ?_ ?_)) ?_)<;>intros<;>kernel_rfl
def F48 (C:CF)(L:Nat)(dm:Dm)(rl:Rl)(Z:V→H→O Unit)(B:V)(h:H):O Unit:=bJw C L dm rl h B (fun a h=>Z a h)
def cNw {C:CF}{L:Nat}{dm:Dm}{rl:Rl}(o:RelOK prog 3 isR dm rl){X:V→H→Prop}(B:V)(h:H):=(tw o Tryz.func48 (bZu C L dm rl h _ B) (by kernel_rfl) (by kernel_rfl):F48 C L dm rl (fun v h=>okU (X v h)) B h=some ()→fK prog C isR dm rl L 3 48 [B] h X)
def bQb (c:K4 Unit):=aD (A.box 35 G h) fun a b=>nl 0 1 B b fun i=>bnd (A.load true 35 a b) fun j=>aD (C 44 [i,j] b) fun k l=>bnd (A.u 0 k) fun n=>bnd (A.u 1 k) fun o=>aF o fun p=>bnd (A.u 2 k) fun q=>aF q fun r=>c (.bool r) B a n l
def bQa (r:K1 Unit)(k:K3 Unit):=aF x7 fun b=>iK (.bool !b)
 (r (.bool false) h)
 (k B D E h)
def cGr (k:K4 Unit):=nl 1 1 B h fun d=>aD (A.zX d h) fun e f=>k e B D E f
def bPz (k:K3 Unit)(n:K4 Unit):=aKi (A.b g h) fun a b=>bnd (A.u 0 a) fun c=>iK c
 (n g B D E b)
 (k B D E b)
def bGs (k:K5 Unit):=bnd (A.zT g h) fun a=>bnd (A.u 1 a) fun b=>k b g B D E h
def bGr (a:K6 Unit):=nl 0 1 B h fun d=>lf 3 1 D h fun f=>nf 1 x9 fun k=>lf 0 1 k h fun m=>aD (C 45 [d,f,m] h) fun n o=>bnd (A.u 0 n) fun q=>bnd (A.u 1 n) fun r=>aF r fun s=>a (.bool s) x9 g B D E o
def bGq (k:K4 Unit):=aF xl fun b=>iK (.bool !b)
 (nl 7 1 x9 h fun j=>lf 3 1 D h fun l=>bnd (A.zY true l j h) fun n=>k g B D E n)
 (k g B D E h)
def aXj (C:CF)(L:Nat)(dm:Dm)(rl:Rl)(k:K3 Unit):Nat→K4 Unit
 |0,_,_,_,_,_=>none
 |n+1,g,B,D,E,h=>bPz h B D E g k (fun g B D E h=>bGs h B D E g (fun x9 g B D E h=>bGr C h B D E x9 g (fun xl x9 g B D E h=>bGq h B D E x9 xl g (fun g B D E h=>aXj C L dm rl k n g B D E h))))
def bVm (C:CF)(L:Nat)(dm:Dm)(rl:Rl)(K:KK Unit):∀n,M (fun f h=>Lw (rgP prog C 3 118 isR dm rl) L 3 [4] (gB Tryz.f25.body 244) [31,0,3,5] [(0,[0,3,5])] n f h K) [31,0,3,5]=aXj C L dm rl (X K 0 [0,3,5]) n:=by refine lw [31,0,3,5] [31,0,3,5] (F:=fun k g B D E h=>bPz h B D E g (X K 0 [0,3,5]) (fun g B D E h=>bGs h B D E g (fun x9 g B D E h=>bGr C h B D E x9 g (fun xl x9 g B D E h=>bGq h B D E x9 xl g k)))) ?_ ?_ (fun k=>w4 fun g B D E h=>(y 2 [31,0,3,5] ?_ (w4 fun g B D E h=>(bk 1 (y 1 [9,31,0,3,5] ?_ (w5 fun x9 g B D E h=>(y 1 [11,9,31,0,3,5] ?_ ?_ ?_)) ?_) ?_)) ?_))<;>intros<;>kernel_rfl
def bIq (k:K3 Unit):=cGr h B D E (fun g B D E h=>aXj C L dm rl k L g B D E h)
def bXw:bG (rgP prog C 3 118 isR dm rl) L 3 [4] (gB Tryz.f25.body 30) [0,3,5] [] (r3 0 3 5 B D E) h K=bIq C L dm rl h B D E (N K [0,3,5]):=by unfold bIq;refine(y 1 [31,0,3,5] ?_ (w4 fun g B D E h=>(bk 0 (lp (c4 (bVm C L dm rl _ L) g B D E h) ?_) ?_)) ?_)<;>intros<;>kernel_rfl
def bGp (r:K1 Unit)(k:K4 Unit):=bnd (A.zA 4 D) fun a=>lf 0 1 a h fun c=>bI .neq 5 c (iU 8)
 (r (.bool true) h)
 (nl 2 1 B h fun l=>lf 1 1 D h fun n=>bnd (A.zJ false Z63 false n l h) fun o=>k B D o E h)
def bPy (k:K3 Unit):=bI .eql 63 I (.pointer none)
 (lf 1 1 D h fun f=>aD (C 24 [B,f] h) fun i j=>k D i E j)
 (k D I E h)
def bGo (a:K1 Unit)(n:K3 Unit):=nl 1 1 I h fun d=>iK d
 (a (.bool true) h)
 (nf 1 I fun k=>bnd (A.store 1 k (.bool true) h) fun m=>nf 2 I fun p=>bnd (A.store 1 p (.bool true) m) fun r=>lf 3 1 D r fun u=>nf 0 I fun w=>bnd (A.store 1 w u r) fun z=>aD (C 46 [] z) fun b c1=>nf 3 I fun e=>bnd (A.store 1 e b c1) fun i=>n D I E i)
def cGq (k:K5 Unit):=bnd (A.zA 4 D) fun a=>lf 22 1 a h fun c=>bnd (A.zE c) fun d=>k d (iN 0) I E c h
noncomputable def bCb (k:K0 Unit)(n:K5 Unit):=bnd (A.z prog .lss 3 xg xi) fun a=>aP a (n xg xi I E xh h) (k h)
def bGn (k:K5 Unit):=bnd (A.zB 2 xh xg) fun b=>bnd (A.load true 2 b h) fun c=>aD (A.box 2 Z57 h) fun d e=>bnd (A.store 2 d c e) fun j=>bnd (A.zD E xg) fun m=>bI .lss 5 m (iU 128)
 (nl 3 1 I j fun s=>lf 0 1 d j fun u=>lf 1 1 d j fun w=>aD (C 47 [s,u,w] j) fun y z=>k xg xi I E xh z)
 (k xg xi I E xh j)
noncomputable def bGm (k:K5 Unit):=bnd (A.z prog .add 3 xg (iN 1)) fun a=>k xi a I E xh h
def aQs (C:CF)(L:Nat)(dm:Dm)(rl:Rl)(k:K0 Unit):Nat→K5 Unit
 |0,_,_,_,_,_,_=>none
 |n+1,xi,xg,I,E,xh,h=>bCb h E I xh xi xg k (fun xg xi I E xh h=>bGn C h E I xh xi xg (fun xg xi I E xh h=>bGm h E I xh xi xg (fun xi xg I E xh h=>aQs C L dm rl k n xi xg I E xh h)))
def bWn (C:CF)(L:Nat)(dm:Dm)(rl:Rl)(K:KK Unit):∀n,M (fun f h=>Lw (rgP prog C 3 118 isR dm rl) L 3 [4] (gB Tryz.f25.body 131060) [98,99,12,5,97] [(2,[])] n f h K) [98,99,12,5,97]=aQs C L dm rl (X K 2 []) n:=by refine lw [98,99,12,5,97] [98,99,12,5,97] (F:=fun k xi xg I E xh h=>bCb h E I xh xi xg (X K 2 []) (fun xg xi I E xh h=>bGn C h E I xh xi xg (fun xg xi I E xh h=>bGm h E I xh xi xg k))) ?_ ?_ (fun k=>w5 fun xi xg I E xh h=>(y 2 [99,98,12,5,97] ?_ (w5 fun xg xi I E xh h=>(y 1 [99,98,12,5,97] ?_ ?_ ?_)) ?_))<;>intros<;>kernel_rfl
def bDl (k:K0 Unit):=cGq h D E I (fun xi xg I E xh h=>aQs C L dm rl k L xi xg I E xh h)
def bXv:bG (rgP prog C 3 118 isR dm rl) L 3 [4] (gB Tryz.f25.body 16382) [] [] (r3 3 12 5 D I E) h K=bDl C L dm rl h D E I (N K []):=by unfold bDl;refine(y 1 [98,99,12,5,97] ?_ (w5 fun xi xg I E xh h=>(bk 2 (lp (c5 (bWn C L dm rl _ L) xi xg I E xh h) ?_) ?_)) ?_)<;>intros<;>kernel_rfl
def bCa (k:K1 Unit):=k (.bool true) h
def bEb (k:K1 Unit):=bQb C h B G (fun x7 B D E h=>bQa h B D E x7 k (fun B D E h=>bIq C L dm rl h B D E (fun B D E h=>bGp h B D E k (fun B D I E h=>bPy C h B D E I (fun D I E h=>bGo C h D E I k (fun D I E h=>bDl C L dm rl h D E I (fun h=>bCa h k)))))))
def cAr:bG (rgP prog C 3 118 isR dm rl) L 3 [4] (gB Tryz.f25.body 1) [4] [] (r2 0 1 B G) h K=bEb C L dm rl h B G (R K [4]):=by unfold bEb;refine(y 2 [7,0,3,5] ?_ (w4 fun x7 B D E h=>(y 1 [0,3,5] ?_ (w3 fun B D E h=>(q [0,3,5] (fun k=>(bXw C L dm rl h _ B D E)) (w3 fun B D E h=>(y 2 [0,3,12,5] ?_ (w4 fun B D I E h=>(y 1 [3,12,5] ?_ (w3 fun D I E h=>(y 5 [3,12,5] ?_ (w3 fun D I E h=>(q [] (fun k=>(bXv C L dm rl h _ D E I)) ?_ ?_)) ?_)) ?_)) ?_)) ?_)) ?_)) ?_)<;>intros<;>kernel_rfl
def F25 (C:CF)(L:Nat)(dm:Dm)(rl:Rl)(Z:V→H→O Unit)(B G:V)(h:H):O Unit:=bEb C L dm rl h B G (fun J h=>Z J h)
def cKd {C:CF}{L:Nat}{dm:Dm}{rl:Rl}(o:RelOK prog 3 isR dm rl){X:V→H→Prop}(B G:V)(h:H):=(tw o Tryz.func25 (cAr C L dm rl h _ B G) (by kernel_rfl) (by kernel_rfl):F25 C L dm rl (fun v h=>okU (X v h)) B G h=some ()→fK prog C isR dm rl L 3 25 [B,G] h X)
def bPx (k:K2 Unit):=aD (A.box 35 G h) fun a b=>k a B b
def bPw (r:K1 Unit)(a:K2 Unit):=nl 0 1 B h fun d=>bnd (A.load true 35 D h) fun e=>aD (C 44 [d,e] h) fun f i=>bnd (A.u 0 f) fun k=>bnd (A.u 1 f) fun l=>aF l fun m=>bnd (A.u 2 f) fun n=>aF n fun o=>iK (.bool !o)
 (r (.bool false) i)
 (a D B i)
def cGp (n:K2 Unit):=lg 28 4 D h fun b=>aD (A.box 4 Z30 h) fun c d=>bnd (A.store 4 c b d) fun f=>bnd (A.zA 3 c) fun i=>bnd (A.store 1 i (.bool true) f) fun k=>n B c k
def cGo (k:K2 Unit):=nl 2 1 B h fun d=>aD (A.zX d h) fun e f=>k S e f
def bPv (k:K0 Unit)(n:K2 Unit):=aKi (A.b xe h) fun a b=>bnd (A.u 0 a) fun c=>iK c
 (n S xe b)
 (k b)
def bGl (k:K2 Unit)(c:K3 Unit):=bnd (A.zT xe h) fun a=>bnd (A.u 1 a) fun b=>nl 1 1 b h fun i=>iK i
 (k S xe h)
 (nl 5 1 b h fun n=>lf 0 1 S h fun p=>bnd (A.zY true p n h) fun r=>c b S xe r)
def bBz (n:K2 Unit):=lf 1 1 S h fun b=>bI .neq 9 b (.string ⟨⟨[]⟩⟩)
 (nf 4 xm fun i=>bnd (A.load false 1 i h) fun j=>bnd (A.zA 0 S) fun k=>bnd (A.load false 1 k h) fun l=>nl 4 1 xm h fun p=>lf 0 1 S h fun r=>bnd (A.zJ true Z90 false r p h) fun s=>bnd (A.load true 4 S h) fun t=>aD (A.zC 4 1 Z30L [(0,4,t)] h) fun u v=>aD (A.zF 4 40 s u v) fun w y=>bif (chk (bnd (A.load false 1 k y) fun v=>some v) l&&(chk (bnd (A.load false 1 i y) fun v=>some v) j&&true))then
 bnd (A.zM true l w j y) fun a=>n S xe a
 else none)
 (n S xe h)
def aSo (C:CF)(L:Nat)(dm:Dm)(rl:Rl)(k:K0 Unit):Nat→K2 Unit
 |0,_,_,_=>none
 |n+1,S,xe,h=>bPv h S xe k (fun S xe h=>bGl h S xe (fun S xe h=>aSo C L dm rl k n S xe h) (fun xm S xe h=>bBz h S xm xe (fun S xe h=>aSo C L dm rl k n S xe h)))
def bVy (C:CF)(L:Nat)(dm:Dm)(rl:Rl)(K:KK Unit):∀n,M (fun f h=>Lw (rgP prog C 3 64 isR dm rl) L 3 [4] (gB Tryz.f26.body 500) [8,30] [(0,[])] n f h K) [8,30]=aSo C L dm rl (X K 0 []) n:=by refine lw [8,30] [8,30] (F:=fun k S xe h=>bPv h S xe (X K 0 []) (fun S xe h=>bGl h S xe k (fun xm S xe h=>bBz h S xm xe k))) ?_ ?_ (fun k=>w2 fun S xe h=>(y 2 [8,30] ?_ (w2 fun S xe h=>(bk 1 (y 3 [10,8,30] ?_ ?_ ?_) ?_)) ?_))<;>intros<;>kernel_rfl
def bIm (k:K0 Unit):=cGo h B S (fun S xe h=>aSo C L dm rl k L S xe h)
def bXt:bG (rgP prog C 3 64 isR dm rl) L 3 [4] (gB Tryz.f26.body 62) [] [] (r2 0 8 B S) h K=bIm C L dm rl h B S (N K []):=by unfold bIm;refine(y 1 [8,30] ?_ (w2 fun S xe h=>(bk 0 (lp (c2 (bVy C L dm rl _ L) S xe h) ?_) ?_)) ?_)<;>intros<;>kernel_rfl
def cGn (k:K1 Unit):=k (.bool true) h
def bEa (k:K1 Unit):=bPx h B G (fun D B h=>bPw C h B D k (fun D B h=>cGp h B D (fun B S h=>bIm C L dm rl h B S (fun h=>cGn h k))))
def cAq:bG (rgP prog C 3 64 isR dm rl) L 3 [4] (gB Tryz.f26.body 1) [4] [] (r2 0 1 B G) h K=bEa C L dm rl h B G (R K [4]):=by unfold bEa;refine(y 1 [3,0] ?_ (w2 fun D B h=>(y 1 [3,0] ?_ (w2 fun D B h=>(y 2 [0,8] ?_ (w2 fun B S h=>(q [] (fun k=>(bXt C L dm rl h _ B S)) ?_ ?_)) ?_)) ?_)) ?_)<;>intros<;>kernel_rfl
def F26 (C:CF)(L:Nat)(dm:Dm)(rl:Rl)(Z:V→H→O Unit)(B G:V)(h:H):O Unit:=bEa C L dm rl h B G (fun J h=>Z J h)
def cKc {C:CF}{L:Nat}{dm:Dm}{rl:Rl}(o:RelOK prog 3 isR dm rl){X:V→H→Prop}(B G:V)(h:H):=(tw o Tryz.func26 (cAq C L dm rl h _ B G) (by kernel_rfl) (by kernel_rfl):F26 C L dm rl (fun v h=>okU (X v h)) B G h=some ()→fK prog C isR dm rl L 3 26 [B,G] h X)
def aQe (n:K3 Unit):=aD (A.box 35 G h) fun a b=>nl 1 1 B b fun i=>lf 1 1 a b fun k=>bnd (A.zJ false Z65 false k i b) fun l=>n B l a b
def aQd (k:K1 Unit)(n:K3 Unit):=bI .eql 65 E (.pointer none)
 (k (.bool false) h)
 (nl 6 1 E h fun l=>aF l fun m=>iK (.bool !m)
 (k (.bool false) h)
 (n B E D h))
def aWn (r:K1 Unit)(a:K3 Unit):=nl 8 1 E h fun d=>lf 3 1 D h fun f=>bnd (A.zJ true Z103 true f d h) fun i=>bnd (A.u 0 i) fun k=>bnd (A.u 1 i) fun l=>aF l fun m=>aD (A.box 0 Z103 h) fun n o=>bnd (A.store 0 n k o) fun q=>(bif m then
 r (.bool false) q
 else
 a B E D q)
def bBx (a:K5 Unit):=nl 0 1 B h fun d=>lf 3 1 D h fun f=>nf 1 E fun k=>lf 0 1 k h fun m=>aD (C 45 [d,f,m] h) fun n o=>bnd (A.u 0 n) fun q=>bnd (A.u 1 n) fun r=>aF r fun s=>a (.bool s) q B E D o
def bBw (a:K4 Unit):=aF x9 fun b=>iK (.bool !b)
 (a (.bool true) B E D h)
 (bnd (A.zA 28 D) fun k=>bnd (A.load true 4 k h) fun l=>bnd (A.zR E) fun n=>lg 1 4 n h fun p=>aD (C 49 [p,S,(.bool false)] h) fun r s=>bif (chk (bnd (A.load true 4 k s) fun v=>some v) l&&true)then
 bI .neq 30 l r
 (a (.bool true) B E D s)
 (lf 34 1 D s fun c=>bnd (A.zA 28 D) fun d=>lf 2 1 d s fun e=>bB .neq 5 c e fun f=>a (.bool f) B E D s)
 else none)
def bBv (r:K1 Unit)(k:K3 Unit):=aP xv (r (.bool false) h) (k B E D h)
def aSv (r:K1 Unit)(k:K3 Unit):=bBw C h B D E S x9 (fun xv B E D h=>bBv h B D E xv r k)
def bXl:bG (rgP prog C 3 139 isR dm rl) L 3 [4] (gB Tryz.f28.body 126) [0,5,3] [] (r5 9 8 0 5 3 x9 S B E D) h K=aSv C h B D E S x9 (R K [4]) (N K [0,5,3]):=by unfold aSv;refine(y 1 [76,0,5,3] ?_ ?_ ?_)<;>intros<;>kernel_rfl
def cGj (k:K3 Unit):=nl 1 1 B h fun d=>aD (A.zX d h) fun e f=>k e E D f
def bPr (k:K2 Unit)(n:K3 Unit):=aKi (A.b Z h) fun a b=>bnd (A.u 0 a) fun c=>iK c
 (n Z E D b)
 (k E D b)
def bPq (c:K5 Unit):=bnd (A.zT Z h) fun a=>bnd (A.u 1 a) fun b=>nl 8 1 b h fun i=>lf 3 1 D h fun k=>bnd (A.zJ true Z103 true k i h) fun l=>bnd (A.u 0 l) fun n=>bnd (A.u 1 l) fun o=>aF o fun p=>aD (A.box 0 Z103 h) fun q r=>bnd (A.store 0 q n r) fun t=>c (.bool p) b Z E D t
def bPp (k:K4 Unit):=iK xj
 (nl 5 1 xl h fun i=>nl 5 1 E h fun m=>bI .gtr 3 i m
 (nl 0 1 xl h fun u=>nl 0 1 E h fun z=>bI .eql 9 u z
 (nf 1 xl fun a=>lf 0 1 a h fun b=>nf 1 E fun n=>lf 0 1 n h fun p=>bB .eql 9 b p fun r1=>k (.bool r1) Z E D h)
 (k (.bool false) Z E D h))
 (k (.bool false) Z E D h))
 (k (.bool false) Z E D h)
def bPo (r:K1 Unit)(k:K3 Unit):=aP xn (r (.bool false) h) (k Z E D h)
def aSm (C:CF)(L:Nat)(dm:Dm)(rl:Rl)(r:K1 Unit)(k:K2 Unit):Nat→K3 Unit
 |0,_,_,_,_=>none
 |n+1,Z,E,D,h=>bPr h D E Z k (fun Z E D h=>bPq h D E Z (fun xj xl Z E D h=>bPp h D E xl xj Z (fun xn Z E D h=>bPo h D E Z xn r (fun Z E D h=>aSm C L dm rl r k n Z E D h))))
def bVw (C:CF)(L:Nat)(dm:Dm)(rl:Rl)(K:KK Unit):∀n,M (fun f h=>Lw (rgP prog C 3 139 isR dm rl) L 3 [4] (gB Tryz.f28.body 2036) [81,5,3] [(0,[5,3])] n f h K) [81,5,3]=aSm C L dm rl (R K [4]) (X K 0 [5,3]) n:=by refine lw [81,5,3] [81,5,3] (F:=fun k Z E D h=>bPr h D E Z (X K 0 [5,3]) (fun Z E D h=>bPq h D E Z (fun xj xl Z E D h=>bPp h D E xl xj Z (fun xn Z E D h=>bPo h D E Z xn (R K [4]) k)))) ?_ ?_ (fun k=>w3 fun Z E D h=>(y 2 [81,5,3] ?_ (w3 fun Z E D h=>(bk 1 (y 2 [13,11,81,5,3] ?_ (w5 fun xj xl Z E D h=>(y 1 [131,81,5,3] ?_ ?_ ?_)) ?_) ?_)) ?_))<;>intros<;>kernel_rfl
def bIo (r:K1 Unit)(k:K2 Unit):=cGj h B D E (fun Z E D h=>aSm C L dm rl r k L Z E D h)
def bXu:bG (rgP prog C 3 139 isR dm rl) L 3 [4] (gB Tryz.f28.body 254) [5,3] [] (r3 0 5 3 B E D) h K=bIo C L dm rl h B D E (R K [4]) (N K [5,3]):=by unfold bIo;refine(y 1 [81,5,3] ?_ (w3 fun Z E D h=>(bk 0 (lp (c3 (bVw C L dm rl _ L) Z E D h) ?_) ?_)) ?_)<;>intros<;>kernel_rfl
def cGi (r:K1 Unit):=nl 8 1 E h fun d=>lf 3 1 D h fun f=>bnd (A.zI Z103L []) fun i=>bnd (A.zM true f i d h) fun k=>r (.bool true) k
def aKh (k:K1 Unit):=aQe h B G (fun B E D h=>aQd h B D E k (fun B E D h=>aWn h B D E k (fun B E D h=>bBx C h B D E (fun x9 S B E D h=>aSv C h B D E S x9 k (fun B E D h=>bIo C L dm rl h B D E k (fun E D h=>cGi h D E k))))))
def cAo:bG (rgP prog C 3 139 isR dm rl) L 3 [4] (gB Tryz.f28.body 1) [4] [] (r2 0 1 B G) h K=aKh C L dm rl h B G (R K [4]):=by unfold aKh;refine(y 2 [0,5,3] ?_ (w3 fun B E D h=>(y 1 [0,5,3] ?_ (w3 fun B E D h=>(y 1 [0,5,3] ?_ (w3 fun B E D h=>(y 1 [9,8,0,5,3] ?_ (w5 fun x9 S B E D h=>(q [0,5,3] (fun k=>(bXl C L dm rl h _ B D E S x9)) (w3 fun B E D h=>(q [5,3] (fun k=>(bXu C L dm rl h _ B D E)) ?_ ?_)) ?_)) ?_)) ?_)) ?_)) ?_)<;>intros<;>kernel_rfl
def F28 (C:CF)(L:Nat)(dm:Dm)(rl:Rl)(Z:V→H→O Unit)(B G:V)(h:H):O Unit:=aKh C L dm rl h B G (fun J h=>Z J h)
def aTm {C:CF}{L:Nat}{dm:Dm}{rl:Rl}(o:RelOK prog 3 isR dm rl){X:V→H→Prop}(B G:V)(h:H):=(tw o Tryz.func28 (cAo C L dm rl h _ B G) (by kernel_rfl) (by kernel_rfl):F28 C L dm rl (fun v h=>okU (X v h)) B G h=some ()→fK prog C isR dm rl L 3 28 [B,G] h X)
def bHw (k a:K1 Unit):=bI .eql 65 G (.pointer none)
 (k (.bool true) h)
 (nl 6 1 G h fun m=>aF m fun n=>iK (.bool !n)
 (k (.bool true) h)
 (a G h))
def cJe (k:K1 Unit):=nf 6 G fun c=>bnd (A.store 1 c (.bool false) h) fun e=>k G e
def cGh (k:K2 Unit):=nl 7 1 G h fun d=>aD (A.zX d h) fun e f=>k G e f
def bPk (d:K1 Unit)(k:K0 Unit)(n:K2 Unit):=aKi (A.b xf h) fun a b=>bnd (A.u 0 a) fun c=>iK c
 (bnd (A.zT xf b) fun e=>bnd (A.u 0 e) fun f=>nl 8 1 G b fun m=>bnd (A.zJ true Z103 true f m b) fun o=>bnd (A.u 0 o) fun q=>bnd (A.u 1 o) fun r=>aF r fun s=>aD (A.box 0 Z103 b) fun t u=>bnd (A.store 0 t q u) fun w=>iK (.bool !s)
 (d (.bool false) w)
 (n G xf w))
 (k b)
def aXi (C:CF)(L:Nat)(dm:Dm)(rl:Rl)(r:K1 Unit)(k:K0 Unit):Nat→K2 Unit
 |0,_,_,_=>none
 |n+1,G,xf,h=>bPk h G xf r k (fun G xf h=>aXi C L dm rl r k n G xf h)
def bVl (C:CF)(L:Nat)(dm:Dm)(rl:Rl)(K:KK Unit):∀n,M (fun f h=>Lw (rgP prog C 3 40 isR dm rl) L 3 [4] (gB Tryz.f30.body 244) [1,24] [(0,[])] n f h K) [1,24]=aXi C L dm rl (R K [4]) (X K 0 []) n:=by refine lw [1,24] [1,24] (F:=fun k G xf h=>bPk h G xf (R K [4]) (X K 0 []) k) ?_ ?_ ?_<;>intros<;>kernel_rfl
def bId (r:K1 Unit)(k:K0 Unit):=cGh h G (fun G xf h=>aXi C L dm rl r k L G xf h)
def bXm:bG (rgP prog C 3 40 isR dm rl) L 3 [4] (gB Tryz.f30.body 30) [] [] (r1 1 G) h K=bId C L dm rl h G (R K [4]) (N K []):=by unfold bId;refine(y 1 [1,24] ?_ (w2 fun G xf h=>(bk 0 (lp (c2 (bVl C L dm rl _ L) G xf h) ?_) ?_)) ?_)<;>intros<;>kernel_rfl
def cLe (k:K1 Unit):=k (.bool true) h
def aXw (k:K1 Unit):=bHw h G k (fun G h=>cJe h G (fun G h=>bId C L dm rl h G k (fun h=>cLe h k)))
def cAm:bG (rgP prog C 3 40 isR dm rl) L 3 [4] (gB Tryz.f30.body 1) [4] [] (r2 0 1 B G) h K=aXw C L dm rl h G (R K [4]):=by unfold aXw;refine(y 2 [1] ?_ (w1 fun G h=>(y 1 [1] ?_ (w1 fun G h=>(q [] (fun k=>(bXm C L dm rl h _ G)) ?_ ?_)) ?_)) ?_)<;>intros<;>kernel_rfl
def F30 (C:CF)(L:Nat)(dm:Dm)(rl:Rl)(Z:V→H→O Unit)(B G:V)(h:H):O Unit:=aXw C L dm rl h G (fun J h=>Z J h)
def bUc {C:CF}{L:Nat}{dm:Dm}{rl:Rl}(o:RelOK prog 3 isR dm rl){X:V→H→Prop}(B G:V)(h:H):=(tw o Tryz.func30 (cAm C L dm rl h _ B G) (by kernel_rfl) (by kernel_rfl):F30 C L dm rl (fun v h=>okU (X v h)) B G h=some ()→fK prog C isR dm rl L 3 30 [B,G] h X)
def bHv (k a:K1 Unit):=bI .eql 63 G (.pointer none)
 (k (.bool true) h)
 (nl 2 1 G h fun m=>aF m fun n=>iK (.bool !n)
 (k (.bool true) h)
 (a G h))
def cGg (k:K1 Unit):=nf 2 G fun c=>bnd (A.store 1 c (.bool false) h) fun e=>k G e
def cGf (k:K2 Unit):=nl 5 1 G h fun d=>aD (A.zX d h) fun e f=>k G e f
def bPj (k:K0 Unit)(n:K2 Unit):=aKi (A.b Y h) fun a b=>bnd (A.u 0 a) fun c=>iK c
 (n G Y b)
 (k b)
def bPi (r:K1 Unit)(d:K2 Unit):=bnd (A.zT Y h) fun a=>bnd (A.u 0 a) fun b=>nl 3 1 G h fun i=>aD (C 50 [i,b] h) fun k l=>bnd (A.u 0 k) fun n=>bnd (A.u 1 k) fun o=>aF o fun p=>nl 6 1 G l fun v=>bnd (A.zJ true Z103 true b v l) fun y=>bnd (A.u 0 y) fun e=>bnd (A.u 1 y) fun f=>aF f fun c1=>aD (A.box 0 Z103 l) fun j m=>bnd (A.store 0 j e m) fun c=>(bif p then
 iK (.bool !c1)
 (r (.bool false) c)
 (d G Y c)
 else
 d G Y c)
def aSl (C:CF)(L:Nat)(dm:Dm)(rl:Rl)(r:K1 Unit)(k:K0 Unit):Nat→K2 Unit
 |0,_,_,_=>none
 |n+1,G,Y,h=>bPj h G Y k (fun G Y h=>bPi C h G Y r (fun G Y h=>aSl C L dm rl r k n G Y h))
def bVv (C:CF)(L:Nat)(dm:Dm)(rl:Rl)(K:KK Unit):∀n,M (fun f h=>Lw (rgP prog C 3 54 isR dm rl) L 3 [4] (gB Tryz.f31.body 244) [1,26] [(0,[])] n f h K) [1,26]=aSl C L dm rl (R K [4]) (X K 0 []) n:=by refine lw [1,26] [1,26] (F:=fun k G Y h=>bPj h G Y (X K 0 []) (fun G Y h=>bPi C h G Y (R K [4]) k)) ?_ ?_ (fun k=>w2 fun G Y h=>(y 2 [1,26] ?_ (w2 fun G Y h=>(bk 1 ?_ ?_)) ?_))<;>intros<;>kernel_rfl
def bIi (r:K1 Unit)(k:K0 Unit):=cGf h G (fun G Y h=>aSl C L dm rl r k L G Y h)
def bXr:bG (rgP prog C 3 54 isR dm rl) L 3 [4] (gB Tryz.f31.body 30) [] [] (r1 1 G) h K=bIi C L dm rl h G (R K [4]) (N K []):=by unfold bIi;refine(y 1 [1,26] ?_ (w2 fun G Y h=>(bk 0 (lp (c2 (bVv C L dm rl _ L) G Y h) ?_) ?_)) ?_)<;>intros<;>kernel_rfl
def cLn (k:K1 Unit):=k (.bool true) h
def aXv (k:K1 Unit):=bHv h G k (fun G h=>cGg h G (fun G h=>bIi C L dm rl h G k (fun h=>cLn h k)))
def cAl:bG (rgP prog C 3 54 isR dm rl) L 3 [4] (gB Tryz.f31.body 1) [4] [] (r2 0 1 B G) h K=aXv C L dm rl h G (R K [4]):=by unfold aXv;refine(y 2 [1] ?_ (w1 fun G h=>(y 1 [1] ?_ (w1 fun G h=>(q [] (fun k=>(bXr C L dm rl h _ G)) ?_ ?_)) ?_)) ?_)<;>intros<;>kernel_rfl
def F31 (C:CF)(L:Nat)(dm:Dm)(rl:Rl)(Z:V→H→O Unit)(B G:V)(h:H):O Unit:=aXv C L dm rl h G (fun J h=>Z J h)
def bUb {C:CF}{L:Nat}{dm:Dm}{rl:Rl}(o:RelOK prog 3 isR dm rl){X:V→H→Prop}(B G:V)(h:H):=(tw o Tryz.func31 (cAl C L dm rl h _ B G) (by kernel_rfl) (by kernel_rfl):F31 C L dm rl (fun v h=>okU (X v h)) B G h=some ()→fK prog C isR dm rl L 3 31 [B,G] h X)
def bGk (k:K1 Unit)(n:K2 Unit):=aD (A.box 35 G h) fun a b=>lf 1 1 a b fun e=>bI .lss 3 e (iN 1)
 (k (.bool false) b)
 (nl 1 1 B b fun p=>lf 1 1 a b fun r=>bnd (A.zJ false Z65 false r p b) fun s=>bI .neq 65 s (.pointer none)
 (k (.bool false) b)
 (n B a b))
def cGm (a:K3 Unit):=lf 3 1 D h fun b=>lg 28 4 D h fun d=>nl 3 1 B h fun j=>aD (A.zL h) fun k l=>aD (A.zL l) fun m n=>bnd (A.zI Z105L [(0,1,b),(1,4,d),(5,1,j),(6,1,(.bool true)),(7,1,k),(8,1,m)]) fun o=>aD (A.box 9 o n) fun p q=>a B D p q
def cGl (k:K6 Unit):=yW isR dm rl C fun C=>nl 0 1 B h fun d=>aD (C 48 [d] h) fun e f=>bnd (A.zE e) fun i=>k i (iN 0) e B D E f
noncomputable def bBy (k:K3 Unit)(n:K6 Unit):=bnd (A.z prog .lss 3 W xb) fun a=>aP a (n W xb x B D E h) (k B D E h)
def bPu (k:K7 Unit):=bnd (A.zB 2 x W) fun a=>bnd (A.load true 2 a h) fun b=>aD (A.box 2 Z111 h) fun c d=>bnd (A.store 2 c b d) fun f=>k c W xb x B D E f
def bPt (n:K8 Unit):=nl 0 1 B h fun d=>lf 1 1 x7 h fun f=>bnd (A.zA 28 D) fun i=>lf 0 1 i h fun k=>aD (C 45 [d,f,k] h) fun l m=>bnd (A.u 0 l) fun o=>bnd (A.u 1 l) fun p=>aF p fun q=>n (.bool q) x7 W xb x B D E m
def bPs (n:K6 Unit):=iK x9
 (nl 7 1 E h fun f=>lf 1 1 x7 h fun j=>bnd (A.zI Z103L []) fun k=>bnd (A.zM true j k f h) fun m=>n W xb x B D E m)
 (n W xb x B D E h)
def aXl (k:K6 Unit):=bPu h B D E x xb W (fun x7 W xb x B D E h=>bPt C h B D E x7 x xb W (fun x9 x7 W xb x B D E h=>bPs h B D E x7 x9 x xb W k))
def bXk:bG (rgP prog C 3 74 isR dm rl) L 3 [4] (gB Tryz.f27.body 3916) [41,40,39,0,3,5] [(1,[41,40,39,0,3,5]),(0,[0,3,5])] (r6 41 40 39 0 3 5 W xb x B D E) h K=aXl C h B D E x xb W (N K [41,40,39,0,3,5]):=by unfold aXl;refine(y 1 [7,41,40,39,0,3,5] ?_ (w7 fun x7 W xb x B D E h=>(y 1 [9,7,41,40,39,0,3,5] ?_ ?_ ?_)) ?_)<;>intros<;>kernel_rfl
noncomputable def bGj (k:K6 Unit):=bnd (A.z prog .add 3 W (iN 1)) fun a=>k xb a x B D E h
def aSn (C:CF)(L:Nat)(dm:Dm)(rl:Rl)(k:K3 Unit):Nat→K6 Unit
 |0,_,_,_,_,_,_,_=>none
 |n+1,xb,W,x,B,D,E,h=>bBy h B D E x xb W k (fun W xb x B D E h=>aXl C h B D E x xb W (fun W xb x B D E h=>bGj h B D E x xb W (fun xb W x B D E h=>aSn C L dm rl k n xb W x B D E h)))
def bVx (C:CF)(L:Nat)(dm:Dm)(rl:Rl)(K:KK Unit):∀n,M (fun f h=>Lw (rgP prog C 3 74 isR dm rl) L 3 [4] (gB Tryz.f27.body 244) [40,41,39,0,3,5] [(0,[0,3,5])] n f h K) [40,41,39,0,3,5]=aSn C L dm rl (X K 0 [0,3,5]) n:=by refine lw [40,41,39,0,3,5] [40,41,39,0,3,5] (F:=fun a xb W x B D E h=>bBy h B D E x xb W (X K 0 [0,3,5]) (fun W xb x B D E h=>aXl C h B D E x xb W (fun W xb x B D E h=>bGj h B D E x xb W a))) ?_ ?_ (fun a=>w6 fun xb W x B D E h=>(y 2 [41,40,39,0,3,5] ?_ (w6 fun W xb x B D E h=>(q [41,40,39,0,3,5] (fun k=>(bk 1 (bXk C L dm rl h _ B D E x xb W) ?_)) ?_ ?_)) ?_))<;>intros<;>kernel_rfl
def bIv (k:K3 Unit):=cGl C dm rl h B D E (fun xb W x B D E h=>aSn C L dm rl k L xb W x B D E h)
def bXz:bG (rgP prog C 3 74 isR dm rl) L 3 [4] (gB Tryz.f27.body 30) [0,3,5] [] (r3 0 3 5 B D E) h K=bIv C L dm rl h B D E (N K [0,3,5]):=by unfold bIv;refine(y 1 [40,41,39,0,3,5] ?_ (w6 fun xb W x B D E h=>(bk 0 (lp (c6 (bVx C L dm rl _ L) xb W x B D E h) ?_) ?_)) ?_)<;>intros<;>kernel_rfl
def cGk (r:K1 Unit):=nl 1 1 B h fun d=>lf 1 1 D h fun f=>bnd (A.zM false f E d h) fun k=>r (.bool true) k
def aXx (k:K1 Unit):=bGk h B G k (fun B D h=>cGm h B D (fun B D E h=>bIv C L dm rl h B D E (fun B D E h=>cGk h B D E k)))
def cAp:bG (rgP prog C 3 74 isR dm rl) L 3 [4] (gB Tryz.f27.body 1) [4] [] (r2 0 1 B G) h K=aXx C L dm rl h B G (R K [4]):=by unfold aXx;refine(y 2 [0,3] ?_ (w2 fun B D h=>(y 1 [0,3,5] ?_ (w3 fun B D E h=>(q [0,3,5] (fun k=>(bXz C L dm rl h _ B D E)) ?_ ?_)) ?_)) ?_)<;>intros<;>kernel_rfl
def F27 (C:CF)(L:Nat)(dm:Dm)(rl:Rl)(Z:V→H→O Unit)(B G:V)(h:H):O Unit:=aXx C L dm rl h B G (fun J h=>Z J h)
def bUd {C:CF}{L:Nat}{dm:Dm}{rl:Rl}(o:RelOK prog 3 isR dm rl){X:V→H→Prop}(B G:V)(h:H):=(tw o Tryz.func27 (cAp C L dm rl h _ B G) (by kernel_rfl) (by kernel_rfl):F27 C L dm rl (fun v h=>okU (X v h)) B G h=some ()→fK prog C isR dm rl L 3 27 [B,G] h X)
def aCq (k:K2 Unit):=aD (A.box 35 G h) fun a b=>k a B b
def aCp (k:K3 Unit):=lf 0 1 D h fun b=>k b D B h
def aCo (k:K4 Unit):=bB .eql 5 U (iU 1) fun b=>k (.bool b) U D B h
def bHf (k:K0 Unit):=bnd (A.zA 4 D) fun a=>lf 0 1 a h fun c=>bI .eql 5 c (iU 8)
 (nl 2 1 B h fun l=>lf 1 1 D h fun n=>bnd (A.zJ false Z63 false n l h) fun o=>bI .eql 63 o (.pointer none)
 (lf 1 1 D h fun u=>aD (C 24 [B,u] h) fun v w=>k w)
 (k h))
 (k h)
def aKc (k:K4 Unit):=bB .eql 5 U (iU 2) fun b=>k (.bool b) U D B h
def cHk (k:K1 Unit):=yW isR dm rl C fun C=>bnd (A.load true 35 D h) fun b=>aD (C 25 [B,b] h) fun c d=>aF c fun e=>k (.bool e) d
def aMk (k:K4 Unit):=bB .eql 5 U (iU 5) fun b=>k (.bool b) U D B h
def cHl (k:K1 Unit):=yW isR dm rl C fun C=>bnd (A.load true 35 D h) fun b=>aD (C 26 [B,b] h) fun c d=>aF c fun e=>k (.bool e) d
def aQf (k:K4 Unit):=bB .eql 5 U (iU 4) fun b=>k (.bool b) U D B h
def cHm (k:K1 Unit):=yW isR dm rl C fun C=>bnd (A.load true 35 D h) fun b=>aD (C 27 [B,b] h) fun c d=>aF c fun e=>k (.bool e) d
def aSc (k:K4 Unit):=bB .eql 5 U (iU 6) fun b=>k (.bool b) U D B h
def cHn (k:K1 Unit):=yW isR dm rl C fun C=>bnd (A.load true 35 D h) fun b=>aD (C 28 [B,b] h) fun c d=>aF c fun e=>k (.bool e) d
def aWv (k:K4 Unit):=bB .eql 5 U (iU 7) fun b=>k (.bool b) U D B h
def bQo (k:K1 Unit):=nl 1 1 B h fun d=>lf 1 1 D h fun f=>bnd (A.zJ false Z65 false f d h) fun i=>bI .neq 65 i (.pointer none)
 (yW isR dm rl C fun C=>bnd (A.load true 35 D h) fun m=>aD (C 28 [B,m] h) fun n o=>aF n fun p=>k (.bool p) o)
 (bnd (A.load true 35 D h) fun s=>aD (C 29 [B,s] h) fun t u=>aF t fun v=>k (.bool v) u)
def bHg (k:K4 Unit):=bB .eql 5 U (iU 8) fun b=>k (.bool b) U D B h
def cHo (k:K1 Unit):=bnd (A.load true 35 D h) fun b=>aD (C 29 [B,b] h) fun c d=>aF c fun e=>k (.bool e) d
def bQp (k:K3 Unit):=bB .eql 5 U (iU 3) fun b=>k (.bool b) D B h
def cHq (n:K1 Unit):=yW isR dm rl C fun C=>nl 1 1 B h fun e=>lf 1 1 D h fun i=>bnd (A.zJ false Z65 false i e h) fun j=>aD (C 30 [B,j] h) fun k l=>iK k
 (nl 2 1 B l fun s=>lf 1 1 D l fun u=>bnd (A.zJ false Z63 false u s l) fun v=>aD (C 31 [B,v] l) fun w y=>aF w fun z=>n (.bool z) y)
 (n (.bool false) l)
def cHp (k:K1 Unit):=k J h
def cHr (k:K0 Unit):=k h
def aAg (k:K1 Unit)(n:K0 Unit):=aCp h B D (fun U D B h=>aCo h B D U (fun x7 U D B h=>aP x7 (bHf C h B D n) (aKc h B D U (fun xo U D B h=>aP xo (cHk C dm rl h B D k) (aMk h B D U (fun xp U D B h=>aP xp (cHl C dm rl h B D k) (aQf h B D U (fun xq U D B h=>aP xq (cHm C dm rl h B D k) (aSc h B D U (fun xr U D B h=>aP xr (cHn C dm rl h B D k) (aWv h B D U (fun xs U D B h=>aP xs (bQo C dm rl h B D k) (bHg h B D U (fun xt U D B h=>aP xt (cHo C h B D k) (bQp h B D U (fun xu D B h=>aP xu (cHq C dm rl h B D (fun J h=>cHp h J k)) (cHr h n)))))))))))))))))
def bYc:bG (rgP prog C 3 90 isR dm rl) L 3 [4] (gB Tryz.f16.body 6) [] [] (r2 3 0 D B) h K=aAg C dm rl h B D (R K [4]) (N K []):=by unfold aAg;refine(y 1 [6,3,0] ?_ (w3 fun U D B h=>(bk 0 (y 1 [7,6,3,0] ?_ (w4 fun x7 U D B h=>(cd ?_ (y 1 [27,6,3,0] ?_ (w4 fun xo U D B h=>(cd ?_ (y 1 [32,6,3,0] ?_ (w4 fun xp U D B h=>(cd ?_ (y 1 [37,6,3,0] ?_ (w4 fun xq U D B h=>(cd ?_ (y 1 [42,6,3,0] ?_ (w4 fun xr U D B h=>(cd ?_ (y 1 [47,6,3,0] ?_ (w4 fun xs U D B h=>(cd ?_ (y 1 [63,6,3,0] ?_ (w4 fun xt U D B h=>(cd ?_ (y 1 [68,3,0] ?_ (w3 fun xu D B h=>(cd (y 1 [4] ?_ ?_ ?_) ?_ ?_)) ?_) ?_)) ?_) ?_)) ?_) ?_)) ?_) ?_)) ?_) ?_)) ?_) ?_)) ?_) ?_)) ?_) ?_)) ?_)<;>intros<;>kernel_rfl
def bCm (k:K1 Unit):=k (.bool true) h
def aAh (k:K1 Unit):=aCq h B G (fun D B h=>aAg C dm rl h B D k (fun h=>bCm h k))
def cBa:bG (rgP prog C 3 90 isR dm rl) L 3 [4] (gB Tryz.f16.body 1) [4] [] (r2 0 1 B G) h K=aAh C dm rl h B G (R K [4]):=by unfold aAh;refine(y 1 [3,0] ?_ (w2 fun D B h=>(q [] (fun k=>(bYc C L dm rl h _ B D)) ?_ ?_)) ?_)<;>intros<;>kernel_rfl
def F16 (C:CF)(L:Nat)(dm:Dm)(rl:Rl)(Z:V→H→O Unit)(B G:V)(h:H):O Unit:=aAh C dm rl h B G (fun J h=>Z J h)
def cNx {C:CF}{L:Nat}{dm:Dm}{rl:Rl}(o:RelOK prog 3 isR dm rl){X:V→H→Prop}(B G:V)(h:H):=(tw o Tryz.func16 (cBa C L dm rl h _ B G) (by kernel_rfl) (by kernel_rfl):F16 C L dm rl (fun v h=>okU (X v h)) B G h=some ()→fK prog C isR dm rl L 3 16 [B,G] h X)
def cJi (n:K2 Unit):=aD (C 15 [] h) fun c d=>aD (A.zL d) fun e f=>aD (A.zL f) fun i j=>bnd (A.zI Z47L [(0,1,c),(1,1,e),(2,1,i)]) fun k=>aD (A.box 4 k j) fun l m=>n l B m
def cEv (k:K5 Unit):=bnd (A.zE B) fun b=>k b (iN 0) J B B h
def bFj (r:K2 Unit)(b:K1 Unit)(n:K5 Unit):=bnd (A.z prog .lss 3 P xj) fun a=>aP a (bnd (A.zB 35 I P) fun c=>bnd (A.load true 35 c h) fun d=>aD (A.box 35 Z35 h) fun e f=>bnd (A.store 35 e d f) fun k=>nf 3 J fun o=>bnd (A.store 1 o P k) fun q=>yW isR dm rl C fun C=>bnd (A.load true 35 e q) fun s=>aD (C 16 [J,s] q) fun t u=>aF t fun v=>iK (.bool !v)
 (r P (.bool false) u)
 (bnd (A.z prog .add 3 P (iN 1)) fun c1=>n xj c1 J I B u)) (b B h)
def aXg (C:CF)(L:Nat)(dm:Dm)(rl:Rl)(r:K2 Unit)(k:K1 Unit):Nat→K5 Unit
 |0,_,_,_,_,_,_=>none
 |n+1,xj,P,J,I,B,h=>bFj C dm rl h B J I xj P r k (fun xj P J I B h=>aXg C L dm rl r k n xj P J I B h)
def bVj (C:CF)(L:Nat)(dm:Dm)(rl:Rl)(K:KK Unit):∀n,M (fun f h=>Lw (rgP prog C 3 31 isR dm rl) L 3 [2,3] (gB Tryz.f6.body 116) [13,14,4,12,0] [(0,[0])] n f h K) [13,14,4,12,0]=aXg C L dm rl (R K [2,3]) (X K 0 [0]) n:=by refine lw [13,14,4,12,0] [13,14,4,12,0] (F:=fun k xj P J I B h=>bFj C dm rl h B J I xj P (R K [2,3]) (X K 0 [0]) k) ?_ ?_ ?_<;>intros<;>kernel_rfl
def bIe (r:K2 Unit)(k:K1 Unit):=cEv h B J (fun xj P J I B h=>aXg C L dm rl r k L xj P J I B h)
def bXp:bG (rgP prog C 3 31 isR dm rl) L 3 [2,3] (gB Tryz.f6.body 14) [0] [] (r2 4 0 J B) h K=bIe C L dm rl h B J (R K [2,3]) (N K [0]):=by unfold bIe;refine(y 1 [13,14,4,12,0] ?_ (w5 fun xj P J I B h=>(bk 0 (lp (c5 (bVj C L dm rl _ L) xj P J I B h) ?_) ?_)) ?_)<;>intros<;>kernel_rfl
def cJl (k:K2 Unit):=bnd (A.zE B) fun b=>k b (.bool true) h
def p6a (k:K2 Unit):=cJi C h B (fun J B h=>bIe C L dm rl h B J k (fun B h=>cJl h B k))
def cMw:bG (rgP prog C 3 31 isR dm rl) L 3 [2,3] (gB Tryz.f6.body 1) [2,3] [] (r1 0 B) h K=p6a C L dm rl h B (R K [2,3]):=by unfold p6a;refine(y 2 [4,0] ?_ (w2 fun J B h=>(q [0] (fun k=>(bXp C L dm rl h _ B J)) ?_ ?_)) ?_)<;>intros<;>kernel_rfl
def F6 (C:CF)(L:Nat)(dm:Dm)(rl:Rl)(Z:V→H→O Unit)(B:V)(h:H):O Unit:=p6a C L dm rl h B (fun a D h=>Z (.tuple ⟨[a,D]⟩) h)
def F6W {C:CF}{L:Nat}{dm:Dm}{rl:Rl}(o:RelOK prog 3 isR dm rl){X:V→H→Prop}(B:V)(h:H):=(tw o Tryz.func6 (cMw C L dm rl h _ B) (by kernel_rfl) (by kernel_rfl):F6 C L dm rl (fun v h=>okU (X v h)) B h=some ()→fK prog C isR dm rl L 3 6 [B] h X)
def p3a (k:K1 Unit):=aD (C 4 [B] h) fun c d=>iK c
 (aD (C 5 [] d) fun f i=>aF f fun j=>k (.bool j) i)
 (yW isR dm rl C fun C=>aD (C 6 [B] d) fun m n=>bnd (A.u 0 m) fun p=>bnd (A.u 1 m) fun q=>aF q fun r=>aD (C 7 [B] n) fun v w=>bnd (A.u 0 v) fun z=>bnd (A.u 1 v) fun a=>aF a fun b=>bI .eql 3 p z
 (bnd (A.z prog .eql 4 (.bool r) (.bool b)) fun e=>iK e
 (aD (C 5 [] w) fun r1 s=>aF r1 fun t=>k (.bool t) s)
 (k (.bool false) w))
 (k (.bool false) w))
def cMy:bG (rgP prog C 3 31 isR dm rl) L 3 [2] (gB Tryz.f3.body 1) [2] [] (r1 0 B) h K=p3a C dm rl h B (R K [2]):=by kernel_rfl
def F3 (C:CF)(L:Nat)(dm:Dm)(rl:Rl)(Z:V→H→O Unit)(B:V)(h:H):O Unit:=p3a C dm rl h B (fun a h=>Z a h)
def F3W {C:CF}{L:Nat}{dm:Dm}{rl:Rl}(o:RelOK prog 3 isR dm rl){X:V→H→Prop}(B:V)(h:H):=(tw o Tryz.func3 (cMy C L dm rl h _ B) (by kernel_rfl) (by kernel_rfl):F3 C L dm rl (fun v h=>okU (X v h)) B h=some ()→fK prog C isR dm rl L 3 3 [B] h X)
end
end Go.Proofs.YtbmdhjdgpeleoaaGreatDoor.TaW
