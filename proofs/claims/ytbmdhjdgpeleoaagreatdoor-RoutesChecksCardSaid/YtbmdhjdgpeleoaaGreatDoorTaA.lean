import Derived.Test.YtbmdhjdgpeleoaaGreatDoorProg
import Derived.Test.YtbmdhjdgpeleoaaGreatDoorGq
import Derived.Test.YtbmdhjdgpeleoaaGreatDoorTaK
set_option linter.unusedVariables false
set_option linter.defProp false
set_option maxRecDepth 100000
namespace Go.Proofs.YtbmdhjdgpeleoaaGreatDoor.TaA
open Tryz (prog)
open Go Go.AM TaK Go.AM.Pk
variable {β:Type}
noncomputable section
def Z185L:kC V:=List.replicate 256 (.bool false)
def Z185:V:=.agg ⟨Z185L⟩
def Z9L:kC V:=[(.string ⟨⟨[]⟩⟩)]
def Z205L:kC V:=[(iU 0),(iU 0)]
def Z205:V:=.agg ⟨Z205L⟩
variable (C:CF)(L:Nat)(h:H)(K:KK β)(B D U P Y I S N E G J W Z xl xm xf xg xn xh xi x xc g xe xj xb xk:V)
noncomputable def bTk (k:K1 β):=aD (C 101 [B] h) fun c d=>bnd (A.z prog .geq 3 c (iN 0)) fun e=>aF e fun f=>k (.bool f) d
def bYq:execK prog C L 3 6 [2] (gB Tryz.f82.body 1) [2] [] (r1 0 B) h K=bTk C h B (R K [2]):=by kernel_rfl
def F82 (C:CF)(L:Nat)(B:V)(h:H):=bTk C h B rS
def cBt (Q:Orc)(n:Nat)(B:V)(h:H)(q:Q 82 [B]=none):=(tq q Tryz.func82 (bYq _ n h _ B) (by kernel_rfl):_=F82 (aK prog 3 Q n) n B h)
noncomputable def bRi (r:K1 β)(k:K2 β):=bnd (A.zH B) fun c=>bnd (A.z prog .gtr 3 c (iN 65535)) fun d=>aF d fun e=>(bif e then
 r (iN (-1)) h
 else
 k B (iN 0) h)
def cJa (k:K3 β):=aD (A.zZ B h) fun b c=>k b B P c
def aQi (k:K1 β)(n:K4 β):=aD (A.yC J h) fun a b=>bnd (A.u 0 a) fun c=>aF c fun d=>(bif d then
 n a P J B b
 else
 k P b)
def aXe (k:K5 β):=bnd (A.u 1 W) fun a=>bnd (A.u 2 W) fun b=>k b a P J B h
noncomputable def bDb (k:K4 β):=bnd (A.z prog .eql 21 I (.int .i32 0)) fun b=>aF b fun c=>(bif c then
 k (.bool true) P J B h
 else
 bnd (A.z prog .eql 21 I (.int .i32 65533)) fun i=>aF i fun j=>(bif j then
 bnd (A.zN B (some Y) none) fun n=>aD (C 121 [n] h) fun o p=>aF o fun q=>bnd (A.un prog .not (.bool q)) fun r=>aF r fun s=>k (.bool s) P J B p
 else
 k (.bool false) P J B h))
def bDa (r:K1 β)(k:K3 β):=aP xg (r (iN (-1)) h) (k P J B h)
def aXo (r:K1 β)(k:K3 β):=bDb C h B P Y I J (fun xg P J B h=>bDa h B P J xg r k)
noncomputable def bHp (k:K3 β):=bnd (A.z prog .add 3 P (iN 1)) fun b=>k J B b h
def aHw (C:CF)(L:Nat){β:Type}(r k:K1 β):Nat→K3 β
 |0,_,_,_,_=>none
 |n+1,J,B,P,h=>aQi h B P J k (fun W P J B h=>aXe h B P J W (fun I Y P J B h=>aXo C h B P Y I J r (fun P J B h=>bHp h B P J (fun J B P h=>aHw C L r k n J B P h))))
def bXg (C:CF)(L:Nat)(K:KK β):∀n,M (fun f h=>Lw prog C L 3 31 [2] (gB Tryz.f101.body 244) [10,0,3] [(0,[3])] n f h K) [10,0,3]=aHw C L (R K [2]) (X K 0 [3]) n:=by refine lw [10,0,3] [10,0,3] (F:=fun a J B P h=>aQi h B P J (X K 0 [3]) (fun W P J B h=>aXe h B P J W (fun I Y P J B h=>aXo C h B P Y I J (R K [2]) (fun P J B h=>bHp h B P J a)))) ?_ ?_ (fun a=>w3 fun J B P h=>(y 2 [11,3,10,0] ?_ (w4 fun W P J B h=>(bk 1 (y 1 [5,4,3,10,0] ?_ (w5 fun I Y P J B h=>(q [3,10,0] (fun k=>?_) ?_ ?_)) ?_) ?_)) ?_))<;>intros<;>kernel_rfl
def bSy (r k:K1 β):=cJa h B P (fun J B P h=>aHw C L r k L J B P h)
def bCz (C:CF)(L:Nat)(P:V)(h:H)(k:K1 β):=k P h
def aMa (k:K1 β):=bRi h B k (fun B P h=>bSy C L h B P k (fun P h=>bCz C L P h k))
def bMl:execK prog C L 3 31 [2] (gB Tryz.f101.body 1) [2] [] (r1 0 B) h K=aMa C L h B (R K [2]):=by unfold aMa;refine(y 3 [0,3] ?_ (w2 fun B P h=>(q [3] (fun k=>(by unfold bSy;refine(y 1 [10,0,3] ?_ (w3 fun J B P h=>(bk 0 (lp (c3 (bXg C L _ L) J B P h) ?_) ?_)) ?_)<;>intros<;>kernel_rfl)) ?_ ?_)) ?_)<;>intros<;>kernel_rfl
def bUj (C:CF)(L:Nat)(B:V)(h:H):=aMa C L h B rS
def bNn (Q:Orc)(n:Nat)(B:V)(h:H)(q:Q 101 [B]=none):=(tq q Tryz.func101 (bMl _ n h _ B) (by kernel_rfl):_=bUj (aK prog 3 Q n) n B h)
noncomputable def aYo (k:K1 β):=aD (C 123 [B,D] h) fun d e=>bnd (A.z prog .geq 3 d (iN 0)) fun f=>aF f fun i=>k (.bool i) e
def bMj:execK prog C L 3 9 [4] (gB Tryz.f103.body 1) [4] [] (r2 0 1 B D) h K=aYo C h B D (R K [4]):=by kernel_rfl
def cKq (C:CF)(L:Nat)(B D:V)(h:H):=aYo C h B D rS
def bNl (Q:Orc)(n:Nat)(B D:V)(h:H)(q:Q 103 [B,D]=none):=(tq q Tryz.func103 (bMj _ n h _ B D) (by kernel_rfl):_=cKq (aK prog 3 Q n) n B D h)
def aYp (k:K1 β):=aD (C 122 [B,D,(iN 0),(iN (-1))] h) fun d e=>k d e
def bMk:execK prog C L 3 8 [4] (gB Tryz.f102.body 1) [4] [] (r2 0 1 B D) h K=aYp C h B D (R K [4]):=by kernel_rfl
def cKr (C:CF)(L:Nat)(B D:V)(h:H):=aYp C h B D rS
def bNm (Q:Orc)(n:Nat)(B D:V)(h:H)(q:Q 102 [B,D]=none):=(tq q Tryz.func102 (bMk _ n h _ B D) (by kernel_rfl):_=cKr (aK prog 3 Q n) n B D h)
noncomputable def aYl (k:K1 β):=aD (C 134 [B] h) fun c d=>bnd (A.u 0 c) fun f=>bnd (A.u 1 c) fun i=>bnd (A.z prog .gtr 3 i (iN 1)) fun m=>aF m fun n=>k (.bool n) d
def bMe:execK prog C L 3 12 [2] (gB Tryz.f121.body 1) [2] [] (r1 0 B) h K=aYl C h B (R K [2]):=by kernel_rfl
def cKn (C:CF)(L:Nat)(B:V)(h:H):=aYl C h B rS
def bNg (Q:Orc)(n:Nat)(B:V)(h:H)(q:Q 121 [B]=none):=(tq q Tryz.func121 (bMe _ n h _ B) (by kernel_rfl):_=cKn (aK prog 3 Q n) n B h)
noncomputable def bRf (a:K1 β)(e:K2 β):=bnd (A.z prog .eql 9 D (.string ⟨⟨[]⟩⟩)) fun c=>aF c fun d=>(bif d then
 a (iN (-1)) h
 else
 bnd (A.zH D) fun i=>bnd (A.z prog .eql 3 i (iN 1)) fun j=>aF j fun k=>(bif k then
 bnd (A.zD D (iN 0)) fun m=>bnd (A.conv prog 5 21 m) fun n=>bnd (A.z prog .geq 21 n (.int .i32 128)) fun q=>aF q fun r=>(bif r then
 aD (C 138 [B,(.int .i32 65533)] h) fun v w=>a v w
 else
 aD (C 138 [B,n] h) fun b c1=>a b c1)
 else
 e B D h))
def bRe (k:K3 β):=bnd (A.zH B) fun b=>aD (C 139 [b] h) fun c d=>aF c fun e=>k (.bool e) B D d
def cIw (n:K4 β):=aD (C 140 [D] h) fun b c=>bnd (A.u 0 b) fun e=>bnd (A.u 1 b) fun f=>aF f fun i=>aD (A.box 256 Z185 c) fun j k=>bnd (A.store 256 j e k) fun m=>n (.bool i) j B D m
def cIv (k:K3 β):=k (iN 0) S B h
noncomputable def bCw (r:K1 β)(a:K0 β)(n:K3 β):=bnd (A.zH B) fun c=>bnd (A.z prog .lss 3 E c) fun d=>aF d fun e=>(bif e then
 bnd (A.zD B E) fun j=>aD (C 141 [S,j] h) fun k l=>aF k fun m=>(bif m then
 r E l
 else
 bnd (A.z prog .add 3 E (iN 1)) fun q=>n q S B l)
 else
 a h)
def aQv (C:CF)(L:Nat){β:Type}(r:K1 β)(k:K0 β):Nat→K3 β
 |0,_,_,_,_=>none
 |n+1,E,S,B,h=>bCw C h B S E r k (fun E S B h=>aQv C L r k n E S B h)
def bWq (C:CF)(L:Nat)(K:KK β):∀n,M (fun f h=>Lw prog C L 3 55 [4] (gB Tryz.f123.body 15716) [8,6,0] [(0,[])] n f h K) [8,6,0]=aQv C L (R K [4]) (X K 0 []) n:=by refine lw [8,6,0] [8,6,0] (F:=fun k E S B h=>bCw C h B S E (R K [4]) (X K 0 []) k) ?_ ?_ ?_<;>intros<;>kernel_rfl
def bSi (r:K1 β)(k:K0 β):=cIv h B S (fun E S B h=>aQv C L r k L E S B h)
def bHm (C:CF)(L:Nat)(h:H)(k:K1 β):=k (iN (-1)) h
def cLm (k:K2 β):=k B D h
def cIx (k:K2 β):=k B D h
def bIw (r:K1 β)(k:K2 β):=bRe C h B D (fun xf B D h=>aP xf (cIw C h B D (fun xh S B D h=>aP xh (bSi C L h B S r (fun h=>bHm C L h r)) (cLm h B D k))) (cIx h B D k))
def cIu (k:K2 β):=aD (A.zZ B h) fun b c=>k b D c
noncomputable def aXd (r:K1 β)(k:K0 β)(i:K2 β):=aD (A.yC x h) fun a b=>bnd (A.u 0 a) fun c=>aF c fun d=>(bif d then
 bnd (A.u 1 a) fun e=>bnd (A.u 2 a) fun f=>aD (C 138 [D,f] b) fun m n=>bnd (A.z prog .geq 3 m (iN 0)) fun o=>aF o fun p=>(bif p then
 r e n
 else
 i x D n)
 else
 k b)
def aMu (C:CF)(L:Nat){β:Type}(r:K1 β)(k:K0 β):Nat→K2 β
 |0,_,_,_=>none
 |n+1,x,D,h=>aXd C h D x r k (fun x D h=>aMu C L r k n x D h)
def bXa (C:CF)(L:Nat)(K:KK β):∀n,M (fun f h=>Lw prog C L 3 55 [4] (gB Tryz.f123.body 500) [45,1] [(2,[])] n f h K) [45,1]=aMu C L (R K [4]) (X K 2 []) n:=by refine lw [45,1] [45,1] (F:=fun k x D h=>aXd C h D x (R K [4]) (X K 2 []) k) ?_ ?_ ?_<;>intros<;>kernel_rfl
def bSk (r:K1 β)(k:K0 β):=cIu h B D (fun x D h=>aMu C L r k L x D h)
def bCv (C:CF)(L:Nat)(h:H)(k:K1 β):=k (iN (-1)) h
def aLz (k:K1 β):=bRf C h B D k (fun B D h=>bIw C L h B D k (fun B D h=>bSk C L h B D k (fun h=>bCv C L h k)))
def bMc:execK prog C L 3 55 [4] (gB Tryz.f123.body 1) [4] [] (r2 0 1 B D) h K=aLz C L h B D (R K [4]):=by unfold aLz;refine(y 3 [0,1] ?_ (w2 fun B D h=>(q [0,1] (fun k=>(by unfold bIw;refine(y 1 [26,0,1] ?_ (w3 fun xf B D h=>(cd (y 2 [32,6,0,1] ?_ (w4 fun xh S B D h=>(cd (q [] (fun k=>(by unfold bSi;refine(y 1 [8,6,0] ?_ (w3 fun E S B h=>(bk 0 (lp (c3 (bWq C L _ L) E S B h) ?_) ?_)) ?_)<;>intros<;>kernel_rfl)) ?_ ?_) ?_ ?_)) ?_) ?_ ?_)) ?_)<;>intros<;>kernel_rfl)) (w2 fun B D h=>(q [] (fun k=>(by unfold bSk;refine(y 1 [45,1] ?_ (w2 fun x D h=>(bk 2 (lp (c2 (bXa C L _ L) x D h) ?_) ?_)) ?_)<;>intros<;>kernel_rfl)) ?_ ?_)) ?_)) ?_)<;>intros<;>kernel_rfl
def bUh (C:CF)(L:Nat)(B D:V)(h:H):=aLz C L h B D rS
def bNe (Q:Orc)(n:Nat)(B D:V)(h:H)(q:Q 123 [B,D]=none):=(tq q Tryz.func123 (bMc _ n h _ B D) (by kernel_rfl):_=bUh (aK prog 3 Q n) n B D h)
noncomputable def cIz (a:K1 β)(k:K4 β):=bnd (A.z prog .eql 3 P (iN 0)) fun c=>aF c fun d=>(bif d then
 a (.slice none 0 0) h
 else
 bnd (A.z prog .eql 9 D (.string ⟨⟨[]⟩⟩)) fun i=>aF i fun j=>(bif j then
 aD (C 135 [B,P] h) fun m n=>a m n
 else
 bnd (A.z prog .lss 3 P (iN 0)) fun q=>aF q fun r=>(bif r then
 aD (C 136 [B,D] h) fun u v=>bnd (A.z prog .add 3 u (iN 1)) fun w=>k w D U B v
 else
 k P D U B h)))
noncomputable def cIy (a:K6 β):=bnd (A.zH B) fun c=>bnd (A.z prog .add 3 c (iN 1)) fun d=>bnd (A.zS prog .min ⟨[3,3]⟩ 3 [P,d]) fun e=>aD (A.zP 1 16 Z9L e e h) fun j k=>bnd (A.z prog .sub 3 e (iN 1)) fun n=>a n D U B j (iN 0) k
noncomputable def bCx (k:K3 β)(f:K6 β):=bnd (A.z prog .lss 3 J P) fun c=>aF c fun d=>(bif d then
 aD (C 137 [B,D] h) fun i j=>bnd (A.z prog .lss 3 i (iN 0)) fun m=>aF m fun n=>(bif n then
 k B G J j
 else
 bnd (A.z prog .add 3 i U) fun t=>bnd (A.zN B none (some t)) fun u=>bnd (A.zB 1 G J) fun v=>bnd (A.store 1 v u j) fun y=>bnd (A.zH D) fun c1=>bnd (A.z prog .add 3 i c1) fun a=>bnd (A.zN B (some a) none) fun e=>bnd (A.z prog .add 3 J (iN 1)) fun b=>f P D U e G b y)
 else
 k B G J h)
def aMv (C:CF)(L:Nat){β:Type}(k:K3 β):Nat→K6 β
 |0,_,_,_,_,_,_,_=>none
 |n+1,P,D,U,B,G,J,h=>bCx C h B D U P G J k (fun P D U B G J h=>aMv C L k n P D U B G J h)
def bXb (C:CF)(L:Nat)(K:KK β):∀n,M (fun f h=>Lw prog C L 3 66 [8] (gB Tryz.f122.body 4088) [3,1,2,0,9,10] [(0,[0,9,10])] n f h K) [3,1,2,0,9,10]=aMv C L (X K 0 [0,9,10]) n:=by refine lw [3,1,2,0,9,10] [3,1,2,0,9,10] (F:=fun k P D U B G J h=>bCx C h B D U P G J (X K 0 [0,9,10]) k) ?_ ?_ ?_<;>intros<;>kernel_rfl
noncomputable def bHn (C:CF)(L:Nat)(B G J:V)(h:H)(r:K1 β):=bnd (A.zB 1 G J) fun d=>bnd (A.store 1 d B h) fun f=>bnd (A.z prog .add 3 J (iN 1)) fun k=>bnd (A.zK 1 G none (some k) none f) fun l=>r l f
def aRf (k:K1 β):=cIz C h B D U P k (fun P D U B h=>cIy h B D U P (fun P D U B G J h=>aMv C L (fun B G J h=>bHn C L B G J h k) L P D U B G J h))
def bMd:execK prog C L 3 66 [8] (gB Tryz.f122.body 1) [8] [] (r4 0 1 2 3 B D U P) h K=aRf C L h B D U P (R K [8]):=by unfold aRf;refine(y 4 [3,1,2,0] ?_ (w4 fun P D U B h=>(y 4 [3,1,2,0,9,10] ?_ (w6 fun P D U B G J h=>(q [0,9,10] (A:=fun z=>aMv C L z L P D U B G J h) (fun k=>(bk 0 (lp (c6 (bXb C L _ L) P D U B G J h) ?_) ?_)) ?_ ?_)) ?_)) ?_)<;>intros<;>kernel_rfl
def cKm (C:CF)(L:Nat)(B D U P:V)(h:H):=aRf C L h B D U P rS
def bNf (Q:Orc)(n:Nat)(B D U P:V)(h:H)(q:Q 122 [B,D,U,P]=none):=(tq q Tryz.func122 (bMd _ n h _ B D U P) (by kernel_rfl):_=cKm (aK prog 3 Q n) n B D U P h)
noncomputable def aYk (r:K2 β):=bnd (A.z prog .neq 9 B (.string ⟨⟨[]⟩⟩)) fun d=>aF d fun e=>(bif e then
 bnd (A.zD B (iN 0)) fun j=>bnd (A.z prog .lss 5 j (iU 128)) fun k=>aF k fun l=>(bif l then
 bnd (A.zD B (iN 0)) fun o=>bnd (A.conv prog 5 21 o) fun p=>r p (iN 1) h
 else
 aD (C 154 [B] h) fun t u=>bnd (A.u 0 t) fun w=>bnd (A.u 1 t) fun y=>r w y u)
 else
 aD (C 154 [B] h) fun a b=>bnd (A.u 0 a) fun i=>bnd (A.u 1 a) fun c=>r i c b)
def bLz:execK prog C L 3 19 [2,3] (gB Tryz.f134.body 1) [2,3] [] (r1 0 B) h K=aYk C h B (R K [2,3]):=by kernel_rfl
def cKl (C:CF)(L:Nat)(B:V)(h:H):O (V×H):=aYk C h B (fun U P h=>some (.tuple ⟨[U,P]⟩,h))
def bNc (Q:Orc)(n:Nat)(B:V)(h:H)(q:Q 134 [B]=none):=(tq q Tryz.func134 (bLz _ n h _ B) (by kernel_rfl):_=cKl (aK prog 3 Q n) n B h)
def bRb (k:K2 β):=k D B h
noncomputable def bRa (k:K3 β):=bnd (A.z prog .leq 21 (.int .i32 0) D) fun b=>aF b fun c=>(bif c then
 bnd (A.z prog .lss 21 D (.int .i32 128)) fun f=>aF f fun i=>k (.bool i) D B h
 else
 k (.bool false) D B h)
noncomputable def cIg (k:K1 β):=bnd (A.conv prog 21 5 D) fun c=>aD (C 158 [B,c] h) fun d e=>k d e
noncomputable def bHl (k:K3 β):=bnd (A.z prog .eql 21 D (.int .i32 65533)) fun b=>aF b fun c=>k (.bool c) D B h
def cIh (k:K1 β):=aD (A.zZ B h) fun b c=>k b c
noncomputable def bQx (r:K1 β)(k:K0 β)(n:K1 β):=aD (A.yC xb h) fun a b=>bnd (A.u 0 a) fun c=>aF c fun d=>(bif d then
 bnd (A.u 1 a) fun e=>bnd (A.u 2 a) fun f=>bnd (A.z prog .eql 21 f (.int .i32 65533)) fun l=>aF l fun m=>(bif m then
 r e b
 else
 n xb b)
 else
 k b)
def aXk (C:CF)(L:Nat){β:Type}(r:K1 β)(k:K0 β):Nat→K1 β
 |0,_,_=>none
 |n+1,xb,h=>bQx h xb r k (fun xb h=>aXk C L r k n xb h)
def bVn (C:CF)(L:Nat)(K:KK β):∀n,M (fun f h=>Lw prog C L 3 187 [4] (gB Tryz.f138.body 1764) [175] [(9,[]),(0,[4])] n f h K) [175]=aXk C L (R K [4]) (X K 9 []) n:=by refine lw [175] [175] (F:=fun k xb h=>bQx h xb (R K [4]) (X K 9 []) k) ?_ ?_ ?_<;>intros<;>kernel_rfl
def bRz (r:K1 β)(k:K0 β):=cIh h B (fun xb h=>aXk C L r k L xb h)
def cLk (k:K1 β):=k (iN (-1)) h
noncomputable def bQz (k:K3 β):=aD (C 159 [D] h) fun b c=>aF b fun d=>bnd (A.un prog .not (.bool d)) fun e=>aF e fun f=>k (.bool f) D B c
def cIi (k:K1 β):=k (iN (-1)) h
noncomputable def cIo (k:K2 β):=bnd (A.conv prog 21 9 D) fun b=>k B b h
noncomputable def bQy (k:K4 β):=bnd (A.zH N) fun b=>bnd (A.z prog .sub 3 b (iN 1)) fun c=>k c c B N h
noncomputable def bHk (k:K0 β)(n:K4 β):=bnd (A.zH B) fun c=>bnd (A.z prog .lss 3 G c) fun d=>aF d fun e=>(bif e then
 n N B G E h
 else
 k h)
noncomputable def cIn (k:K5 β):=bnd (A.zD B G) fun c=>bnd (A.zD N E) fun f=>bnd (A.z prog .neq 5 c f) fun i=>aF i fun j=>k (.bool j) N B G E h
noncomputable def cIm (r:K1 β)(a:K4 β):=aP xi (bnd (A.z prog .add 3 G (iN 1)) fun c=>bnd (A.zN B (some c) none) fun d=>bnd (A.zD N E) fun i=>aD (C 158 [d,i] h) fun j k=>bnd (A.z prog .lss 3 j (iN 0)) fun n=>aF n fun o=>(bif o then
 r (iN (-1)) k
 else
 bnd (A.z prog .add 3 j (iN 1)) fun s=>bnd (A.z prog .add 3 G s) fun t=>a N B t E k)) (a N B G E h)
def bRt (r:K1 β)(k:K4 β):=cIn h B N E G (fun xi N B G E h=>cIm C h B N E G xi r k)
def cLl (k:K5 β):=k (iN 1) N B G E h
noncomputable def cIl (a:K2 β)(n:K5 β):=bnd (A.zH N) fun c=>bnd (A.z prog .lss 3 Z c) fun d=>aF d fun e=>(bif e then
 bnd (A.z prog .sub 3 G Z) fun k=>bnd (A.zD B k) fun l=>bnd (A.z prog .sub 3 E Z) fun p=>bnd (A.zD N p) fun q=>bnd (A.z prog .neq 5 l q) fun r=>aF r fun s=>(bif s then
 none
 else
 bnd (A.z prog .add 3 Z (iN 1)) fun u=>n u N B G E h)
 else
 a G E h)
def bRj (C:CF)(L:Nat){β:Type}(k:K2 β):Nat→K5 β
 |0,_,_,_,_,_,_=>none
 |n+1,Z,N,B,G,E,h=>cIl h B N E G Z k (fun Z N B G E h=>bRj C L k n Z N B G E h)
def bVf (C:CF)(L:Nat)(K:KK β):∀n,M (fun f h=>Lw prog C L 3 187 [4] (gB Tryz.f138.body 29325460) [12,7,0,9,8] [(3,[9,8]),(2,[8,9,0,7]),(1,[]),(0,[4])] n f h K) [12,7,0,9,8]=bRj C L (X K 3 [9,8]) n:=by refine lw [12,7,0,9,8] [12,7,0,9,8] (F:=fun k Z N B G E h=>cIl h B N E G Z (X K 3 [9,8]) k) ?_ ?_ ?_<;>intros<;>kernel_rfl
def bRv (k:K2 β):=cLl h B N E G (fun Z N B G E h=>bRj C L k L Z N B G E h)
noncomputable def cIk (k:K1 β):=bnd (A.z prog .sub 3 G E) fun c=>k c h
def aMs (C:CF)(L:Nat)(r:K1 β)(k:K0 β):Nat→K4 β
 |0,_,_,_,_,_=>none
 |n+1,E,G,B,N,h=>bHk h B N E G k (fun N B G E h=>bRt C h B N E G r (fun N B G E h=>bRv C L h B N E G (fun G E h=>cIk h E G r)))
def bWy (C:CF)(L:Nat)(K:KK β):∀n,M (fun f h=>Lw prog C L 3 187 [4] (gB Tryz.f138.body 114552) [8,9,0,7] [(1,[]),(0,[4])] n f h K) [8,9,0,7]=aMs C L (R K [4]) (X K 1 []) n:=by refine lw [8,9,0,7] [8,9,0,7] (F:=fun a E G B N h=>bHk h B N E G (X K 1 []) (fun N B G E h=>bRt C h B N E G (R K [4]) (fun N B G E h=>bRv C L h B N E G (fun G E h=>cIk h E G (R K [4]))))) ?_ ?_ (fun a=>w4 fun E G B N h=>(y 1 [7,0,9,8] ?_ (w4 fun N B G E h=>(bk 2 (sc (q [7,0,9,8] (fun k=>?_) (w4 fun N B G E h=>(q [9,8] (fun k=>(by unfold bRv;refine(y 1 [12,7,0,9,8] ?_ (w5 fun Z N B G E h=>(bk 3 (lp (c5 (bVf C L _ L) Z N B G E h) ?_) ?_)) ?_)<;>intros<;>kernel_rfl)) ?_ ?_)) ?_) ?_) ?_)) ?_))<;>intros<;>kernel_rfl
def cIj (k:K1 β):=k (iN (-1)) h
def bDn (C:CF)(L:Nat)(B N:V)(h:H)(k:K1 β):=bQy h B N (fun E G B N h=>aMs C L k (fun h=>cIj h k) L E G B N h)
def aTe (C:CF)(L:Nat)(xe D B:V)(h:H)(k:K1 β):=bHl h B D (fun xj D B h=>aP xj (bRz C L h B k (fun h=>cLk h k)) (bQz C h B D (fun xk D B h=>aP xk (cIi h k) (cIo h B D (fun B N h=>bDn C L B N h k)))))
def bDq (C:CF)(L:Nat)(D B:V)(h:H)(k:K1 β):=bRa h B D (fun xe D B h=>aP xe (cIg C h B D k) (aTe C L xe D B h k))
def aLy (k:K1 β):=bRb h B D (fun D B h=>bDq C L D B h k)
def bLw:execK prog C L 3 187 [4] (gB Tryz.f138.body 1) [4] [] (r2 0 1 B D) h K=aLy C L h B D (R K [4]):=by unfold aLy;refine(y 1 [1,0] ?_ (w2 fun D B h=>(by unfold bDq;refine(bk 0 (y 1 [160,1,0] ?_ (w3 fun xe D B h=>(cd ?_ (by unfold aTe;refine(y 1 [171,1,0] ?_ (w3 fun xj D B h=>(cd (q [] (fun k=>(by unfold bRz;refine(y 1 [175] ?_ (w1 fun xb h=>(bk 9 (lp (c1 (bVn C L _ L) xb h) ?_) ?_)) ?_)<;>intros<;>kernel_rfl)) ?_ ?_) (y 1 [183,1,0] ?_ (w3 fun xk D B h=>(cd ?_ (sc (y 1 [0,7] ?_ (w2 fun B N h=>(by unfold bDn;refine(y 3 [8,9,0,7] ?_ (w4 fun E G B N h=>(q [] (A:=fun z=>aMs C L (R K [4]) z L E G B N h) (fun k=>(bk 1 (lp (c4 (bWy C L _ L) E G B N h) ?_) ?_)) (w0 fun h=>(s0 [1,9,7,0,8] ?_ ?_)) ?_)) ?_)<;>intros<;>kernel_rfl)) ?_) ?_) ?_)) ?_) ?_)) ?_)<;>intros<;>kernel_rfl) ?_)) ?_) ?_)<;>intros<;>kernel_rfl)) ?_)<;>intros<;>kernel_rfl
def bUg (C:CF)(L:Nat)(B D:V)(h:H):=aLy C L h B D rS
def bMz (Q:Orc)(n:Nat)(B D:V)(h:H)(q:Q 138 [B,D]=none):=(tq q Tryz.func138 (bLw _ n h _ B D) (by kernel_rfl):_=bUg (aK prog 3 Q n) n B D h)
noncomputable def aYi (k:K1 β):=bnd (A.z prog .gtr 3 B (iN 8)) fun c=>aF c fun d=>k (.bool d) h
def bLv:execK prog C L 3 5 [2] (gB Tryz.f139.body 1) [2] [] (r1 0 B) h K=aYi h B (R K [2]):=by kernel_rfl
def cKi (C:CF)(L:Nat)(B:V)(h:H):=aYi h B rS
def bMy (Q:Orc)(n:Nat)(B:V)(h:H)(q:Q 139 [B]=none):=(tq q Tryz.func139 (bLv _ n h _ B) (by kernel_rfl):_=cKi (aK prog 3 Q n) n B h)
def aYh (k:K1 β):=bnd (A.zR B) fun d=>bnd (A.yL 256 1 d D) fun e=>bnd (A.load false 1 e h) fun f=>aF f fun i=>k (.bool i) h
def bLu:execK prog C L 3 10 [4] (gB Tryz.f141.body 1) [4] [] (r2 0 1 B D) h K=aYh h B D (R K [4]):=by kernel_rfl
def cKh (C:CF)(L:Nat)(B D:V)(h:H):=aYh h B D rS
def bMx (Q:Orc)(n:Nat)(B D:V)(h:H)(q:Q 141 [B,D]=none):=(tq q Tryz.func141 (bLu _ n h _ B D) (by kernel_rfl):_=cKh (aK prog 3 Q n) n B D h)
noncomputable def cIq (r:K1 β)(a:K3 β):=bnd (A.zH D) fun c=>bnd (A.z prog .eql 3 c (iN 0)) fun d=>aF d fun e=>(bif e then
 aD (C 155 [B] h) fun i j=>bnd (A.z prog .add 3 i (iN 1)) fun k=>r k j
 else
 bnd (A.zH D) fun n=>bnd (A.z prog .eql 3 n (iN 1)) fun o=>aF o fun p=>(bif p then
 bnd (A.zD D (iN 0)) fun s=>aD (C 156 [B,s] h) fun t u=>r t u
 else
 a (iN 0) B D h))
noncomputable def cIp (r:K1 β)(k:K3 β):=aD (C 137 [B,D] h) fun c d=>bnd (A.z prog .eql 3 c (iN (-1))) fun i=>aF i fun j=>(bif j then
 r I d
 else
 bnd (A.z prog .add 3 I (iN 1)) fun n=>bnd (A.zH D) fun s=>bnd (A.z prog .add 3 c s) fun t=>bnd (A.zN B (some t) none) fun u=>k n u D d)
def bRk (C:CF)(L:Nat){β:Type}(k:K1 β):Nat→K3 β
 |0,_,_,_,_=>none
 |n+1,I,B,D,h=>cIp C h B D I k (fun I B D h=>bRk C L k n I B D h)
def bVg (C:CF)(L:Nat)(K:KK β):∀n,M (fun f h=>Lw prog C L 3 34 [4] (gB Tryz.f136.body 124) [5,0,1] [(0,[4])] n f h K) [5,0,1]=bRk C L (R K [4]) n:=by refine lw [5,0,1] [5,0,1] (F:=fun k I B D h=>cIp C h B D I (R K [4]) k) ?_ ?_ ?_<;>intros<;>kernel_rfl
def aRe (k:K1 β):=cIq C h B D k (fun I B D h=>bRk C L k L I B D h)
def bLy:execK prog C L 3 34 [4] (gB Tryz.f136.body 1) [4] [] (r2 0 1 B D) h K=aRe C L h B D (R K [4]):=by unfold aRe;refine(y 4 [5,0,1] ?_ (w3 fun I B D h=>(bk 0 (lp (c3 (bVg C L _ L) I B D h) ?_) ?_)) ?_)<;>intros<;>kernel_rfl
def cKk (C:CF)(L:Nat)(B D:V)(h:H):=aRe C L h B D rS
def bNb (Q:Orc)(n:Nat)(B D:V)(h:H)(q:Q 136 [B,D]=none):=(tq q Tryz.func136 (bLy _ n h _ B D) (by kernel_rfl):_=cKk (aK prog 3 Q n) n B D h)
def aYj (k:K1 β):=aD (C 157 [B,D] h) fun d e=>k d e
def bLx:execK prog C L 3 8 [4] (gB Tryz.f137.body 1) [4] [] (r2 0 1 B D) h K=aYj C h B D (R K [4]):=by kernel_rfl
def cKj (C:CF)(L:Nat)(B D:V)(h:H):=aYj C h B D rS
def bNa (Q:Orc)(n:Nat)(B D:V)(h:H)(q:Q 137 [B,D]=none):=(tq q Tryz.func137 (bLx _ n h _ B D) (by kernel_rfl):_=cKj (aK prog 3 Q n) n B D h)
noncomputable def bQv (a:K2 β)(k:K4 β):=bnd (A.zH B) fun d=>bnd (A.z prog .lss 3 d (iN 1)) fun i=>aF i fun j=>(bif j then
 a (.int .i32 65533) (iN 0) h
 else
 bnd (A.zD B (iN 0)) fun n=>bnd (A.yL 256 1 (.pointer (some ⟨1,0,none⟩)) n) fun q=>bnd (A.load false 1 q h) fun r=>k r d B n h)
noncomputable def bQu (s:K2 β)(p:K5 β):=bnd (A.z prog .geq 5 S (iU 240)) fun b=>aF b fun c=>(bif c then
 bnd (A.conv prog 5 21 S) fun e=>bnd (A.z prog .shl 21 e (.int .u64 31)) fun f=>bnd (A.z prog .shr 21 f (.int .u64 31)) fun i=>bnd (A.zD B (iN 0)) fun l=>bnd (A.conv prog 5 21 l) fun m=>bnd (A.z prog .andNot 21 m i) fun o=>bnd (A.z prog .and 21 (.int .i32 65533) i) fun q=>bnd (A.z prog .or 21 o q) fun r=>s r (iN 1) h
 else
 bnd (A.z prog .and 5 S (iU 7)) fun v=>bnd (A.conv prog 5 3 v) fun w=>bnd (A.z prog .shr 5 S (.int .u64 4)) fun a=>bnd (A.yL 16 2 (.pointer (some ⟨2,0,none⟩)) a) fun j=>bnd (A.load true 2 j h) fun c1=>aD (A.box 2 Z205 h) fun d k=>bnd (A.store 2 d c1 k) fun n=>p Y d w B I n)
noncomputable def aWw (k:K2 β)(a:K4 β):=bnd (A.z prog .lss 3 Y E) fun c=>aF c fun d=>(bif d then
 k (.int .i32 65533) (iN 1) h
 else
 bnd (A.zD B (iN 1)) fun j=>bnd (A.zA 0 G) fun m=>bnd (A.load false 1 m h) fun n=>bnd (A.z prog .lss 5 j n) fun o=>aF o fun p=>(bif p then
 k (.int .i32 65533) (iN 1) h
 else
 bnd (A.zA 1 G) fun u=>bnd (A.load false 1 u h) fun v=>bnd (A.z prog .lss 5 v j) fun y=>aF y fun z=>(bif z then
 k (.int .i32 65533) (iN 1) h
 else
 a E B I j h)))
noncomputable def bQt (r:K2 β)(n:K5 β):=bnd (A.z prog .leq 3 E (iN 2)) fun b=>aF b fun c=>(bif c then
 bnd (A.z prog .and 5 I (iU 31)) fun e=>bnd (A.conv prog 5 21 e) fun f=>bnd (A.z prog .shl 21 f (.int .u64 6)) fun i=>bnd (A.z prog .and 5 J (iU 63)) fun k=>bnd (A.conv prog 5 21 k) fun l=>bnd (A.z prog .or 21 i l) fun m=>r m (iN 2) h
 else
 bnd (A.zD B (iN 2)) fun q=>n E B I J q h)
noncomputable def aSd (r:K2 β)(n:K5 β):=bnd (A.z prog .lss 5 W (iU 128)) fun b=>aF b fun c=>(bif c then
 r (.int .i32 65533) (iN 1) h
 else
 bnd (A.z prog .lss 5 (iU 191) W) fun k=>aF k fun l=>(bif l then
 r (.int .i32 65533) (iN 1) h
 else
 n E B I J W h))
noncomputable def bCp (d:K2 β)(a:K4 β):=bnd (A.z prog .leq 3 E (iN 3)) fun b=>aF b fun c=>(bif c then
 bnd (A.z prog .and 5 I (iU 15)) fun e=>bnd (A.conv prog 5 21 e) fun f=>bnd (A.z prog .shl 21 f (.int .u64 12)) fun i=>bnd (A.z prog .and 5 J (iU 63)) fun k=>bnd (A.conv prog 5 21 k) fun l=>bnd (A.z prog .shl 21 l (.int .u64 6)) fun m=>bnd (A.z prog .or 21 i m) fun n=>bnd (A.z prog .and 5 W (iU 63)) fun p=>bnd (A.conv prog 5 21 p) fun q=>bnd (A.z prog .or 21 n q) fun r=>d r (iN 3) h
 else
 a B I J W h)
noncomputable def bHi (k:K2 β):=bnd (A.zD B (iN 3)) fun b=>bnd (A.z prog .lss 5 b (iU 128)) fun e=>aF e fun f=>(bif f then
 k (.int .i32 65533) (iN 1) h
 else
 bnd (A.z prog .lss 5 (iU 191) b) fun n=>aF n fun o=>(bif o then
 k (.int .i32 65533) (iN 1) h
 else
 bnd (A.z prog .and 5 I (iU 7)) fun t=>bnd (A.conv prog 5 21 t) fun u=>bnd (A.z prog .shl 21 u (.int .u64 18)) fun v=>bnd (A.z prog .and 5 J (iU 63)) fun y=>bnd (A.conv prog 5 21 y) fun z=>bnd (A.z prog .shl 21 z (.int .u64 12)) fun a=>bnd (A.z prog .or 21 v a) fun c=>bnd (A.z prog .and 5 W (iU 63)) fun d=>bnd (A.conv prog 5 21 d) fun i=>bnd (A.z prog .shl 21 i (.int .u64 6)) fun j=>bnd (A.z prog .or 21 c j) fun l=>bnd (A.z prog .and 5 b (iU 63)) fun m=>bnd (A.conv prog 5 21 m) fun p=>bnd (A.z prog .or 21 l p) fun q=>k q (iN 4) h))
def aQw (C:CF)(L:Nat)(E B I J W:V)(h:H)(k:K2 β):=aSd h B I E J W k (fun E B I J W h=>bCp h B I E J W k (fun B I J W h=>bHi h B I J W k))
def aMx (C:CF)(L:Nat)(Y G E B I:V)(h:H)(k:K2 β):=aWw h B Y I E G k (fun E B I J h=>bQt h B I E J k (fun E B I J W h=>aQw C L E B I J W h k))
def aGe (C:CF)(L:Nat)(B:V)(h:H)(k:K2 β):=bQv h B k (fun S Y B I h=>bQu h B Y I S k (fun Y G E B I h=>aMx C L Y G E B I h k))
def bLr:execK prog C L 3 117 [2,3] (gB Tryz.f154.body 1) [2,3] [] (r1 0 B) h K=aGe C L B h (R K [2,3]):=by unfold aGe;refine(y 5 [6,4,0,5] ?_ (w4 fun S Y B I h=>(y 3 [4,9,8,0,5] ?_ (w5 fun Y G E B I h=>?_) ?_)) ?_)<;>intros<;>kernel_rfl
def bUf (C:CF)(L:Nat)(B:V)(h:H):O (V×H):=aGe C L B h (fun U P h=>some (.tuple ⟨[U,P]⟩,h))
def bMu (Q:Orc)(n:Nat)(B:V)(h:H)(q:Q 154 [B]=none):=(tq q Tryz.func154 (bLr _ n h _ B) (by kernel_rfl):_=bUf (aK prog 3 Q n) n B h)
def aYf (k:K1 β):=aD (C 165 [B,D] h) fun d e=>k d e
def bLp:execK prog C L 3 8 [4] (gB Tryz.f158.body 1) [4] [] (r2 0 1 B D) h K=aYf C h B D (R K [4]):=by kernel_rfl
def cKf (C:CF)(L:Nat)(B D:V)(h:H):=aYf C h B D rS
def bMs (Q:Orc)(n:Nat)(B D:V)(h:H)(q:Q 158 [B,D]=none):=(tq q Tryz.func158 (bLp _ n h _ B D) (by kernel_rfl):_=cKf (aK prog 3 Q n) n B D h)
def bCo (k:K1 β):=k B h
noncomputable def bCn (k:K2 β):=bnd (A.z prog .leq 21 (.int .i32 0) B) fun b=>aF b fun c=>(bif c then
 bnd (A.z prog .lss 21 B (.int .i32 55296)) fun f=>aF f fun i=>k (.bool i) B h
 else
 k (.bool false) B h)
def cHs (k:K1 β):=k (.bool true) h
noncomputable def bHh (r:K1 β)(k:K0 β):=bnd (A.z prog .lss 21 (.int .i32 57343) B) fun b=>aF b fun c=>(bif c then
 bnd (A.z prog .leq 21 B (.int .i32 1114111)) fun f=>aF f fun i=>(bif i then
 r (.bool true) h
 else
 k h)
 else
 k h)
def bDi (k:K1 β)(n:K0 β):=bCn h B (fun P B h=>aP P (cHs h k) (bHh h B k n))
def bQq (k:K1 β):=k (.bool false) h
def aEi (k:K1 β):=bCo h B (fun B h=>bDi h B k (fun h=>bQq h k))
def bLo:execK prog C L 3 17 [2] (gB Tryz.f159.body 1) [2] [] (r1 0 B) h K=aEi h B (R K [2]):=by unfold aEi;refine(y 1 [0] ?_ (w1 fun B h=>(q [] (fun k=>(bk 0 ?_ ?_)) ?_ ?_)) ?_)<;>intros<;>kernel_rfl
def bEi (C:CF)(L:Nat)(B:V)(h:H):=aEi h B rS
def bMr (Q:Orc)(n:Nat)(B:V)(h:H)(q:Q 159 [B]=none):=(tq q Tryz.func159 (bLo _ n h _ B) (by kernel_rfl):_=bEi (aK prog 3 Q n) n B h)
def bQs (k:K3 β):=bnd (A.zH D) fun c=>k B D c h
noncomputable def bQr (n:K4 β):=bnd (A.z prog .eql 3 I (iN 0)) fun b=>aF b fun c=>(bif c then
 n (.bool true) B D I h
 else
 bnd (A.z prog .eql 9 D B) fun k=>aF k fun l=>n (.bool l) B D I h)
def cIa (k:K1 β):=k (iN 0) h
noncomputable def cIc (k:K4 β):=bnd (A.z prog .eql 3 I (iN 1)) fun b=>aF b fun c=>k (.bool c) B D I h
def cIb (k:K1 β):=bnd (A.zD D (iN 0)) fun c=>aD (C 165 [B,c] h) fun d e=>k d e
noncomputable def cLj (k:K4 β):=bnd (A.zH B) fun c=>bnd (A.z prog .geq 3 I c) fun d=>aF d fun e=>k (.bool e) B D I h
def cLh (k:K1 β):=k (iN (-1)) h
noncomputable def cLi (r:K1 β)(n:K3 β):=bnd (A.load false 1 (.pointer (some ⟨0,0,none⟩)) h) fun b=>bnd (A.z prog .leq 3 I b) fun c=>aF c fun d=>(bif d then
 bnd (A.zH B) fun i=>bnd (A.z prog .leq 3 i (iN 64)) fun j=>aF j fun k=>(bif k then
 aD (C 161 [B,D] h) fun p q=>r p q
 else
 n B D I h)
 else
 n B D I h)
def bSh (k:K1 β)(n:K3 β):=bQr h B D I (fun xl B D I h=>aP xl (cIa h k) (cIc h B D I (fun xm B D I h=>aP xm (cIb C h B D k) (cLj h B D I (fun xn B D I h=>aP xn (cLh h k) (cLi C h B D I k n))))))
noncomputable def cLg (a:K8 β):=bnd (A.zD D (iN 0)) fun b=>bnd (A.zD D (iN 1)) fun e=>bnd (A.zH B) fun k=>bnd (A.z prog .sub 3 k I) fun m=>bnd (A.z prog .add 3 m (iN 1)) fun n=>a B D n I (iN 0) (iN 0) e b h
noncomputable def cHz (k:K0 β)(n:K8 β):=bnd (A.z prog .lss 3 E G) fun c=>aF c fun d=>(bif d then
 n E J B D G I N S h
 else
 k h)
noncomputable def cHy (r:K1 β)(n:K8 β):=bnd (A.zD B E) fun c=>bnd (A.z prog .neq 5 c S) fun e=>aF e fun f=>(bif f then
 bnd (A.z prog .add 3 E (iN 1)) fun k=>bnd (A.zN B (some k) (some G)) fun m=>aD (C 165 [m,S] h) fun o p=>bnd (A.z prog .lss 3 o (iN 0)) fun s=>aF s fun t=>(bif t then
 r (iN (-1)) p
 else
 bnd (A.z prog .add 3 o (iN 1)) fun y=>bnd (A.z prog .add 3 E y) fun z=>n z J B D G I N S p)
 else
 n E J B D G I N S h)
noncomputable def cHx (a:K1 β)(k:K8 β):=bnd (A.z prog .add 3 E (iN 1)) fun c=>bnd (A.zD B c) fun d=>bnd (A.z prog .eql 5 d N) fun f=>aF f fun i=>(bif i then
 bnd (A.z prog .add 3 E I) fun o=>bnd (A.zN B (some E) (some o)) fun p=>bnd (A.z prog .eql 9 p D) fun r=>aF r fun s=>(bif s then
 a E h
 else
 k E J B D G I N S h)
 else
 k E J B D G I N S h)
noncomputable def cHw (n:K9 β):=bnd (A.z prog .add 3 E (iN 1)) fun b=>bnd (A.z prog .add 3 J (iN 1)) fun e=>bnd (A.load false 1 (.pointer (some ⟨0,0,none⟩)) h) fun j=>bnd (A.z prog .leq 3 I j) fun k=>aF k fun l=>(bif l then
 aD (C 160 [b] h) fun p q=>bnd (A.z prog .gtr 3 e p) fun r=>aF r fun s=>n (.bool s) B D G I e b N S q
 else
 n (.bool false) B D G I e b N S h)
noncomputable def cHt (r:K1 β):=bnd (A.zN B (some E) none) fun c=>aD (C 161 [c,D] h) fun e f=>bnd (A.z prog .geq 3 e (iN 0)) fun k=>aF k fun l=>(bif l then
 bnd (A.z prog .add 3 e E) fun o=>r o f
 else
 r (iN (-1)) f)
noncomputable def cHv (n:K9 β):=bnd (A.load false 1 (.pointer (some ⟨0,0,none⟩)) h) fun b=>bnd (A.z prog .gtr 3 I b) fun c=>aF c fun d=>(bif d then
 bnd (A.z prog .shr 3 E (.int .u64 4)) fun j=>bnd (A.z prog .add 3 (iN 4) j) fun k=>bnd (A.z prog .geq 3 J k) fun l=>aF l fun m=>(bif m then
 bnd (A.z prog .lss 3 E G) fun r=>aF r fun s=>n (.bool s) B D G I J E N S h
 else
 n (.bool false) B D G I J E N S h)
 else
 n (.bool false) B D G I J E N S h)
noncomputable def cHu (r:K1 β)(n:K8 β):=aP g (bnd (A.zN B (some E) none) fun c=>aD (C 166 [c,D] h) fun e f=>bnd (A.z prog .lss 3 e (iN 0)) fun k=>aF k fun l=>(bif l then
 r (iN (-1)) f
 else
 bnd (A.z prog .add 3 E e) fun p=>r p f)) (n B D G I J E N S h)
def bHq (C:CF)(L:Nat){β:Type}(k:K1 β)(a:K0 β):Nat→K8 β
 |0,_,_,_,_,_,_,_,_,_=>none
 |n+1,B,D,G,I,J,E,N,S,h=>cHz h B D I S N E G J a (fun E J B D G I N S h=>cHy C h B D I S N E G J k (fun E J B D G I N S h=>cHx h B D I S N E G J k (fun E J B D G I N S h=>cHw C h B D I S N E G J (fun xc B D G I J E N S h=>aP xc (cHt C h B D E k) (cHv h B D I S N E G J (fun g B D G I J E N S h=>cHu C h B D I S N E G J g k (fun B D G I J E N S h=>bHq C L k a n B D G I J E N S h)))))))
def bVh (C:CF)(L:Nat)(K:KK β):∀n,M (fun f h=>Lw prog C L 3 143 [4] (gB Tryz.f157.body 4088) [0,1,9,5,10,8,7,6] [(1,[])] n f h K) [0,1,9,5,10,8,7,6]=bHq C L (R K [4]) (X K 1 []) n:=by refine lw [0,1,9,5,10,8,7,6] [0,1,9,5,10,8,7,6] (F:=fun k B D G I J E N S h=>cHz h B D I S N E G J (X K 1 []) (fun E J B D G I N S h=>cHy C h B D I S N E G J (R K [4]) (fun E J B D G I N S h=>cHx h B D I S N E G J (R K [4]) (fun E J B D G I N S h=>cHw C h B D I S N E G J (fun xc B D G I J E N S h=>aP xc (cHt C h B D E (R K [4])) (cHv h B D I S N E G J (fun g B D G I J E N S h=>cHu C h B D I S N E G J g (R K [4]) k))))))) ?_ ?_ (fun k=>w8 fun B D G I J E N S h=>(y 1 [8,10,0,1,9,5,7,6] ?_ (w8 fun E J B D G I N S h=>(bk 2 (y 1 [8,10,0,1,9,5,7,6] ?_ (w8 fun E J B D G I N S h=>(y 1 [8,10,0,1,9,5,7,6] ?_ (w8 fun E J B D G I N S h=>(y 3 [107,0,1,9,5,10,8,7,6] ?_ (w9 fun xc B D G I J E N S h=>(cd ?_ (y 1 [132,0,1,9,5,10,8,7,6] ?_ ?_ ?_) ?_)) ?_)) ?_)) ?_) ?_)) ?_))<;>intros<;>kernel_rfl
def cLf (k:K1 β):=k (iN (-1)) h
def aLx (k:K1 β):=bQs h B D (fun B D I h=>bSh C h B D I k (fun B D I h=>cLg h B D I (fun B D G I J E N S h=>bHq C L k (fun h=>cLf h k) L B D G I J E N S h)))
def bLq:execK prog C L 3 143 [4] (gB Tryz.f157.body 1) [4] [] (r2 0 1 B D) h K=aLx C L h B D (R K [4]):=by unfold aLx;refine(y 2 [0,1,5] ?_ (w3 fun B D I h=>(q [0,1,5] (fun k=>(bk 0 ?_ ?_)) (w3 fun B D I h=>(y 5 [0,1,9,5,10,8,7,6] ?_ (w8 fun B D G I J E N S h=>(q [] (A:=fun z=>bHq C L (R K [4]) z L B D G I J E N S h) (fun k=>(bk 1 (lp (c8 (bVh C L _ L) B D G I J E N S h) ?_) ?_)) ?_ ?_)) ?_)) ?_)) ?_)<;>intros<;>kernel_rfl
def bUe (C:CF)(L:Nat)(B D:V)(h:H):=aLx C L h B D rS
def bMt (Q:Orc)(n:Nat)(B D:V)(h:H)(q:Q 157 [B,D]=none):=(tq q Tryz.func157 (bLq _ n h _ B D) (by kernel_rfl):_=bUe (aK prog 3 Q n) n B D h)
def aYe (k:K1 β):=aD (C 168 [B,D] h) fun d e=>k d e
def bLn:execK prog C L 3 8 [4] (gB Tryz.f165.body 1) [4] [] (r2 0 1 B D) h K=aYe C h B D (R K [4]):=by kernel_rfl
def cKe (C:CF)(L:Nat)(B D:V)(h:H):=aYe C h B D rS
def bMq (Q:Orc)(n:Nat)(B D:V)(h:H)(q:Q 165 [B,D]=none):=(tq q Tryz.func165 (bLn _ n h _ B D) (by kernel_rfl):_=cKe (aK prog 3 Q n) n B D h)
end
end Go.Proofs.YtbmdhjdgpeleoaaGreatDoor.TaA
