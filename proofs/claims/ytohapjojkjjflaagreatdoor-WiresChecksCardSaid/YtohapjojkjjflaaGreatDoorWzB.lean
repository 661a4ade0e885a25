import Derived.Test.YtohapjojkjjflaaGreatDoorProg
import Derived.Test.YtohapjojkjjflaaGreatDoorRq
import Derived.Test.YtohapjojkjjflaaGreatDoorWzO
set_option linter.unusedVariables false
set_option linter.defProp false
set_option maxRecDepth 100000
namespace Go.Proofs.YtohapjojkjjflaaGreatDoor.WzB
open Tryz (prog)
open Go Go.AM Go.AM.Pk WzO
noncomputable def Z38L:List V:=[(.int .u8 0),(.bool false),(.int .u8 0),(.bool false),(.int .u16 0),(.string ⟨⟨[]⟩⟩),(.string ⟨⟨[]⟩⟩),(.int .u8 0),(.bool false),(.int .u16 0),(.string ⟨⟨[]⟩⟩),(.bool false),(.string ⟨⟨[]⟩⟩),(.string ⟨⟨[]⟩⟩),(.int .u8 0),(.bool false),(.bool false),(.bool false),(.string ⟨⟨[]⟩⟩),(.string ⟨⟨[]⟩⟩),(.bool false),(.int .u8 0),(.slice none 0 0),(.string ⟨⟨[]⟩⟩)]
noncomputable def Z38:V:=.agg ⟨Z38L⟩
noncomputable def Z91L:List V:=[(.string ⟨⟨[]⟩⟩)]
noncomputable def Z56L:List V:=[(.string ⟨⟨[]⟩⟩),(.int .u8 0)]
noncomputable def Z56:V:=.agg ⟨Z56L⟩
noncomputable def Z3L:List V:=[(.int .i64 0)]
noncomputable def Z35L:List V:=[(.string ⟨⟨[]⟩⟩),(.string ⟨⟨[]⟩⟩),(.int .u8 0),(.bool false)]
noncomputable def Z35:V:=.agg ⟨Z35L⟩
noncomputable def Z5L:List V:=[(.int .u8 0)]
variable (C:CF)(L:Nat){β:Type}(h:H)(K:KK β)(B D P E G I J S U W Z xd Y xe xf xa xg xh xi xj xk xl xm xn xo xp xq xb xr xs xt xu xv xw xx xy xc:V)
noncomputable def bIg:Code:=(Tryz.f18.body).getD .skip
noncomputable def aEb (kr:K3 β)(kn:K5 β):=aE (A.zJ 24 Z38 h) fun a b=>bI .eql 9 B (.string ⟨⟨[]⟩⟩)
 (bnd (A.zF Z38L []) fun j=>bnd (A.store 24 a j b) fun l=>kr a (.int .i64 0) (.int .i64 2) l)
 (bnd (A.zB B (.int .i64 0)) fun p=>aE (C 37 [p] b) fun q r=>aP q fun s=>iK (.bool !s)
 (bnd (A.zF Z38L []) fun v=>bnd (A.store 24 a v r) fun y=>kr a (.int .i64 0) (.int .i64 4) y)
 (bnd (A.zE B (some (.int .i64 1)) none) fun c1=>aE (C 38 [c1] r) fun d1 e1=>bnd (A.z 0 d1) fun i1=>bnd (A.z 1 d1) fun j1=>bnd (A.z 2 d1) fun k1=>kn k1 i1 j1 B a e1))
noncomputable def aKo (kr:K3 β)(kn:K4 β):=bI .neq 3 S (.int .i64 0)
 (bnd (A.zF Z38L []) fun d=>bnd (A.store 24 P d h) fun i=>kr P (.int .i64 0) S i)
 (bnd (A.zA prog .add 3 (.int .i64 1) J) fun m=>bnd (A.zA prog .add 3 m I) fun o=>bnd (A.zC B) fun r=>bI .lss 3 r o
 (bnd (A.zF Z38L []) fun v=>bnd (A.store 24 P v h) fun y=>kr P (.int .i64 0) (.int .i64 2) y)
 (bnd (A.zA prog .add 3 (.int .i64 1) J) fun d1=>bnd (A.zE B (some d1) (some o)) fun f1=>kn B f1 o P h))
noncomputable def bGi (kn:K5 β):=bnd (A.zB B (.int .i64 0)) fun b=>bI .eql 5 b (.int .u8 16)
 (bnd (A.zC W) fun i=>bI .gtr 3 i (.int .i64 6)
 (bnd (A.zE W none (some (.int .i64 6))) fun o=>bI .eql 9 o (.string ⟨⟨[0,4,77,81,84,84]⟩⟩)
 (bnd (A.zB W (.int .i64 6)) fun u=>bB .neq 5 u (.int .u8 4) fun w=>kn (.bool w) B W U P h)
 (kn (.bool false) B W U P h))
 (kn (.bool false) B W U P h))
 (kn (.bool false) B W U P h)
noncomputable def aXk (kr:K3 β)(kn:K4 β):=aL xn (bnd (A.zB W (.int .i64 6)) fun b=>bnd (A.zF Z38L [(0,1,(.int .u8 1)),(7,1,b)]) fun c=>bnd (A.store 24 P c h) fun f=>kr P U (.int .i64 0) f) (kn B W U P h)
noncomputable def aLi (kr:K3 β)(kn:K4 β):=bGi h B P U W (fun xn B W U P h=>aXk h B P U W xn kr kn)
theorem bMj:aC prog C L 2 90 [2,3,4] (g bIg 1022) [0,9,8,2] [] (r4 0 9 8 2 B W U P) h K=aLi h B P U W (R K [2,3,4]) (N K [0,9,8,2]):=by unfold aLi;refine(q [61,0,9,8,2] ?_ ?_ ?_)<;>intros<;>kernel_rfl
noncomputable def bGh (kn:K5 β):=bnd (A.zB B (.int .i64 0)) fun b=>aE (C 39 [b,W] h) fun d e=>aE (A.zJ 24 Z38 e) fun f i=>bnd (A.store 24 f d i) fun k=>kn B W f U P k
noncomputable def aRs (kn:K4 β):=bnd (A.load true 24 Z h) fun a=>aE (C 40 [a] h) fun b c=>aP b fun d=>iK (.bool !d)
 (kn (.bool true) Z U P c)
 (bnd (A.load true 24 Z c) fun m=>aE (C 41 [m] c) fun n o=>bnd (A.zB B (.int .i64 0)) fun q=>bnd (A.conv prog 5 3 q) fun r=>bI .neq 3 n r
 (kn (.bool true) Z U P o)
 (bnd (A.load true 24 Z o) fun y=>aE (C 42 [y] o) fun z a1=>bB .neq 9 z W fun d1=>kn (.bool d1) Z U P a1))
noncomputable def aRr (kr kn:K3 β):=aL xs (bnd (A.zF Z38L []) fun a=>bnd (A.store 24 P a h) fun c=>kr P (.int .i64 0) (.int .i64 4) c) (kn Z U P h)
noncomputable def aEu (kr kn:K3 β):=aRs C h B P U W Z (fun xs Z U P h=>aRr h P U Z xs kr kn)
theorem bNb:aC prog C L 2 90 [2,3,4] (g bIg 4094) [10,8,2] [] (r5 0 9 10 8 2 B W Z U P) h K=aEu C h B P U W Z (R K [2,3,4]) (N K [10,8,2]):=by unfold aEu;refine(y 1 [86,10,8,2] ?_ ?_ ?_)<;>intros<;>kernel_rfl
noncomputable def cBe (kr:K3 β):=bnd (A.load true 24 Z h) fun a=>bnd (A.store 24 P a h) fun d=>kr P U (.int .i64 0) d
noncomputable def xU (kr:K3 β):=aEb C h B kr (fun S I J B P h=>aKo h B P I J S kr (fun B W U P h=>aLi h B P U W kr (fun B W U P h=>bGh C h B P U W (fun B W Z U P h=>aEu C h B P U W Z kr (fun Z U P h=>cBe h P U Z kr)))))
theorem bTe:aC prog C L 2 90 [2,3,4] (g bIg 1) [2,3,4] [] (r1 0 B) h K=xU C h B (R K [2,3,4]):=by unfold xU;refine(y 4 [7,5,6,0,2] ?_ (w5 fun S I J B P h=>(y 4 [0,9,8,2] ?_ (w4 fun B W U P h=>(q [0,9,8,2] (fun k=>(bMj C L h _ B P U W)) (w4 fun B W U P h=>(y 1 [0,9,10,8,2] ?_ (w5 fun B W Z U P h=>(q [10,8,2] (fun k=>(bNb C L h _ B P U W Z)) ?_ ?_)) ?_)) ?_)) ?_)) ?_)<;>intros<;>kernel_rfl
noncomputable def F18 (C:CF)(L:Nat)(B:V)(h:H):O (V×H):=xU C h B (fun P E G h=>bnd (rP (A.load true 24 P h) (rP (some E) (rP (some G) (some [])))) fun vs=>some (iT vs,h))
def bWw (Q:Orc)(n:Nat)(B:V)(h:H)(q:Q 18 [B]=none):=(tq q Tryz.func18 (bTe _ n h _ B) (by kernel_rfl) (by kernel_rfl):_=F18 (aA prog 2 Q n) n B h)
noncomputable def bAz:Code:=(Tryz.f38.body).getD .skip
noncomputable def aWu (kn:K2 β):=kn B (.int .i64 0) h
noncomputable def aQy (kx0 kn:K2 β):=bnd (A.zC B) fun c=>bI .lss 3 I c
 (bnd (A.zB B I) fun k=>bI .geq 5 k (.int .u8 128)
 (bnd (A.zA prog .add 3 I (.int .i64 1)) fun p=>kn B p h)
 (kx0 B I h))
 (kx0 B I h)
noncomputable def aBc (C:CF)(L:Nat){β:Type}(kx0:K2 β):Nat→K2 β
 |0,_,_,_=>none
 |n+1,B,I,h=>aQy h B I kx0 (fun B I h=>aBc C L kx0 n B I h)
theorem bLh (C:CF)(L:Nat){β:Type}(K:KK β):∀n,M (fun fr h=>Lw prog C L 2 44 [2,3,4] (g bAz 56) [0,5] [(0,[0,5])] n fr h K) [0,5]=aBc C L (X K 0 [0,5]) n:=by refine lw [0,5] [0,5] (F:=fun kn B I h=>aQy h B I (X K 0 [0,5]) kn) ?_ ?_ ?_<;>intros<;>kernel_rfl
noncomputable def aWt (kr kn:K3 β):=bI .geq 3 I (.int .i64 4)
 (kr (.int .i64 0) (.int .i64 0) (.int .i64 4) h)
 (bnd (A.zC B) fun k=>bI .eql 3 I k
 (kr (.int .i64 0) (.int .i64 0) (.int .i64 2) h)
 (kn B (.int .i64 0) I h))
noncomputable def bZh (kn:K4 β):=kn (.int .i64 0) B J I h
noncomputable def aWs (kx2:K2 β)(kn:K4 β):=bI .leq 3 S I
 (bnd (A.zB B S) fun j=>bnd (A.zA prog .rem 5 j (.int .u8 128)) fun k=>bnd (A.conv prog 5 3 k) fun l=>aE (C 52 [S] h) fun n o=>bnd (A.zA prog .mul 3 l n) fun p=>bnd (A.zA prog .add 3 J p) fun q=>bnd (A.zA prog .add 3 S (.int .i64 1)) fun t=>kn t B q I o)
 (kx2 J I h)
noncomputable def aBb (C:CF)(L:Nat){β:Type}(kx2:K2 β):Nat→K4 β
 |0,_,_,_,_,_=>none
 |n+1,S,B,J,I,h=>aWs C h B I J S kx2 (fun S B J I h=>aBb C L kx2 n S B J I h)
theorem bLg (C:CF)(L:Nat){β:Type}(K:KK β):∀n,M (fun fr h=>Lw prog C L 2 44 [2,3,4] (g bAz 2036) [7,0,6,5] [(2,[6,5])] n fr h K) [7,0,6,5]=aBb C L (X K 2 [6,5]) n:=by refine lw [7,0,6,5] [7,0,6,5] (F:=fun kn S B J I h=>aWs C h B I J S (X K 2 [6,5]) kn) ?_ ?_ ?_<;>intros<;>kernel_rfl
noncomputable def aYs (kn:K2 β):=bZh h B I J (fun S B J I h=>aBb C L kn L S B J I h)
theorem bNq:aC prog C L 2 44 [2,3,4] (g bAz 254) [6,5] [] (r3 0 6 5 B J I) h K=aYs C L h B I J (N K [6,5]):=by unfold aYs;refine(y 1 [7,0,6,5] ?_ (w4 fun S B J I h=>(bk 2 (lp (c4 (bLg C L _ L) S B J I h) ?_) ?_)) ?_)<;>intros<;>kernel_rfl
noncomputable def bZg (kr:K3 β):=bnd (A.zA prog .add 3 I (.int .i64 1)) fun c=>kr J c (.int .i64 0) h
noncomputable def aMd (kr:K3 β):=aWu h B (fun B I h=>aBc C L (fun B I h=>aWt h B I kr (fun B J I h=>aYs C L h B I J (fun J I h=>bZg h I J kr))) L B I h)
theorem bSo:aC prog C L 2 44 [2,3,4] (g bAz 1) [2,3,4] [] (r1 0 B) h K=aMd C L h B (R K [2,3,4]):=by unfold aMd;refine(y 2 [0,5] ?_ (w2 fun B I h=>(q [0,5] (A:=fun z=>aBc C L z L B I h) (fun k=>(bk 0 (lp (c2 (bLh C L _ L) B I h) ?_) ?_)) (w2 fun B I h=>(y 3 [0,6,5] ?_ (w3 fun B J I h=>(q [6,5] (fun k=>(bNq C L h _ B I J)) ?_ ?_)) ?_)) ?_)) ?_)<;>intros<;>kernel_rfl
noncomputable def F38 (C:CF)(L:Nat)(B:V)(h:H):O (V×H):=aMd C L h B (fun P E G h=>some (.tuple ⟨[P,E,G]⟩,h))
def bWg (Q:Orc)(n:Nat)(B:V)(h:H)(q:Q 38 [B]=none):=(tq q Tryz.func38 (bSo _ n h _ B) (by kernel_rfl) (by kernel_rfl):_=F38 (aA prog 2 Q n) n B h)
noncomputable def aMp:Code:=(Tryz.f39.body).getD .skip
noncomputable def bZf (kn:K4 β):=aE (A.zJ 24 Z38 h) fun a b=>bnd (A.zF Z91L [(0,1,D)]) fun d=>aE (A.zJ 1 d b) fun e f=>bnd (A.zA prog .quo 5 B (.int .u8 16)) fun k=>bnd (A.zF Z38L [(0,1,k)]) fun l=>aE (A.zJ 24 Z38 f) fun m n=>bnd (A.store 24 m l n) fun p=>kn B e m a p
noncomputable def aQx (kn:K5 β):=lf 0 1 J h fun b=>kn B b I J G h
noncomputable def aQw (kn:K6 β):=bB .eql 5 Y (.int .u8 1) fun b=>kn (.bool b) B Y I J G h
noncomputable def bZc (kn:K4 β):=aE (C 53 [I] h) fun b c=>aE (C 54 [I] c) fun e f=>bnd (A.conv prog 3 5 e) fun i=>bnd (A.u 7 J) fun j=>bnd (A.store 1 j i f) fun l=>aE (C 54 [I] l) fun n o=>aE (C 55 [I] o) fun r s=>bnd (A.conv prog 3 33 r) fun t=>bnd (A.u 9 J) fun u=>bnd (A.store 1 u t s) fun w=>aE (C 53 [I] w) fun z a1=>bnd (A.u 10 J) fun b1=>bnd (A.store 1 b1 z a1) fun d1=>bnd (A.zA prog .quo 3 n (.int .i64 2)) fun f1=>bnd (A.zA prog .rem 3 f1 (.int .i64 2)) fun i1=>bB .eql 3 i1 (.int .i64 1) fun k1=>bnd (A.u 8 J) fun l1=>bnd (A.store 1 l1 (.bool k1) d1) fun n1=>bnd (A.zA prog .quo 3 n (.int .i64 4)) fun p1=>bnd (A.zA prog .rem 3 p1 (.int .i64 2)) fun q1=>bB .eql 3 q1 (.int .i64 1) fun s1=>bnd (A.u 11 J) fun t1=>bnd (A.store 1 t1 (.bool s1) n1) fun v1=>kn n I J G v1
noncomputable def bZb (kn:K3 β):=bnd (A.zA prog .quo 3 S (.int .i64 8)) fun b=>bnd (A.zA prog .rem 3 b (.int .i64 4)) fun c=>bnd (A.conv prog 3 5 c) fun d=>bnd (A.u 12 J) fun e=>bnd (A.u 2 e) fun f=>bnd (A.store 1 f d h) fun j=>bnd (A.zA prog .quo 3 S (.int .i64 32)) fun l=>bnd (A.zA prog .rem 3 l (.int .i64 2)) fun m=>bB .eql 3 m (.int .i64 1) fun o=>bnd (A.u 12 J) fun p=>bnd (A.u 3 p) fun q=>bnd (A.store 1 q (.bool o) j) fun s=>bnd (A.zA prog .quo 3 S (.int .i64 64)) fun u=>bnd (A.zA prog .rem 3 u (.int .i64 2)) fun v=>bB .eql 3 v (.int .i64 1) fun y=>bnd (A.u 17 J) fun z=>bnd (A.store 1 z (.bool y) s) fun b1=>bnd (A.zA prog .quo 3 S (.int .i64 128)) fun d1=>bB .eql 3 d1 (.int .i64 1) fun f1=>bnd (A.u 16 J) fun i1=>bnd (A.store 1 i1 (.bool f1) b1) fun k1=>kn I J G k1
noncomputable def aWk (kn:K3 β):=lf 11 1 J h fun b=>iK b
 (aE (C 53 [I] h) fun e f=>bnd (A.u 12 J) fun i=>bnd (A.u 0 i) fun j=>bnd (A.store 1 j e f) fun l=>aE (C 53 [I] l) fun n o=>bnd (A.u 12 J) fun p=>bnd (A.u 1 p) fun q=>bnd (A.store 1 q n o) fun s=>kn I J G s)
 (kn I J G h)
noncomputable def aKm (kn:K2 β):=lf 16 1 J h fun b=>iK b
 (aE (C 53 [I] h) fun e f=>bnd (A.u 18 J) fun i=>bnd (A.store 1 i e f) fun k=>lf 17 1 J k fun m=>iK m
 (aE (C 53 [I] k) fun p q=>bnd (A.u 19 J) fun r=>bnd (A.store 1 r p q) fun t=>kn J G t)
 (kn J G k))
 (lf 17 1 J h fun v=>iK v
 (aE (C 53 [I] h) fun z a1=>bnd (A.u 19 J) fun b1=>bnd (A.store 1 b1 z a1) fun d1=>kn J G d1)
 (kn J G h))
noncomputable def aSr (kn:K2 β):=bZc C h G I J (fun S I J G h=>bZb h G I J S (fun I J G h=>aWk C h G I J (fun I J G h=>aKm C h G I J kn)))
theorem bNl:aC prog C L 2 195 [4] (g aMp 490) [6,4] [(0,[6,4])] (r6 82 0 17 5 6 4 xb B Y I J G) h K=aSr C h G I J (N K [6,4]):=by unfold aSr;refine(y 7 [7,5,6,4] ?_ (w4 fun S I J G h=>(y 4 [5,6,4] ?_ (w3 fun I J G h=>(q [5,6,4] ?_ ?_ ?_)) ?_)) ?_)<;>intros<;>kernel_rfl
noncomputable def aWr (kn:K6 β):=bB .eql 5 Y (.int .u8 2) fun b=>kn (.bool b) B Y I J G h
noncomputable def bFf (kn:K2 β):=aE (C 54 [I] h) fun b c=>bB .eql 3 b (.int .i64 1) fun e=>bnd (A.u 20 J) fun f=>bnd (A.store 1 f (.bool e) c) fun j=>aE (C 54 [I] j) fun l m=>bnd (A.conv prog 3 5 l) fun n=>bnd (A.u 21 J) fun o=>bnd (A.store 1 o n m) fun q=>kn J G q
noncomputable def bFg (kn:K6 β):=bB .eql 5 Y (.int .u8 3) fun b=>kn (.bool b) B Y I J G h
noncomputable def aWl (kn:K2 β):=bnd (A.zA prog .quo 5 B (.int .u8 8)) fun b=>bnd (A.zA prog .rem 5 b (.int .u8 2)) fun c=>bB .eql 5 c (.int .u8 1) fun e=>bnd (A.u 1 J) fun f=>bnd (A.store 1 f (.bool e) h) fun j=>bnd (A.zA prog .quo 5 B (.int .u8 2)) fun l=>bnd (A.zA prog .rem 5 l (.int .u8 4)) fun m=>bnd (A.u 2 J) fun n=>bnd (A.store 1 n m j) fun p=>bnd (A.zA prog .rem 5 B (.int .u8 2)) fun r=>bB .eql 5 r (.int .u8 1) fun t=>bnd (A.u 3 J) fun u=>bnd (A.store 1 u (.bool t) p) fun w=>aE (C 53 [I] w) fun z a1=>bnd (A.u 5 J) fun b1=>bnd (A.store 1 b1 z a1) fun d1=>lf 2 1 J d1 fun f1=>bI .gtr 5 f1 (.int .u8 0)
 (aE (C 55 [I] d1) fun l1 m1=>bnd (A.conv prog 3 33 l1) fun n1=>bnd (A.u 4 J) fun o1=>bnd (A.store 1 o1 n1 m1) fun q1=>nl 0 1 I q1 fun u1=>bnd (A.u 6 J) fun v1=>bnd (A.store 1 v1 u1 q1) fun y1=>kn J G y1)
 (nl 0 1 I d1 fun c2=>bnd (A.u 6 J) fun d2=>bnd (A.store 1 d2 c2 d1) fun f2=>kn J G f2)
noncomputable def bZe (kn:K4 β):=bB .eql 5 Y (.int .u8 12) fun b=>(bif b then
 kn (.bool b) I J G h
 else
 bB .eql 5 Y (.int .u8 13) fun e=>(bif e then
 kn (.bool e) I J G h
 else
 bB .eql 5 Y (.int .u8 14) fun j=>kn (.bool j) I J G h))
noncomputable def bZd (kn:K2 β):=kn J G h
noncomputable def aWq (kn:K3 β):=aE (C 55 [I] h) fun b c=>bnd (A.conv prog 3 33 b) fun d=>bnd (A.u 4 J) fun e=>bnd (A.store 1 e d c) fun i=>lf 0 1 J i fun k=>bI .eql 5 k (.int .u8 9)
 (nl 0 1 I i fun q=>bnd (A.u 23 J) fun r=>bnd (A.store 1 r q i) fun t=>kn I J G t)
 (kn I J G i)
noncomputable def aWp (kn:K4 β):=nl 0 1 I h fun d=>bnd (A.zC d) fun e=>bnd (A.zA prog .add 3 e (.int .i64 1)) fun f=>kn f I J G h
noncomputable def aWo (kn:K4 β):=lf 0 1 J h fun b=>bI .eql 5 b (.int .u8 8)
 (nl 0 1 I h fun m=>bnd (A.zC m) fun n=>bI .gtr 3 n (.int .i64 0)
 (nl 0 1 I h fun v=>bnd (A.zC v) fun w=>bB .lss 3 w U fun a1=>kn (.bool a1) I J G h)
 (kn (.bool false) I J G h))
 (lf 0 1 J h fun e1=>bI .eql 5 e1 (.int .u8 10)
 (nl 0 1 I h fun o1=>bnd (A.zC o1) fun p1=>bI .gtr 3 p1 (.int .i64 0)
 (nl 0 1 I h fun y1=>bnd (A.zC y1) fun z1=>bB .lss 3 z1 U fun c2=>kn (.bool c2) I J G h)
 (kn (.bool false) I J G h))
 (kn (.bool false) I J G h))
noncomputable def aWn (kx1:K2 β)(kn:K3 β):=aL xm (kn I J G h) (kx1 J G h)
noncomputable def aEp (kx1:K2 β)(kn:K3 β):=aWo h G I J U (fun xm I J G h=>aWn h G I J xm kx1 kn)
theorem bMp:aC prog C L 2 195 [4] (g aMp 2015224) [5,6,4] [(1,[6,4]),(0,[6,4])] (r4 8 5 6 4 U I J G) h K=aEp h G I J U (X K 1 [6,4]) (N K [5,6,4]):=by unfold aEp;refine(y 1 [60,5,6,4] ?_ ?_ ?_)<;>intros<;>kernel_rfl
noncomputable def aWm (kn:K4 β):=nl 0 1 I h fun d=>bnd (A.zC d) fun e=>aE (C 53 [I] h) fun j k=>bnd (A.zF Z56L [(0,1,j)]) fun l=>aE (A.zJ 2 Z56 k) fun m n=>bnd (A.store 2 m l n) fun p=>lf 0 1 J p fun r=>bI .eql 5 r (.int .u8 8)
 (aE (C 54 [I] p) fun v w=>bnd (A.conv prog 3 5 v) fun y=>bnd (A.u 1 m) fun z=>bnd (A.store 1 z y w) fun b1=>lf 22 1 J b1 fun d1=>bnd (A.load true 2 m b1) fun e1=>aE (A.zD 2 1 Z56L [(0,2,e1)] b1) fun f1 i1=>aE (A.zK 2 24 d1 f1 i1) fun j1 k1=>bnd (A.u 22 J) fun l1=>bnd (A.store 1 l1 j1 k1) fun n1=>kn e I J G n1)
 (lf 22 1 J p fun p1=>bnd (A.load true 2 m p) fun q1=>aE (A.zD 2 1 Z56L [(0,2,q1)] p) fun r1 s1=>aE (A.zK 2 24 p1 r1 s1) fun t1 u1=>bnd (A.u 22 J) fun v1=>bnd (A.store 1 v1 t1 u1) fun y1=>kn e I J G y1)
noncomputable def xL (C:CF)(L:Nat){β:Type}(kx1:K2 β):Nat→K4 β
 |0,_,_,_,_,_=>none
 |n+1,U,I,J,G,h=>aEp h G I J U kx1 (fun I J G h=>aWm C h G I J (fun U I J G h=>xL C L kx1 n U I J G h))
theorem bLl (C:CF)(L:Nat){β:Type}(K:KK β):∀n,M (fun fr h=>Lw prog C L 2 195 [4] (g aMp 1007612) [8,5,6,4] [(1,[6,4]),(0,[6,4])] n fr h K) [8,5,6,4]=xL C L (X K 1 [6,4]) n:=by refine lw [8,5,6,4] [8,5,6,4] (F:=fun kn U I J G h=>aEp h G I J U (X K 1 [6,4]) (fun I J G h=>aWm C h G I J kn)) ?_ ?_ (fun kn=>w4 fun U I J G h=>(q [5,6,4] (fun k=>(bMp C L h _ G I J U)) ?_ ?_))<;>intros<;>kernel_rfl
noncomputable def aHa (kn:K2 β):=aWq C h G I J (fun I J G h=>aWp h G I J (fun U I J G h=>xL C L kn L U I J G h))
theorem bPj:aC prog C L 2 195 [4] (g aMp 31487) [6,4] [(0,[6,4])] (r4 190 5 6 4 xc I J G) h K=aHa C L h G I J (N K [6,4]):=by unfold aHa;refine(y 2 [5,6,4] ?_ (w3 fun I J G h=>(y 1 [8,5,6,4] ?_ (w4 fun U I J G h=>(bk 1 (lp (c4 (bLl C L _ L) U I J G h) ?_) ?_)) ?_)) ?_)<;>intros<;>kernel_rfl
noncomputable def aBj (kn:K2 β):=aQx h B G I J (fun B Y I J G h=>aQw h B G I J Y (fun xb B Y I J G h=>aL xb (aSr C h G I J kn) (aWr h B G I J Y (fun xw B Y I J G h=>aL xw (bFf C h G I J kn) (bFg h B G I J Y (fun xy B Y I J G h=>aL xy (aWl C h B G I J kn) (bZe h G I J Y (fun xc I J G h=>aL xc (bZd h G J kn) (aHa C L h G I J kn)))))))))
theorem bQf:aC prog C L 2 195 [4] (g aMp 30) [6,4] [] (r4 0 5 6 4 B I J G) h K=aBj C L h B G I J (N K [6,4]):=by unfold aBj;refine(y 1 [0,17,5,6,4] ?_ (w5 fun B Y I J G h=>(bk 0 (y 1 [82,0,17,5,6,4] ?_ (w6 fun xb B Y I J G h=>(cd (bNl C L h _ B G I J Y xb) (y 1 [150,0,17,5,6,4] ?_ (w6 fun xw B Y I J G h=>(cd ?_ (y 1 [160,0,17,5,6,4] ?_ (w6 fun xy B Y I J G h=>(cd ?_ (y 1 [190,5,6,4] ?_ (w4 fun xc I J G h=>(cd ?_ (bPj C L h _ G I J xc) ?_)) ?_) ?_)) ?_) ?_)) ?_) ?_)) ?_) ?_)) ?_)<;>intros<;>kernel_rfl
noncomputable def bZa (kr:K1 β):=bnd (A.load true 24 J h) fun a=>bnd (A.store 24 G a h) fun c=>kr G c
noncomputable def bAh (kr:K1 β):=bZf h B D (fun B I J G h=>aBj C L h B G I J (fun J G h=>bZa h G J kr))
theorem bSn:aC prog C L 2 195 [4] (g aMp 1) [4] [] (r2 0 1 B D) h K=bAh C L h B D (R K [4]):=by unfold bAh;refine(y 3 [0,5,6,4] ?_ (w4 fun B I J G h=>(q [6,4] (fun k=>(bQf C L h _ B G I J)) ?_ ?_)) ?_)<;>intros<;>kernel_rfl
noncomputable def F39 (C:CF)(L:Nat)(B D:V)(h:H):O (V×H):=bAh C L h B D (fun G h=>bnd (rP (A.load true 24 G h) (some [])) fun vs=>some (iT vs,h))
def bWf (Q:Orc)(n:Nat)(B D:V)(h:H)(q:Q 39 [B,D]=none):=(tq q Tryz.func39 (bSn _ n h _ B D) (by kernel_rfl) (by kernel_rfl):_=F39 (aA prog 2 Q n) n B D h)
noncomputable def aMo:Code:=(Tryz.f40.body).getD .skip
noncomputable def bYz (kn:K2 β):=aE (A.zJ 24 B h) fun a b=>lf 0 1 a b fun e=>aE (C 56 [e] b) fun f i=>kn f a i
noncomputable def aQv (kn:K3 β):=bI .eql 9 E (.string ⟨⟨[45]⟩⟩)
 (kn (.bool true) E D h)
 (bnd (A.load true 24 D h) fun l=>bnd (A.load true 24 D h) fun m=>aE (C 57 [m] h) fun n o=>bif (chk (bnd (A.load true 24 D o) fun v=>some v) l&&true)then
 aE (C 19 [l,n] o) fun p q=>aP p fun r=>iK (.bool !r)
 (kn (.bool true) E D q)
 (bnd (A.load true 24 D q) fun a1=>aE (C 58 [a1] q) fun b1 c1=>aP b1 fun d1=>iK (.bool !d1)
 (kn (.bool true) E D c1)
 (lf 2 1 D c1 fun m1=>bB .gtr 5 m1 (.int .u8 2) fun o1=>kn (.bool o1) E D c1))
 else none)
noncomputable def aQu (kr:K1 β)(kn:K2 β):=aL xe (kr (.bool false) h) (kn E D h)
noncomputable def aEt (kr:K1 β)(kn:K2 β):=aQv C h D E (fun xe E D h=>aQu h D E xe kr kn)
theorem bNa:aC prog C L 2 94 [2] (g aMo 14) [3,1] [] (r2 3 1 E D) h K=aEt C h D E (R K [2]) (N K [3,1]):=by unfold aEt;refine(y 1 [25,3,1] ?_ ?_ ?_)<;>intros<;>kernel_rfl
noncomputable def bFe (kn:K3 β):=lf 0 1 D h fun b=>bI .eql 5 b (.int .u8 1)
 (bnd (A.load true 24 D h) fun f=>aE (C 59 [f] h) fun i j=>aP i fun k=>iK (.bool !k)
 (kn (.bool true) E D j)
 (lf 0 1 D j fun r=>bI .eql 5 r (.int .u8 2)
 (lf 21 1 D j fun w=>bI .gtr 5 w (.int .u8 5)
 (kn (.bool true) E D j)
 (lf 20 1 D j fun f1=>iK f1
 (lf 21 1 D j fun l1=>bB .gtr 5 l1 (.int .u8 0) fun n1=>kn (.bool n1) E D j)
 (kn (.bool false) E D j)))
 (kn (.bool false) E D j)))
 (lf 0 1 D h fun c2=>bI .eql 5 c2 (.int .u8 2)
 (lf 21 1 D h fun j2=>bI .gtr 5 j2 (.int .u8 5)
 (kn (.bool true) E D h)
 (lf 20 1 D h fun r2=>iK r2
 (lf 21 1 D h fun v2=>bB .gtr 5 v2 (.int .u8 0) fun y2=>kn (.bool y2) E D h)
 (kn (.bool false) E D h)))
 (kn (.bool false) E D h))
noncomputable def bFd (kr:K1 β)(kn:K2 β):=aL xi (kr (.bool false) h) (kn E D h)
noncomputable def aLf (kr:K1 β)(kn:K2 β):=bFe C h D E (fun xi E D h=>bFd h D E xi kr kn)
theorem bMf:aC prog C L 2 94 [2] (g aMo 30) [3,1] [] (r2 3 1 E D) h K=aLf C h D E (R K [2]) (N K [3,1]):=by unfold aLf;refine(y 1 [52,3,1] ?_ ?_ ?_)<;>intros<;>kernel_rfl
noncomputable def bFc (kn:K3 β):=lf 0 1 D h fun b=>bB .eql 5 b (.int .u8 3) fun d=>kn (.bool d) E D h
noncomputable def bYx (kn:K2 β):=lf 5 1 D h fun b=>aE (C 60 [b] h) fun c d=>aP c fun e=>iK (.bool !e)
 (kn (.bool true) D d)
 (lf 2 1 D d fun o=>bI .eql 5 o (.int .u8 0)
 (lf 1 1 D d fun t=>iK t
 (kn (.bool true) D d)
 (lf 4 1 D d fun d1=>bI .neq 33 d1 (.int .u16 0)
 (kn (.bool true) D d)
 (lf 2 1 D d fun o1=>bI .gtr 5 o1 (.int .u8 0)
 (lf 4 1 D d fun t1=>bB .eql 33 t1 (.int .u16 0) fun v1=>kn (.bool v1) D d)
 (kn (.bool false) D d))))
 (lf 2 1 D d fun f2=>bI .gtr 5 f2 (.int .u8 0)
 (lf 4 1 D d fun m2=>bB .eql 33 m2 (.int .u16 0) fun o2=>kn (.bool o2) D d)
 (kn (.bool false) D d)))
noncomputable def bYw (kr kn:K1 β):=aL xr (kr (.bool false) h) (kn D h)
noncomputable def bYy (kr kn:K1 β):=aE (C 61 [E,(.int .u8 105)] h) fun b c=>iK b
 (lf 4 1 D c fun i=>bI .eql 33 i (.int .u16 0)
 (kr (.bool false) c)
 (kn D c))
 (kn D c)
noncomputable def aLm (kr kn:K1 β):=bFc h D E (fun xj E D h=>aL xj (bYx C h D (fun xr D h=>bYw h D xr kr kn)) (bYy C h D E kr kn))
theorem bMu:aC prog C L 2 94 [2] (g aMo 62) [1] [] (r2 3 1 E D) h K=aLm C h D E (R K [2]) (N K [1]):=by unfold aLm;refine(y 1 [55,3,1] ?_ (w3 fun xj E D h=>(cd (y 1 [83,1] ?_ ?_ ?_) ?_ ?_)) ?_)<;>intros<;>kernel_rfl
noncomputable def bYv (kr:K1 β):=bnd (A.load true 24 D h) fun a=>aE (C 62 [a] h) fun b c=>bB .leq 3 b (.int .i64 268435455) fun e=>kr (.bool e) c
noncomputable def bAg (kr:K1 β):=bYz C h B (fun E D h=>aEt C h D E kr (fun E D h=>aLf C h D E kr (fun E D h=>aLm C h D E kr (fun D h=>bYv C h D kr))))
theorem bSm:aC prog C L 2 94 [2] (g aMo 1) [2] [] (r1 0 B) h K=bAg C h B (R K [2]):=by unfold bAg;refine(y 2 [3,1] ?_ (w2 fun E D h=>(q [3,1] (fun k=>(bNa C L h _ D E)) (w2 fun E D h=>(q [3,1] (fun k=>(bMf C L h _ D E)) (w2 fun E D h=>(q [1] (fun k=>(bMu C L h _ D E)) ?_ ?_)) ?_)) ?_)) ?_)<;>intros<;>kernel_rfl
noncomputable def F40 (C:CF)(L:Nat)(B:V)(h:H):O (V×H):=bAg C h B (fun P h=>some (P,h))
def bWe (Q:Orc)(n:Nat)(B:V)(h:H)(q:Q 40 [B]=none):=(tq q Tryz.func40 (bSm _ n h _ B) (by kernel_rfl) (by kernel_rfl):_=F40 (aA prog 2 Q n) n B h)
noncomputable def cJe:Code:=(Tryz.f41.body).getD .skip
noncomputable def bFb (kn:K2 β):=aE (A.zJ 24 B h) fun a b=>aE (A.zD 1 15 Z3L [(0,1,(.int .i64 0)),(1,1,(.int .i64 0)),(2,1,(.int .i64 0)),(3,1,(.int .i64 0)),(4,1,(.int .i64 0)),(5,1,(.int .i64 0)),(6,1,(.int .i64 2)),(7,1,(.int .i64 0)),(8,1,(.int .i64 2)),(9,1,(.int .i64 0)),(10,1,(.int .i64 2)),(11,1,(.int .i64 0)),(12,1,(.int .i64 0)),(13,1,(.int .i64 0)),(14,1,(.int .i64 0))] b) fun d e=>lf 0 1 a e fun i=>bnd (A.zH 1 d i) fun j=>bnd (A.load false 1 j e) fun k=>kn a k e
noncomputable def bFa (kn:K2 β):=lf 0 1 D h fun b=>bI .eql 5 b (.int .u8 3)
 (lf 1 1 D h fun f=>aP f fun i=>aE (C 63 [(.bool i),(.int .i64 8)] h) fun j k=>bnd (A.u 2 D) fun l=>bnd (A.load false 1 l k) fun m=>bif (chk (bnd (A.load false 1 l h) fun v=>some v) m&&true)then
 bnd (A.conv prog 5 3 m) fun n=>bnd (A.zA prog .mul 3 (.int .i64 2) n) fun o=>bnd (A.zA prog .add 3 j o) fun p=>bnd (A.u 3 D) fun q=>bnd (A.load false 1 q k) fun r=>aP r fun s=>bif (chk (bnd (A.load false 1 q h) fun v=>some v) (.bool s)&&true)then
 aE (C 63 [(.bool s),(.int .i64 1)] k) fun t u=>bif (chk (bnd (A.load false 1 l u) fun v=>some v) m&&true)then
 bnd (A.zA prog .add 3 p t) fun v=>kn D v u
 else none
 else none
 else none)
 (kn D E h)
noncomputable def bEz (kr:K1 β):=lf 0 1 D h fun b=>bnd (A.conv prog 5 3 b) fun c=>bnd (A.zA prog .mul 3 (.int .i64 16) c) fun d=>bnd (A.zA prog .add 3 d E) fun f=>kr f h
noncomputable def aTt (kr:K1 β):=bFb h B (fun D E h=>bFa C h D E (fun D E h=>bEz h D E kr))
theorem bSl:aC prog C L 2 30 [2] (g cJe 1) [2] [] (r1 0 B) h K=aTt C h B (R K [2]):=by unfold aTt;refine(y 2 [1,3] ?_ (w2 fun D E h=>(y 1 [1,3] ?_ ?_ ?_)) ?_)<;>intros<;>kernel_rfl
noncomputable def F41 (C:CF)(L:Nat)(B:V)(h:H):O (V×H):=aTt C h B (fun P h=>some (P,h))
def bWd (Q:Orc)(n:Nat)(B:V)(h:H)(q:Q 41 [B]=none):=(tq q Tryz.func41 (bSl _ n h _ B) (by kernel_rfl) (by kernel_rfl):_=F41 (aA prog 2 Q n) n B h)
noncomputable def bId:Code:=(Tryz.f42.body).getD .skip
noncomputable def bYu (kn:K2 β):=aE (A.zJ 24 B h) fun a b=>kn (.string ⟨⟨[]⟩⟩) a b
noncomputable def xH (kn:K3 β):=lf 0 1 D h fun b=>kn b E D h
noncomputable def xG (kn:K4 β):=bB .eql 5 S (.int .u8 1) fun b=>kn (.bool b) S E D h
noncomputable def bEu (kn:K2 β):=lf 16 1 D h fun b=>aP b fun c=>aE (C 63 [(.bool c),(.int .i64 128)] h) fun d e=>bnd (A.u 17 D) fun f=>bnd (A.load false 1 f e) fun i=>aP i fun j=>bif (chk (bnd (A.load false 1 f h) fun v=>some v) (.bool j)&&true)then
 aE (C 63 [(.bool j),(.int .i64 64)] e) fun k l=>bnd (A.zA prog .add 3 d k) fun m=>bnd (A.u 12 D) fun n=>bnd (A.u 3 n) fun o=>bnd (A.load false 1 o l) fun p=>aP p fun q=>bif (chk (bnd (A.load false 1 o e) fun v=>some v) (.bool q)&&(chk (bnd (A.load false 1 o h) fun v=>some v) (.bool q)&&true))then
 aE (C 63 [(.bool q),(.int .i64 32)] l) fun r s=>bnd (A.zA prog .add 3 m r) fun t=>bnd (A.u 12 D) fun u=>bnd (A.u 2 u) fun v=>bnd (A.load false 1 v s) fun w=>bif (chk (bnd (A.load false 1 v l) fun v=>some v) w&&(chk (bnd (A.load false 1 v e) fun v=>some v) w&&(chk (bnd (A.load false 1 v h) fun v=>some v) w&&true)))then
 bnd (A.conv prog 5 3 w) fun y=>bnd (A.zA prog .mul 3 (.int .i64 8) y) fun z=>bnd (A.zA prog .add 3 t z) fun a1=>bnd (A.u 11 D) fun b1=>bnd (A.load false 1 b1 s) fun c1=>aP c1 fun d1=>bif (chk (bnd (A.load false 1 b1 l) fun v=>some v) (.bool d1)&&(chk (bnd (A.load false 1 b1 e) fun v=>some v) (.bool d1)&&(chk (bnd (A.load false 1 b1 h) fun v=>some v) (.bool d1)&&true)))then
 aE (C 63 [(.bool d1),(.int .i64 4)] s) fun e1 f1=>bif (chk (bnd (A.load false 1 v f1) fun v=>some v) w&&true)then
 bnd (A.zA prog .add 3 a1 e1) fun i1=>bnd (A.u 8 D) fun j1=>bnd (A.load false 1 j1 f1) fun k1=>aP k1 fun l1=>bif (chk (bnd (A.load false 1 j1 s) fun v=>some v) (.bool l1)&&(chk (bnd (A.load false 1 j1 l) fun v=>some v) (.bool l1)&&(chk (bnd (A.load false 1 j1 e) fun v=>some v) (.bool l1)&&(chk (bnd (A.load false 1 j1 h) fun v=>some v) (.bool l1)&&true))))then
 aE (C 63 [(.bool l1),(.int .i64 2)] f1) fun m1 n1=>bif (chk (bnd (A.load false 1 v n1) fun v=>some v) w&&true)then
 bnd (A.zA prog .add 3 i1 m1) fun o1=>kn o1 D n1
 else none
 else none
 else none
 else none
 else none
 else none
 else none
noncomputable def bEt (kn:K2 β):=aE (C 64 [(.string ⟨⟨[77,81,84,84]⟩⟩)] h) fun a b=>aE (C 65 [(.int .i64 4)] b) fun c d=>bnd (A.zA prog .add 9 a c) fun e=>aE (C 65 [G] d) fun i j=>bnd (A.zA prog .add 9 e i) fun k=>bnd (A.u 9 D) fun l=>bnd (A.load false 1 l j) fun m=>bif (chk (bnd (A.load false 1 l d) fun v=>some v) m&&(chk (bnd (A.load false 1 l b) fun v=>some v) m&&(chk (bnd (A.load false 1 l h) fun v=>some v) m&&true)))then
 aE (C 66 [m] j) fun n o=>bnd (A.zA prog .add 9 k n) fun p=>bnd (A.u 10 D) fun q=>bnd (A.load false 1 q o) fun r=>bif (chk (bnd (A.load false 1 q j) fun v=>some v) r&&(chk (bnd (A.load false 1 q d) fun v=>some v) r&&(chk (bnd (A.load false 1 q b) fun v=>some v) r&&(chk (bnd (A.load false 1 q h) fun v=>some v) r&&true))))then
 aE (C 64 [r] o) fun s t=>bnd (A.zA prog .add 9 p s) fun u=>kn D u t
 else none
 else none
noncomputable def aWi (kn:K2 β):=lf 11 1 D h fun b=>iK b
 (bnd (A.u 12 D) fun e=>lf 0 1 e h fun i=>aE (C 64 [i] h) fun j k=>bnd (A.zA prog .add 9 E j) fun l=>bnd (A.u 12 D) fun m=>bnd (A.u 1 m) fun n=>bnd (A.load false 1 n k) fun o=>bif (chk (bnd (A.load false 1 n h) fun v=>some v) o&&true)then
 aE (C 64 [o] k) fun p q=>bnd (A.zA prog .add 9 l p) fun r=>kn D r q
 else none)
 (kn D E h)
noncomputable def aKk (kn:K1 β):=lf 16 1 D h fun b=>iK b
 (lf 18 1 D h fun f=>aE (C 64 [f] h) fun i j=>bnd (A.zA prog .add 9 E i) fun k=>lf 17 1 D j fun n=>iK n
 (lf 19 1 D j fun r=>aE (C 64 [r] j) fun s t=>bnd (A.zA prog .add 9 k s) fun u=>kn u t)
 (kn k j))
 (lf 17 1 D h fun y=>iK y
 (lf 19 1 D h fun c1=>aE (C 64 [c1] h) fun d1 e1=>bnd (A.zA prog .add 9 E d1) fun f1=>kn f1 e1)
 (kn E h))
noncomputable def aAs (kn:K4 β):=bB .eql 5 S (.int .u8 2) fun b=>kn (.bool b) S E D h
noncomputable def bYs (kn:K1 β):=lf 20 1 D h fun b=>aP b fun c=>aE (C 63 [(.bool c),(.int .i64 1)] h) fun d e=>aE (C 65 [d] e) fun f i=>bnd (A.u 21 D) fun j=>bnd (A.load false 1 j i) fun k=>bif (chk (bnd (A.load false 1 j e) fun v=>some v) k&&(chk (bnd (A.load false 1 j h) fun v=>some v) k&&true))then
 bnd (A.conv prog 5 3 k) fun l=>aE (C 65 [l] i) fun m n=>bnd (A.zA prog .add 9 f m) fun o=>kn o n
 else none
noncomputable def aDz (kn:K4 β):=bB .eql 5 S (.int .u8 3) fun b=>kn (.bool b) S E D h
noncomputable def bEv (kn:K1 β):=lf 5 1 D h fun b=>aE (C 64 [b] h) fun c d=>lf 2 1 D d fun i=>bI .gtr 5 i (.int .u8 0)
 (lf 4 1 D d fun n=>aE (C 66 [n] d) fun o p=>bnd (A.zA prog .add 9 c o) fun q=>lf 6 1 D p fun u=>bnd (A.zA prog .add 9 q u) fun v=>kn v p)
 (lf 6 1 D d fun a1=>bnd (A.zA prog .add 9 c a1) fun b1=>kn b1 d)
noncomputable def aKl (kn:K4 β):=bB .eql 5 S (.int .u8 8) fun b=>(bif b then
 kn (.bool b) S E D h
 else
 bB .eql 5 S (.int .u8 10) fun e=>kn (.bool e) S E D h)
noncomputable def bEw (kn:K3 β):=lf 4 1 D h fun b=>aE (C 66 [b] h) fun c d=>kn (.int .i64 0) D c d
noncomputable def aQt (kx1:K1 β)(kn:K3 β):=lf 22 1 D h fun c=>bnd (A.zG c) fun d=>bI .lss 3 I d
 (lf 22 1 D h fun k=>bnd (A.zH 2 k I) fun m=>lf 0 1 m h fun o=>aE (C 64 [o] h) fun p q=>bnd (A.zA prog .add 9 E p) fun r=>lf 0 1 D q fun u=>bI .eql 5 u (.int .u8 8)
 (lf 22 1 D q fun a1=>bnd (A.zH 2 a1 I) fun c1=>lf 1 1 c1 q fun e1=>bnd (A.conv prog 5 3 e1) fun f1=>aE (C 65 [f1] q) fun i1 j1=>bnd (A.zA prog .add 9 r i1) fun k1=>bnd (A.zA prog .add 3 I (.int .i64 1)) fun n1=>kn n1 D k1 j1)
 (bnd (A.zA prog .add 3 I (.int .i64 1)) fun q1=>kn q1 D r q))
 (kx1 E h)
noncomputable def aGd (C:CF)(L:Nat){β:Type}(kx1:K1 β):Nat→K3 β
 |0,_,_,_,_=>none
 |n+1,I,D,E,h=>aQt C h D E I kx1 (fun I D E h=>aGd C L kx1 n I D E h)
theorem bKf (C:CF)(L:Nat){β:Type}(K:KK β):∀n,M (fun fr h=>Lw prog C L 2 156 [2] (g bId 241644) [5,1,3] [(1,[3]),(0,[3])] n fr h K) [5,1,3]=aGd C L (X K 1 [3]) n:=by refine lw [5,1,3] [5,1,3] (F:=fun kn I D E h=>aQt C h D E I (X K 1 [3]) kn) ?_ ?_ ?_<;>intros<;>kernel_rfl
noncomputable def aWj (kn:K4 β):=bB .eql 5 S (.int .u8 9) fun b=>kn (.bool b) S E D h
noncomputable def bYt (kn:K1 β):=lf 4 1 D h fun b=>aE (C 66 [b] h) fun c d=>bnd (A.u 23 D) fun e=>bnd (A.load false 1 e d) fun f=>bif (chk (bnd (A.load false 1 e h) fun v=>some v) f&&true)then
 bnd (A.zA prog .add 9 c f) fun i=>kn i d
 else none
noncomputable def bEy (kn:K3 β):=bB .eql 5 S (.int .u8 12) fun b=>(bif b then
 kn (.bool b) E D h
 else
 bB .eql 5 S (.int .u8 13) fun e=>(bif e then
 kn (.bool e) E D h
 else
 bB .eql 5 S (.int .u8 14) fun j=>kn (.bool j) E D h))
noncomputable def bEx (kn:K1 β):=aL xx (kn E h) (lf 4 1 D h fun b=>aE (C 66 [b] h) fun c d=>kn c d)
noncomputable def nF (kn:K1 β):=xH h D E (fun S E D h=>xG h D E S (fun xd S E D h=>aL xd (bEu C h D (fun G D h=>bEt C h D G (fun D E h=>aWi C h D E (fun D E h=>aKk C h D E kn)))) (aAs h D E S (fun xp S E D h=>aL xp (bYs C h D kn) (aDz h D E S (fun xt S E D h=>aL xt (bEv C h D kn) (aKl h D E S (fun xu S E D h=>aL xu (bEw C h D (fun I D E h=>aGd C L kn L I D E h)) (aWj h D E S (fun xv S E D h=>aL xv (bYt C h D kn) (bEy h D E S (fun xx E D h=>bEx C h D E xx kn))))))))))))
theorem bQe:aC prog C L 2 156 [2] (g bId 14) [3] [] (r2 3 1 E D) h K=nF C L h D E (N K [3]):=by unfold nF;refine(y 1 [7,3,1] ?_ (w3 fun S E D h=>(bk 0 (y 1 [11,7,3,1] ?_ (w4 fun xd S E D h=>(cd (q [4,1] ?_ (w2 fun G D h=>(q [1,3] ?_ (w2 fun D E h=>(q [1,3] ?_ ?_ ?_)) ?_)) ?_) (y 1 [80,7,3,1] ?_ (w4 fun xp S E D h=>(cd ?_ (y 1 [91,7,3,1] ?_ (w4 fun xt S E D h=>(cd ?_ (y 1 [108,7,3,1] ?_ (w4 fun xu S E D h=>(cd (y 2 [5,1,3] ?_ (w3 fun I D E h=>(bk 1 (lp (c3 (bKf C L _ L) I D E h) ?_) ?_)) ?_) (y 1 [143,7,3,1] ?_ (w4 fun xv S E D h=>(cd ?_ (y 1 [151,3,1] ?_ ?_ ?_) ?_)) ?_) ?_)) ?_) ?_)) ?_) ?_)) ?_) ?_)) ?_) ?_)) ?_)<;>intros<;>kernel_rfl
noncomputable def bYr (kr:K1 β):=kr E h
noncomputable def bAf (kr:K1 β):=bYu h B (fun E D h=>nF C L h D E (fun E h=>bYr h E kr))
theorem bSk:aC prog C L 2 156 [2] (g bId 1) [2] [] (r1 0 B) h K=bAf C L h B (R K [2]):=by unfold bAf;refine(y 2 [3,1] ?_ (w2 fun E D h=>(q [3] (fun k=>(bQe C L h _ D E)) ?_ ?_)) ?_)<;>intros<;>kernel_rfl
noncomputable def F42 (C:CF)(L:Nat)(B:V)(h:H):O (V×H):=bAf C L h B (fun P h=>some (P,h))
def bWc (Q:Orc)(n:Nat)(B:V)(h:H)(q:Q 42 [B]=none):=(tq q Tryz.func42 (bSk _ n h _ B) (by kernel_rfl) (by kernel_rfl):_=F42 (aA prog 2 Q n) n B h)
noncomputable def cIu:Code:=(Tryz.f53.body).getD .skip
noncomputable def bAc (kr:K1 β):=nl 0 1 B h fun e=>aE (C 77 [e] h) fun f i=>bnd (A.z 0 f) fun k=>bnd (A.z 1 f) fun l=>bnd (A.z 2 f) fun m=>nl 0 1 B i fun u=>bnd (A.zE u (some l) none) fun w=>nf 0 B fun z=>bnd (A.store 1 z w i) fun b1=>kr k b1
theorem bSa:aC prog C L 2 25 [2] (g cIu 1) [2] [] (r1 0 B) h K=bAc C h B (R K [2]):=by kernel_rfl
noncomputable def F53 (C:CF)(L:Nat)(B:V)(h:H):O (V×H):=bAc C h B (fun P h=>some (P,h))
def bVs (Q:Orc)(n:Nat)(B:V)(h:H)(q:Q 53 [B]=none):=(tq q Tryz.func53 (bSa _ n h _ B) (by kernel_rfl) (by kernel_rfl):_=F53 (aA prog 2 Q n) n B h)
noncomputable def cIt:Code:=(Tryz.f54.body).getD .skip
noncomputable def bAb (kr:K1 β):=nl 0 1 B h fun e=>bI .eql 9 e (.string ⟨⟨[]⟩⟩)
 (kr (.int .i64 0) h)
 (nl 0 1 B h fun n=>bnd (A.zB n (.int .i64 0)) fun o=>nl 0 1 B h fun u=>bnd (A.zE u (some (.int .i64 1)) none) fun v=>nf 0 B fun y=>bnd (A.store 1 y v h) fun a1=>bnd (A.conv prog 5 3 o) fun c1=>kr c1 a1)
theorem bRz:aC prog C L 2 24 [2] (g cIt 1) [2] [] (r1 0 B) h K=bAb h B (R K [2]):=by kernel_rfl
noncomputable def F54 (C:CF)(L:Nat)(B:V)(h:H):O (V×H):=bAb h B (fun P h=>some (P,h))
def bVr (Q:Orc)(n:Nat)(B:V)(h:H)(q:Q 54 [B]=none):=(tq q Tryz.func54 (bRz _ n h _ B) (by kernel_rfl) (by kernel_rfl):_=F54 (aA prog 2 Q n) n B h)
noncomputable def cIs:Code:=(Tryz.f55.body).getD .skip
noncomputable def bAa (kr:K1 β):=nl 0 1 B h fun e=>aE (C 78 [e] h) fun f i=>bnd (A.z 0 f) fun k=>bnd (A.z 1 f) fun l=>bnd (A.z 2 f) fun m=>nl 0 1 B i fun u=>bnd (A.zE u (some l) none) fun w=>nf 0 B fun z=>bnd (A.store 1 z w i) fun b1=>kr k b1
theorem bRy:aC prog C L 2 25 [2] (g cIs 1) [2] [] (r1 0 B) h K=bAa C h B (R K [2]):=by kernel_rfl
noncomputable def F55 (C:CF)(L:Nat)(B:V)(h:H):O (V×H):=bAa C h B (fun P h=>some (P,h))
def bVq (Q:Orc)(n:Nat)(B:V)(h:H)(q:Q 55 [B]=none):=(tq q Tryz.func55 (bRy _ n h _ B) (by kernel_rfl) (by kernel_rfl):_=F55 (aA prog 2 Q n) n B h)
noncomputable def cIr:Code:=(Tryz.f57.body).getD .skip
noncomputable def bYa (kn:K4 β):=aE (A.zJ 24 B h) fun a b=>aE (A.zJ 24 Z38 b) fun c d=>lf 0 1 a d fun f=>aE (C 56 [f] d) fun i j=>bnd (A.load true 24 a j) fun l=>aE (A.zJ 24 Z38 j) fun m n=>bnd (A.store 24 m l n) fun p=>kn a i m c p
noncomputable def bEl (kn:K4 β):=lf 1 1 D h fun b=>iK b
 (aE (C 61 [E,(.int .u8 100)] h) fun f i=>aP f fun j=>bnd (A.u 1 G) fun l=>bnd (A.store 1 l (.bool j) i) fun n=>kn D E G P n)
 (bnd (A.u 1 G) fun p=>bnd (A.store 1 p (.bool false) h) fun r=>kn D E G P r)
noncomputable def bEk (kn:K4 β):=lf 3 1 D h fun b=>iK b
 (aE (C 61 [E,(.int .u8 114)] h) fun f i=>aP f fun j=>bnd (A.u 3 G) fun l=>bnd (A.store 1 l (.bool j) i) fun n=>kn D E G P n)
 (bnd (A.u 3 G) fun p=>bnd (A.store 1 p (.bool false) h) fun r=>kn D E G P r)
noncomputable def bEj (kn:K4 β):=lf 8 1 D h fun b=>iK b
 (aE (C 61 [E,(.int .u8 99)] h) fun f i=>aP f fun j=>bnd (A.u 8 G) fun l=>bnd (A.store 1 l (.bool j) i) fun n=>kn D E G P n)
 (bnd (A.u 8 G) fun p=>bnd (A.store 1 p (.bool false) h) fun r=>kn D E G P r)
noncomputable def bEi (kn:K3 β):=lf 20 1 D h fun b=>iK b
 (aE (C 61 [E,(.int .u8 101)] h) fun f i=>aP f fun j=>bnd (A.u 20 G) fun l=>bnd (A.store 1 l (.bool j) i) fun n=>kn E G P n)
 (bnd (A.u 20 G) fun p=>bnd (A.store 1 p (.bool false) h) fun r=>kn E G P r)
noncomputable def aWc (kn:K3 β):=aE (C 61 [E,(.int .u8 113)] h) fun b c=>aP b fun d=>iK (.bool !d)
 (bnd (A.u 2 G) fun i=>bnd (A.store 1 i (.int .u8 0) c) fun k=>kn E G P k)
 (kn E G P c)
noncomputable def aWb (kn:K3 β):=aE (C 61 [E,(.int .u8 105)] h) fun b c=>aP b fun d=>iK (.bool !d)
 (bnd (A.u 4 G) fun i=>bnd (A.store 1 i (.int .u16 0) c) fun k=>kn E G P k)
 (kn E G P c)
noncomputable def aWa (kn:K3 β):=aE (C 61 [E,(.int .u8 116)] h) fun b c=>aP b fun d=>iK (.bool !d)
 (bnd (A.u 5 G) fun i=>bnd (A.store 1 i (.string ⟨⟨[]⟩⟩) c) fun k=>kn E G P k)
 (kn E G P c)
noncomputable def aVz (kn:K3 β):=aE (C 61 [E,(.int .u8 112)] h) fun b c=>aP b fun d=>iK (.bool !d)
 (bnd (A.u 6 G) fun i=>bnd (A.store 1 i (.string ⟨⟨[]⟩⟩) c) fun k=>kn E G P k)
 (kn E G P c)
noncomputable def aVy (kn:K3 β):=aE (C 61 [E,(.int .u8 108)] h) fun b c=>aP b fun d=>iK (.bool !d)
 (bnd (A.u 7 G) fun i=>bnd (A.store 1 i (.int .u8 0) c) fun k=>bnd (A.u 9 G) fun l=>bnd (A.store 1 l (.int .u16 0) k) fun n=>bnd (A.u 10 G) fun o=>bnd (A.store 1 o (.string ⟨⟨[]⟩⟩) n) fun q=>bnd (A.u 11 G) fun r=>bnd (A.store 1 r (.bool false) q) fun t=>bnd (A.zF Z35L []) fun u=>bnd (A.u 12 G) fun v=>bnd (A.store 4 v u t) fun y=>bnd (A.u 16 G) fun z=>bnd (A.store 1 z (.bool false) y) fun b1=>bnd (A.u 18 G) fun c1=>bnd (A.store 1 c1 (.string ⟨⟨[]⟩⟩) b1) fun e1=>bnd (A.u 17 G) fun f1=>bnd (A.store 1 f1 (.bool false) e1) fun j1=>bnd (A.u 19 G) fun k1=>bnd (A.store 1 k1 (.string ⟨⟨[]⟩⟩) j1) fun m1=>kn E G P m1)
 (kn E G P c)
noncomputable def bEh (kr:K1 β):=aE (C 61 [E,(.int .u8 111)] h) fun b c=>aP b fun d=>iK (.bool !d)
 (bnd (A.u 21 G) fun i=>bnd (A.store 1 i (.int .u8 0) c) fun k=>aE (C 61 [E,(.int .u8 98)] k) fun m n=>aP m fun o=>iK (.bool !o)
 (bnd (A.u 22 G) fun r=>bnd (A.store 1 r (.slice none 0 0) n) fun t=>aE (C 61 [E,(.int .u8 109)] t) fun v w=>aP v fun y=>iK (.bool !y)
 (bnd (A.u 23 G) fun b1=>bnd (A.store 1 b1 (.string ⟨⟨[]⟩⟩) w) fun d1=>bnd (A.load true 24 G d1) fun e1=>bnd (A.store 24 P e1 d1) fun i1=>kr P i1)
 (bnd (A.load true 24 G w) fun j1=>bnd (A.store 24 P j1 w) fun l1=>kr P l1))
 (aE (C 61 [E,(.int .u8 109)] n) fun n1 o1=>aP n1 fun p1=>iK (.bool !p1)
 (bnd (A.u 23 G) fun s1=>bnd (A.store 1 s1 (.string ⟨⟨[]⟩⟩) o1) fun u1=>bnd (A.load true 24 G u1) fun v1=>bnd (A.store 24 P v1 u1) fun y1=>kr P y1)
 (bnd (A.load true 24 G o1) fun z1=>bnd (A.store 24 P z1 o1) fun b2=>kr P b2)))
 (aE (C 61 [E,(.int .u8 98)] c) fun d2 e2=>aP d2 fun f2=>iK (.bool !f2)
 (bnd (A.u 22 G) fun k2=>bnd (A.store 1 k2 (.slice none 0 0) e2) fun m2=>aE (C 61 [E,(.int .u8 109)] m2) fun o2 p2=>aP o2 fun q2=>iK (.bool !q2)
 (bnd (A.u 23 G) fun t2=>bnd (A.store 1 t2 (.string ⟨⟨[]⟩⟩) p2) fun v2=>bnd (A.load true 24 G v2) fun w2=>bnd (A.store 24 P w2 v2) fun z2=>kr P z2)
 (bnd (A.load true 24 G p2) fun a3=>bnd (A.store 24 P a3 p2) fun c3=>kr P c3))
 (aE (C 61 [E,(.int .u8 109)] e2) fun e3 f3=>aP e3 fun i3=>iK (.bool !i3)
 (bnd (A.u 23 G) fun l3=>bnd (A.store 1 l3 (.string ⟨⟨[]⟩⟩) f3) fun n3=>bnd (A.load true 24 G n3) fun o3=>bnd (A.store 24 P o3 n3) fun q3=>kr P q3)
 (bnd (A.load true 24 G f3) fun r3=>bnd (A.store 24 P r3 f3) fun t3=>kr P t3)))
noncomputable def aZz (kr:K1 β):=bYa C h B (fun D E G P h=>bEl C h D P E G (fun D E G P h=>bEk C h D P E G (fun D E G P h=>bEj C h D P E G (fun D E G P h=>bEi C h D P E G (fun E G P h=>aWc C h P E G (fun E G P h=>aWb C h P E G (fun E G P h=>aWa C h P E G (fun E G P h=>aVz C h P E G (fun E G P h=>aVy C h P E G (fun E G P h=>bEh C h P E G kr))))))))))
theorem bRx:aC prog C L 2 79 [2] (g cIr 1) [2] [] (r1 0 B) h K=aZz C h B (R K [2]):=by unfold aZz;refine(y 3 [1,3,4,2] ?_ (w4 fun D E G P h=>(q [1,3,4,2] ?_ (w4 fun D E G P h=>(q [1,3,4,2] ?_ (w4 fun D E G P h=>(q [1,3,4,2] ?_ (w4 fun D E G P h=>(q [3,4,2] ?_ (w3 fun E G P h=>(q [3,4,2] ?_ (w3 fun E G P h=>(q [3,4,2] ?_ (w3 fun E G P h=>(q [3,4,2] ?_ (w3 fun E G P h=>(q [3,4,2] ?_ (w3 fun E G P h=>(q [3,4,2] ?_ ?_ ?_)) ?_)) ?_)) ?_)) ?_)) ?_)) ?_)) ?_)) ?_)) ?_)<;>intros<;>kernel_rfl
noncomputable def F57 (C:CF)(L:Nat)(B:V)(h:H):O (V×H):=aZz C h B (fun P h=>bnd (rP (A.load true 24 P h) (some [])) fun vs=>some (iT vs,h))
def bVp (Q:Orc)(n:Nat)(B:V)(h:H)(q:Q 57 [B]=none):=(tq q Tryz.func57 (bRx _ n h _ B) (by kernel_rfl) (by kernel_rfl):_=F57 (aA prog 2 Q n) n B h)
noncomputable def aMn:Code:=(Tryz.f58.body).getD .skip
noncomputable def bXz (kn:K1 β):=aE (A.zJ 24 B h) fun a b=>kn a b
noncomputable def bXy (kn:K2 β):=kn (.int .i64 0) D h
noncomputable def aQf (kx0:K1 β)(kn:K2 β):=lf 22 1 D h fun c=>bnd (A.zG c) fun d=>bI .lss 3 E d
 (kn E D h)
 (kx0 D h)
noncomputable def bEg (kn:K3 β):=lf 22 1 D h fun b=>bnd (A.zH 2 b E) fun d=>lf 0 1 d h fun f=>aE (C 79 [f] h) fun i j=>aP i fun k=>iK (.bool !k)
 (kn (.bool true) E D j)
 (lf 22 1 D j fun s=>bnd (A.zH 2 s E) fun u=>lf 1 1 u j fun w=>bI .gtr 5 w (.int .u8 2)
 (kn (.bool true) E D j)
 (lf 0 1 D j fun e1=>bI .eql 5 e1 (.int .u8 10)
 (lf 22 1 D j fun l1=>bnd (A.zH 2 l1 E) fun n1=>lf 1 1 n1 j fun p1=>bB .gtr 5 p1 (.int .u8 0) fun r1=>kn (.bool r1) E D j)
 (kn (.bool false) E D j)))
noncomputable def bEf (kr:K1 β)(kn:K2 β):=aL xh (kr (.bool false) h) (kn E D h)
noncomputable def aLd (kr:K1 β)(kn:K2 β):=bEg C h D E (fun xh E D h=>bEf h D E xh kr kn)
theorem bMd:aC prog C L 2 85 [2] (g aMn 420) [3,1] [(1,[3,1]),(0,[1])] (r2 3 1 E D) h K=aLd C h D E (R K [2]) (N K [3,1]):=by unfold aLd;refine(q [42,3,1] ?_ ?_ ?_)<;>intros<;>kernel_rfl
noncomputable def bEe (kn:K2 β):=bnd (A.zA prog .add 3 E (.int .i64 1)) fun b=>kn b D h
noncomputable def aGb (C:CF)(L:Nat){β:Type}(kr kx0:K1 β):Nat→K2 β
 |0,_,_,_=>none
 |n+1,E,D,h=>aQf h D E kx0 (fun E D h=>aLd C h D E kr (fun E D h=>bEe h D E (fun E D h=>aGb C L kr kx0 n E D h)))
theorem bKd (C:CF)(L:Nat){β:Type}(K:KK β):∀n,M (fun fr h=>Lw prog C L 2 85 [2] (g aMn 52) [3,1] [(0,[1])] n fr h K) [3,1]=aGb C L (R K [2]) (X K 0 [1]) n:=by refine lw [3,1] [3,1] (F:=fun kn E D h=>aQf h D E (X K 0 [1]) (fun E D h=>aLd C h D E (R K [2]) (fun E D h=>bEe h D E kn))) ?_ ?_ (fun kn=>w2 fun E D h=>(y 1 [3,1] ?_ (w2 fun E D h=>(q [3,1] (fun k=>(bk 1 (bMd C L h _ D E) ?_)) ?_ ?_)) ?_))<;>intros<;>kernel_rfl
noncomputable def aZb (kr kn:K1 β):=bXy h D (fun E D h=>aGb C L kr kn L E D h)
theorem bOt:aC prog C L 2 85 [2] (g aMn 6) [1] [] (r1 1 D) h K=aZb C L h D (R K [2]) (N K [1]):=by unfold aZb;refine(y 1 [3,1] ?_ (w2 fun E D h=>(bk 0 (lp (c2 (bKd C L _ L) E D h) ?_) ?_)) ?_)<;>intros<;>kernel_rfl
noncomputable def bXx (kn:K2 β):=kn (.int .i64 0) D h
noncomputable def aKg (kx2:K1 β)(kn:K2 β):=lf 23 1 D h fun c=>bnd (A.zC c) fun d=>bI .lss 3 G d
 (kn G D h)
 (kx2 D h)
noncomputable def aQe (kr:K1 β)(kn:K2 β):=lf 23 1 D h fun b=>bnd (A.zB b G) fun d=>bI .gtr 5 d (.int .u8 2)
 (lf 23 1 D h fun k=>bnd (A.zB k G) fun m=>bI .neq 5 m (.int .u8 128)
 (kr (.bool false) h)
 (kn G D h))
 (kn G D h)
noncomputable def aVx (kn:K2 β):=bnd (A.zA prog .add 3 G (.int .i64 1)) fun b=>kn b D h
noncomputable def aEh (C:CF)(L:Nat){β:Type}(kr kx2:K1 β):Nat→K2 β
 |0,_,_,_=>none
 |n+1,G,D,h=>aKg h D G kx2 (fun G D h=>aQe h D G kr (fun G D h=>aVx h D G (fun G D h=>aEh C L kr kx2 n G D h)))
theorem bKv (C:CF)(L:Nat){β:Type}(K:KK β):∀n,M (fun fr h=>Lw prog C L 2 85 [2] (g aMn 116) [4,1] [(2,[1])] n fr h K) [4,1]=aEh C L (R K [2]) (X K 2 [1]) n:=by refine lw [4,1] [4,1] (F:=fun kn G D h=>aKg h D G (X K 2 [1]) (fun G D h=>aQe h D G (R K [2]) (fun G D h=>aVx h D G kn))) ?_ ?_ (fun kn=>w2 fun G D h=>(y 1 [4,1] ?_ (w2 fun G D h=>(q [4,1] (fun k=>(bk 3 ?_ ?_)) ?_ ?_)) ?_))<;>intros<;>kernel_rfl
noncomputable def aSy (kr kn:K1 β):=bXx h D (fun G D h=>aEh C L kr kn L G D h)
theorem bOm:aC prog C L 2 85 [2] (g aMn 14) [1] [] (r1 1 D) h K=aSy C L h D (R K [2]) (N K [1]):=by unfold aSy;refine(y 1 [4,1] ?_ (w2 fun G D h=>(bk 2 (lp (c2 (bKv C L _ L) G D h) ?_) ?_)) ?_)<;>intros<;>kernel_rfl
noncomputable def aQd (kr:K1 β):=lf 0 1 D h fun b=>bI .eql 5 b (.int .u8 8)
 (lf 22 1 D h fun j=>bnd (A.zG j) fun k=>bB .gtr 3 k (.int .i64 0) fun m=>bI .eql 4 (.bool true) (.bool m)
 (lf 0 1 D h fun r=>bB .eql 5 r (.int .u8 9) fun t=>lf 23 1 D h fun v=>bnd (A.zC v) fun w=>bB .gtr 3 w (.int .i64 0) fun z=>bB .eql 4 (.bool t) (.bool z) fun b1=>kr (.bool b1) h)
 (kr (.bool false) h))
 (lf 0 1 D h fun j1=>bB .eql 5 j1 (.int .u8 10) fun l1=>lf 22 1 D h fun o1=>bnd (A.zG o1) fun p1=>bB .gtr 3 p1 (.int .i64 0) fun r1=>bI .eql 4 (.bool l1) (.bool r1)
 (lf 0 1 D h fun w1=>bB .eql 5 w1 (.int .u8 9) fun z1=>lf 23 1 D h fun b2=>bnd (A.zC b2) fun c2=>bB .gtr 3 c2 (.int .i64 0) fun e2=>bB .eql 4 (.bool z1) (.bool e2) fun i2=>kr (.bool i2) h)
 (kr (.bool false) h))
noncomputable def aZy (kr:K1 β):=bXz h B (fun D h=>aZb C L h D kr (fun D h=>aSy C L h D kr (fun D h=>aQd h D kr)))
theorem bRw:aC prog C L 2 85 [2] (g aMn 1) [2] [] (r1 0 B) h K=aZy C L h B (R K [2]):=by unfold aZy;refine(y 1 [1] ?_ (w1 fun D h=>(q [1] (fun k=>(bOt C L h _ D)) (w1 fun D h=>(q [1] (fun k=>(bOm C L h _ D)) ?_ ?_)) ?_)) ?_)<;>intros<;>kernel_rfl
noncomputable def F58 (C:CF)(L:Nat)(B:V)(h:H):O (V×H):=aZy C L h B (fun P h=>some (P,h))
def bVo (Q:Orc)(n:Nat)(B:V)(h:H)(q:Q 58 [B]=none):=(tq q Tryz.func58 (bRw _ n h _ B) (by kernel_rfl) (by kernel_rfl):_=F58 (aA prog 2 Q n) n B h)
noncomputable def aMm:Code:=(Tryz.f59.body).getD .skip
noncomputable def bXw (kn:K1 β):=aE (A.zJ 24 B h) fun a b=>kn a b
noncomputable def aVw (kr kn:K1 β):=lf 7 1 D h fun b=>bI .neq 5 b (.int .u8 4)
 (kr (.bool false) h)
 (lf 10 1 D h fun k=>aE (C 80 [k] h) fun l m=>aP l fun n=>iK (.bool !n)
 (kr (.bool false) m)
 (kn D m))
noncomputable def aVv (kn:K2 β):=lf 11 1 D h fun b=>iK b
 (bnd (A.u 12 D) fun e=>lf 0 1 e h fun i=>aE (C 60 [i] h) fun j k=>aP j fun l=>iK (.bool !l)
 (kn (.bool true) D k)
 (bnd (A.u 12 D) fun t=>lf 1 1 t k fun v=>bnd (A.zC v) fun w=>bI .gtr 3 w (.int .i64 65535)
 (kn (.bool true) D k)
 (bnd (A.u 12 D) fun e1=>lf 2 1 e1 k fun i1=>bB .gtr 5 i1 (.int .u8 2) fun k1=>kn (.bool k1) D k)))
 (kn (.bool false) D h)
noncomputable def aVu (kr kn:K1 β):=aL xf (kr (.bool false) h) (kn D h)
noncomputable def aGp (kr kn:K1 β):=aVv C h D (fun xf D h=>aVu h D xf kr kn)
theorem bMl:aC prog C L 2 100 [2] (g aMm 14) [1] [] (r1 1 D) h K=aGp C h D (R K [2]) (N K [1]):=by unfold aGp;refine(y 1 [33,1] ?_ ?_ ?_)<;>intros<;>kernel_rfl
noncomputable def bXv (kn:K2 β):=lf 11 1 D h fun b=>aP b fun c=>iK (.bool !c)
 (bnd (A.u 12 D) fun i=>lf 0 1 i h fun k=>bI .neq 9 k (.string ⟨⟨[]⟩⟩)
 (kn (.bool true) D h)
 (bnd (A.u 12 D) fun u=>lf 1 1 u h fun w=>bI .neq 9 w (.string ⟨⟨[]⟩⟩)
 (kn (.bool true) D h)
 (bnd (A.u 12 D) fun i1=>lf 2 1 i1 h fun k1=>bI .neq 5 k1 (.int .u8 0)
 (kn (.bool true) D h)
 (bnd (A.u 12 D) fun r1=>lf 3 1 r1 h fun t1=>aP t1 fun u1=>kn (.bool u1) D h))))
 (kn (.bool false) D h)
noncomputable def bXu (kr kn:K1 β):=aL xl (kr (.bool false) h) (kn D h)
noncomputable def aSj (kr kn:K1 β):=bXv h D (fun xl D h=>bXu h D xl kr kn)
theorem bLq:aC prog C L 2 100 [2] (g aMm 30) [1] [] (r1 1 D) h K=aSj h D (R K [2]) (N K [1]):=by unfold aSj;refine(y 1 [59,1] ?_ ?_ ?_)<;>intros<;>kernel_rfl
noncomputable def bEd (kn:K2 β):=lf 16 1 D h fun b=>iK b
 (lf 18 1 D h fun f=>aE (C 80 [f] h) fun i j=>aP i fun k=>iK (.bool !k)
 (kn (.bool true) D j)
 (lf 16 1 D j fun r=>aP r fun s=>iK (.bool !s)
 (lf 18 1 D j fun y=>bI .neq 9 y (.string ⟨⟨[]⟩⟩)
 (kn (.bool true) D j)
 (lf 17 1 D j fun i1=>aP i1 fun j1=>kn (.bool j1) D j))
 (kn (.bool false) D j)))
 (lf 16 1 D h fun s1=>aP s1 fun t1=>iK (.bool !t1)
 (lf 18 1 D h fun z1=>bI .neq 9 z1 (.string ⟨⟨[]⟩⟩)
 (kn (.bool true) D h)
 (lf 17 1 D h fun j2=>aP j2 fun k2=>kn (.bool k2) D h))
 (kn (.bool false) D h))
noncomputable def bEc (kr kn:K1 β):=aL xq (kr (.bool false) h) (kn D h)
noncomputable def aLc (kr kn:K1 β):=bEd C h D (fun xq D h=>bEc h D xq kr kn)
theorem bMc:aC prog C L 2 100 [2] (g aMm 62) [1] [] (r1 1 D) h K=aLc C h D (R K [2]) (N K [1]):=by unfold aLc;refine(y 1 [81,1] ?_ ?_ ?_)<;>intros<;>kernel_rfl
noncomputable def bEb (kr:K1 β):=lf 17 1 D h fun b=>iK b
 (lf 19 1 D h fun f=>bnd (A.zC f) fun i=>bI .leq 3 i (.int .i64 65535)
 (kr (.bool true) h)
 (lf 17 1 D h fun q=>aP q fun r=>iK (.bool !r)
 (lf 19 1 D h fun w=>bB .eql 9 w (.string ⟨⟨[]⟩⟩) fun z=>kr (.bool z) h)
 (kr (.bool false) h)))
 (lf 17 1 D h fun l1=>aP l1 fun m1=>iK (.bool !m1)
 (lf 19 1 D h fun r1=>bB .eql 9 r1 (.string ⟨⟨[]⟩⟩) fun t1=>kr (.bool t1) h)
 (kr (.bool false) h))
noncomputable def aZx (kr:K1 β):=bXw h B (fun D h=>aVw C h D kr (fun D h=>aGp C h D kr (fun D h=>aSj h D kr (fun D h=>aLc C h D kr (fun D h=>bEb h D kr)))))
theorem bRv:aC prog C L 2 100 [2] (g aMm 1) [2] [] (r1 0 B) h K=aZx C h B (R K [2]):=by unfold aZx;refine(y 1 [1] ?_ (w1 fun D h=>(q [1] ?_ (w1 fun D h=>(q [1] (fun k=>(bMl C L h _ D)) (w1 fun D h=>(q [1] (fun k=>(bLq C L h _ D)) (w1 fun D h=>(q [1] (fun k=>(bMc C L h _ D)) ?_ ?_)) ?_)) ?_)) ?_)) ?_)<;>intros<;>kernel_rfl
noncomputable def F59 (C:CF)(L:Nat)(B:V)(h:H):O (V×H):=aZx C h B (fun P h=>some (P,h))
def bVn (Q:Orc)(n:Nat)(B:V)(h:H)(q:Q 59 [B]=none):=(tq q Tryz.func59 (bRv _ n h _ B) (by kernel_rfl) (by kernel_rfl):_=F59 (aA prog 2 Q n) n B h)
noncomputable def cIb:Code:=(Tryz.f60.body).getD .skip
noncomputable def aTr (kr:K1 β):=bnd (A.zC B) fun c=>bI .gtr 3 c (.int .i64 0)
 (aE (C 80 [B] h) fun j k=>iK j
 (aE (C 61 [B,(.int .u8 43)] k) fun p q=>aP p fun r=>iK (.bool !r)
 (aE (C 61 [B,(.int .u8 35)] q) fun y z=>aP y fun a1=>aP (.bool !a1) fun c1=>kr (.bool c1) z)
 (kr (.bool false) q))
 (kr (.bool false) k))
 (kr (.bool false) h)
theorem bRu:aC prog C L 2 20 [2] (g cIb 1) [2] [] (r1 0 B) h K=aTr C h B (R K [2]):=by kernel_rfl
noncomputable def F60 (C:CF)(L:Nat)(B:V)(h:H):O (V×H):=aTr C h B (fun P h=>some (P,h))
def bVm (Q:Orc)(n:Nat)(B:V)(h:H)(q:Q 60 [B]=none):=(tq q Tryz.func60 (bRu _ n h _ B) (by kernel_rfl) (by kernel_rfl):_=F60 (aA prog 2 Q n) n B h)
noncomputable def bIa:Code:=(Tryz.f61.body).getD .skip
noncomputable def bXt (kn:K2 β):=kn D B h
noncomputable def bXs (kn:K3 β):=kn (.int .i64 0) D B h
noncomputable def aQc (kr:K1 β)(kx0:K0 β)(kn:K3 β):=bnd (A.zC B) fun c=>bI .lss 3 I c
 (bnd (A.zB B I) fun j=>bI .eql 5 j D
 (kr (.bool true) h)
 (bnd (A.zA prog .add 3 I (.int .i64 1)) fun p=>kn p D B h))
 (kx0 h)
noncomputable def aGa (C:CF)(L:Nat){β:Type}(kr:K1 β)(kx0:K0 β):Nat→K3 β
 |0,_,_,_,_=>none
 |n+1,I,D,B,h=>aQc h B D I kr kx0 (fun I D B h=>aGa C L kr kx0 n I D B h)
theorem bKc (C:CF)(L:Nat){β:Type}(K:KK β):∀n,M (fun fr h=>Lw prog C L 2 17 [4] (g bIa 52) [5,1,0] [(0,[])] n fr h K) [5,1,0]=aGa C L (R K [4]) (X K 0 []) n:=by refine lw [5,1,0] [5,1,0] (F:=fun kn I D B h=>aQc h B D I (R K [4]) (X K 0 []) kn) ?_ ?_ ?_<;>intros<;>kernel_rfl
noncomputable def aYn (kr:K1 β)(kn:K0 β):=bXs h B D (fun I D B h=>aGa C L kr kn L I D B h)
theorem bNj:aC prog C L 2 17 [4] (g bIa 6) [] [] (r2 1 0 D B) h K=aYn C L h B D (R K [4]) (N K []):=by unfold aYn;refine(y 1 [5,1,0] ?_ (w3 fun I D B h=>(bk 0 (lp (c3 (bKc C L _ L) I D B h) ?_) ?_)) ?_)<;>intros<;>kernel_rfl
noncomputable def bXr (kr:K1 β):=kr (.bool false) h
noncomputable def aZw (kr:K1 β):=bXt h B D (fun D B h=>aYn C L h B D kr (fun h=>bXr h kr))
theorem bRt:aC prog C L 2 17 [4] (g bIa 1) [4] [] (r2 0 1 B D) h K=aZw C L h B D (R K [4]):=by unfold aZw;refine(y 1 [1,0] ?_ (w2 fun D B h=>(q [] (fun k=>(bNj C L h _ B D)) ?_ ?_)) ?_)<;>intros<;>kernel_rfl
noncomputable def F61 (C:CF)(L:Nat)(B D:V)(h:H):O (V×H):=aZw C L h B D (fun G h=>some (G,h))
def bVl (Q:Orc)(n:Nat)(B D:V)(h:H)(q:Q 61 [B,D]=none):=(tq q Tryz.func61 (bRt _ n h _ B D) (by kernel_rfl) (by kernel_rfl):_=F61 (aA prog 2 Q n) n B D h)
noncomputable def bAx:Code:=(Tryz.f62.body).getD .skip
noncomputable def bEa (kn:K2 β):=aE (A.zJ 24 B h) fun a b=>lf 6 1 a b fun e=>bnd (A.zC e) fun f=>lf 23 1 a b fun j=>bnd (A.zC j) fun k=>bnd (A.zA prog .add 3 f k) fun l=>lf 4 1 a b fun o=>bI .gtr 33 o (.int .u16 0)
 (bnd (A.zA prog .add 3 l (.int .i64 2)) fun s=>kn a s b)
 (kn a l b)
noncomputable def bXq (kn:K3 β):=kn (.int .i64 0) D E h
noncomputable def aQb (kx0:K2 β)(kn:K3 β):=lf 22 1 D h fun c=>bnd (A.zG c) fun d=>bI .lss 3 G d
 (bnd (A.zA prog .add 3 E (.int .i64 2)) fun j=>lf 22 1 D h fun l=>bnd (A.zH 2 l G) fun n=>lf 0 1 n h fun p=>bnd (A.zC p) fun q=>bnd (A.zA prog .add 3 j q) fun r=>lf 0 1 D h fun u=>bI .eql 5 u (.int .u8 8)
 (bnd (A.zA prog .add 3 r (.int .i64 1)) fun z=>bnd (A.zA prog .add 3 G (.int .i64 1)) fun c1=>kn c1 D z h)
 (bnd (A.zA prog .add 3 G (.int .i64 1)) fun f1=>kn f1 D r h))
 (kx0 D E h)
noncomputable def aFz (C:CF)(L:Nat){β:Type}(kx0:K2 β):Nat→K3 β
 |0,_,_,_,_=>none
 |n+1,G,D,E,h=>aQb h D E G kx0 (fun G D E h=>aFz C L kx0 n G D E h)
theorem bKb (C:CF)(L:Nat){β:Type}(K:KK β):∀n,M (fun fr h=>Lw prog C L 2 92 [2] (g bAx 244) [4,1,3] [(0,[1,3])] n fr h K) [4,1,3]=aFz C L (X K 0 [1,3]) n:=by refine lw [4,1,3] [4,1,3] (F:=fun kn G D E h=>aQb h D E G (X K 0 [1,3]) kn) ?_ ?_ ?_<;>intros<;>kernel_rfl
noncomputable def aSs (kn:K2 β):=bXq h D E (fun G D E h=>aFz C L kn L G D E h)
theorem bNp:aC prog C L 2 92 [2] (g bAx 30) [1,3] [] (r2 1 3 D E) h K=aSs C L h D E (N K [1,3]):=by unfold aSs;refine(y 1 [4,1,3] ?_ (w3 fun G D E h=>(bk 0 (lp (c3 (bKb C L _ L) G D E h) ?_) ?_)) ?_)<;>intros<;>kernel_rfl
noncomputable def aQa (kn:K3 β):=lf 0 1 D h fun b=>kn b D E h
noncomputable def aPz (kn:K4 β):=bB .eql 5 xa (.int .u8 1) fun b=>kn (.bool b) xa D E h
noncomputable def bDz (kn:K2 β):=bnd (A.zA prog .add 3 E (.int .i64 12)) fun b=>lf 10 1 D h fun d=>bnd (A.zC d) fun e=>bnd (A.zA prog .add 3 b e) fun f=>kn D f h
noncomputable def aVs (kn:K2 β):=lf 11 1 D h fun b=>iK b
 (bnd (A.zA prog .add 3 E (.int .i64 4)) fun e=>bnd (A.u 12 D) fun f=>lf 0 1 f h fun j=>bnd (A.zC j) fun k=>bnd (A.zA prog .add 3 e k) fun l=>bnd (A.u 12 D) fun m=>lf 1 1 m h fun o=>bnd (A.zC o) fun p=>bnd (A.zA prog .add 3 l p) fun q=>kn D q h)
 (kn D E h)
noncomputable def aKf (kn:K1 β):=lf 16 1 D h fun b=>iK b
 (bnd (A.zA prog .add 3 E (.int .i64 2)) fun e=>lf 18 1 D h fun i=>bnd (A.zC i) fun j=>bnd (A.zA prog .add 3 e j) fun k=>lf 17 1 D h fun n=>iK n
 (bnd (A.zA prog .add 3 k (.int .i64 2)) fun q=>lf 19 1 D h fun s=>bnd (A.zC s) fun t=>bnd (A.zA prog .add 3 q t) fun u=>kn u h)
 (kn k h))
 (lf 17 1 D h fun y=>iK y
 (bnd (A.zA prog .add 3 E (.int .i64 2)) fun b1=>lf 19 1 D h fun d1=>bnd (A.zC d1) fun e1=>bnd (A.zA prog .add 3 b1 e1) fun f1=>kn f1 h)
 (kn E h))
noncomputable def aVt (kn:K1 β):=bI .eql 5 xa (.int .u8 2)
 (bnd (A.zA prog .add 3 E (.int .i64 2)) fun e=>kn e h)
 (bI .eql 5 xa (.int .u8 3)
 (bnd (A.zA prog .add 3 E (.int .i64 2)) fun m=>lf 5 1 D h fun o=>bnd (A.zC o) fun p=>bnd (A.zA prog .add 3 m p) fun q=>kn q h)
 (kn E h))
noncomputable def xR (kn:K1 β):=aQa h D E (fun xa D E h=>aPz h D E xa (fun xg xa D E h=>aL xg (bDz h D E (fun D E h=>aVs h D E (fun D E h=>aKf h D E kn))) (aVt h D E xa kn)))
theorem bOr:aC prog C L 2 92 [2] (g bAx 62) [3] [] (r2 1 3 D E) h K=xR h D E (N K [3]):=by unfold xR;refine(y 1 [40,1,3] ?_ (w3 fun xa D E h=>(bk 2 (y 1 [41,40,1,3] ?_ (w4 fun xg xa D E h=>(cd (q [1,3] ?_ (w2 fun D E h=>(q [1,3] ?_ ?_ ?_)) ?_) ?_ ?_)) ?_) ?_)) ?_)<;>intros<;>kernel_rfl
noncomputable def bDy (kr:K1 β):=kr E h
noncomputable def aTq (kr:K1 β):=bEa h B (fun D E h=>aSs C L h D E (fun D E h=>xR h D E (fun E h=>bDy h E kr)))
theorem bRs:aC prog C L 2 92 [2] (g bAx 1) [2] [] (r1 0 B) h K=aTq C L h B (R K [2]):=by unfold aTq;refine(y 3 [1,3] ?_ (w2 fun D E h=>(q [1,3] (fun k=>(bNp C L h _ D E)) (w2 fun D E h=>(q [3] (fun k=>(bOr C L h _ D E)) ?_ ?_)) ?_)) ?_)<;>intros<;>kernel_rfl
noncomputable def F62 (C:CF)(L:Nat)(B:V)(h:H):O (V×H):=aTq C L h B (fun P h=>some (P,h))
def bVk (Q:Orc)(n:Nat)(B:V)(h:H)(q:Q 62 [B]=none):=(tq q Tryz.func62 (bRs _ n h _ B) (by kernel_rfl) (by kernel_rfl):_=F62 (aA prog 2 Q n) n B h)
noncomputable def cHz:Code:=(Tryz.f63.body).getD .skip
noncomputable def cEt (kr:K1 β):=iK B
 (kr D h)
 (kr (.int .i64 0) h)
theorem bRr:aC prog C L 2 7 [4] (g cHz 1) [4] [] (r2 0 1 B D) h K=cEt h B D (R K [4]):=by kernel_rfl
noncomputable def F63 (C:CF)(L:Nat)(B D:V)(h:H):O (V×H):=cEt h B D (fun G h=>some (G,h))
def bVj (Q:Orc)(n:Nat)(B D:V)(h:H)(q:Q 63 [B,D]=none):=(tq q Tryz.func63 (bRr _ n h _ B D) (by kernel_rfl) (by kernel_rfl):_=F63 (aA prog 2 Q n) n B D h)
noncomputable def cHy:Code:=(Tryz.f64.body).getD .skip
noncomputable def bHq (kr:K1 β):=aE (C 81 [B] h) fun c d=>bnd (A.z 0 c) fun f=>bnd (A.z 1 c) fun i=>kr f d
theorem bRq:aC prog C L 2 11 [2] (g cHy 1) [2] [] (r1 0 B) h K=bHq C h B (R K [2]):=by kernel_rfl
noncomputable def F64 (C:CF)(L:Nat)(B:V)(h:H):O (V×H):=bHq C h B (fun P h=>some (P,h))
def bVi (Q:Orc)(n:Nat)(B:V)(h:H)(q:Q 64 [B]=none):=(tq q Tryz.func64 (bRq _ n h _ B) (by kernel_rfl) (by kernel_rfl):_=F64 (aA prog 2 Q n) n B h)
noncomputable def cHx:Code:=(Tryz.f66.body).getD .skip
noncomputable def bHp (kr:K1 β):=bnd (A.conv prog 33 3 B) fun c=>aE (A.zD 1 1 Z3L [(0,1,c)] h) fun d e=>aE (C 82 [d] e) fun f i=>bnd (A.z 0 f) fun k=>bnd (A.z 1 f) fun l=>kr k i
theorem bRp:aC prog C L 2 13 [2] (g cHx 1) [2] [] (r1 0 B) h K=bHp C h B (R K [2]):=by kernel_rfl
noncomputable def F66 (C:CF)(L:Nat)(B:V)(h:H):O (V×H):=bHp C h B (fun P h=>some (P,h))
def bVh (Q:Orc)(n:Nat)(B:V)(h:H)(q:Q 66 [B]=none):=(tq q Tryz.func66 (bRp _ n h _ B) (by kernel_rfl) (by kernel_rfl):_=F66 (aA prog 2 Q n) n B h)
noncomputable def cHr:Code:=(Tryz.f77.body).getD .skip
noncomputable def aTm (kr:K3 β):=aE (C 78 [B] h) fun e f=>bnd (A.z 0 e) fun j=>bnd (A.z 1 e) fun k=>bnd (A.z 2 e) fun l=>bI .neq 3 l (.int .i64 0)
 (kr (.string ⟨⟨[]⟩⟩) (.int .i64 0) (.int .i64 2) f)
 (bnd (A.zC B) fun z=>bnd (A.zA prog .add 3 (.int .i64 2) j) fun b1=>bI .lss 3 z b1
 (kr (.string ⟨⟨[]⟩⟩) (.int .i64 0) (.int .i64 2) f)
 (bnd (A.zA prog .add 3 (.int .i64 2) j) fun m1=>bnd (A.zE B (some (.int .i64 2)) (some m1)) fun n1=>bnd (A.zA prog .add 3 (.int .i64 2) j) fun p1=>kr n1 p1 (.int .i64 0) f))
theorem bRe:aC prog C L 2 29 [2,3,4] (g cHr 1) [2,3,4] [] (r1 0 B) h K=aTm C h B (R K [2,3,4]):=by kernel_rfl
noncomputable def F77 (C:CF)(L:Nat)(B:V)(h:H):O (V×H):=aTm C h B (fun P E G h=>some (.tuple ⟨[P,E,G]⟩,h))
def bUw (Q:Orc)(n:Nat)(B:V)(h:H)(q:Q 77 [B]=none):=(tq q Tryz.func77 (bRe _ n h _ B) (by kernel_rfl) (by kernel_rfl):_=F77 (aA prog 2 Q n) n B h)
noncomputable def cHq:Code:=(Tryz.f78.body).getD .skip
noncomputable def bHo (kr:K3 β):=bnd (A.zC B) fun e=>bI .lss 3 e (.int .i64 2)
 (kr (.int .i64 0) (.int .i64 0) (.int .i64 2) h)
 (bnd (A.zB B (.int .i64 0)) fun n=>bnd (A.conv prog 5 3 n) fun o=>bnd (A.zA prog .mul 3 (.int .i64 256) o) fun p=>bnd (A.zB B (.int .i64 1)) fun r=>bnd (A.conv prog 5 3 r) fun s=>bnd (A.zA prog .add 3 p s) fun t=>kr t (.int .i64 2) (.int .i64 0) h)
theorem bRd:aC prog C L 2 16 [2,3,4] (g cHq 1) [2,3,4] [] (r1 0 B) h K=bHo h B (R K [2,3,4]):=by kernel_rfl
noncomputable def F78 (C:CF)(L:Nat)(B:V)(h:H):O (V×H):=bHo h B (fun P E G h=>some (.tuple ⟨[P,E,G]⟩,h))
def bUv (Q:Orc)(n:Nat)(B:V)(h:H)(q:Q 78 [B]=none):=(tq q Tryz.func78 (bRd _ n h _ B) (by kernel_rfl) (by kernel_rfl):_=F78 (aA prog 2 Q n) n B h)
noncomputable def bAv:Code:=(Tryz.f79.body).getD .skip
noncomputable def bDs (kr kn:K1 β):=bnd (A.zC B) fun c=>bI .eql 3 c (.int .i64 0)
 (kr (.bool false) h)
 (aE (C 80 [B] h) fun l m=>aP l fun n=>iK (.bool !n)
 (kr (.bool false) m)
 (kn B m))
noncomputable def cEh (kn:K2 β):=kn (.int .i64 0) B h
noncomputable def aVh (kx0:K0 β)(kn:K2 β):=bnd (A.zC B) fun c=>bI .lss 3 E c
 (kn E B h)
 (kx0 h)
noncomputable def aPm (kx1 kn:K2 β):=bnd (A.zB B E) fun c=>bI .neq 5 c (.int .u8 43)
 (bnd (A.zB B E) fun k=>bI .neq 5 k (.int .u8 35)
 (kx1 E B h)
 (kn E B h))
 (kn E B h)
noncomputable def aPl (kr:K1 β)(kn:K2 β):=bI .gtr 3 E (.int .i64 0)
 (bnd (A.zA prog .sub 3 E (.int .i64 1)) fun i=>bnd (A.zB B i) fun j=>bI .neq 5 j (.int .u8 47)
 (kr (.bool false) h)
 (kn E B h))
 (kn E B h)
noncomputable def aKa (kn:K3 β):=bnd (A.zC B) fun c=>bnd (A.zA prog .sub 3 c (.int .i64 1)) fun d=>bB .eql 3 E d fun f=>kn (.bool f) E B h
noncomputable def aJz (kn:K3 β):=aP G fun b=>iK (.bool !b)
 (bnd (A.zB B E) fun j=>bI .eql 5 j (.int .u8 35)
 (kn (.bool true) E B h)
 (bnd (A.zA prog .add 3 E (.int .i64 1)) fun r=>bnd (A.zB B r) fun s=>bB .neq 5 s (.int .u8 47) fun u=>kn (.bool u) E B h))
 (kn (.bool false) E B h)
noncomputable def aJy (kr:K1 β)(kn:K2 β):=aL xk (kr (.bool false) h) (kn E B h)
noncomputable def aSz (kr:K1 β)(kn:K2 β):=aPm h B E kn (fun E B h=>aPl h B E kr (fun E B h=>aKa h B E (fun G E B h=>aJz h B E G (fun xk E B h=>aJy h B E xk kr kn))))
theorem bOn:aC prog C L 2 58 [2] (g bAv 466) [3,0] [(0,[])] (r2 3 0 E B) h K=aSz h B E (R K [2]) (N K [3,0]):=by unfold aSz;refine(bk 1 (q [3,0] ?_ (w2 fun E B h=>(q [3,0] ?_ (w2 fun E B h=>(q [4,3,0] ?_ (w3 fun G E B h=>(q [57,3,0] ?_ ?_ ?_)) ?_)) ?_)) ?_) ?_)<;>intros<;>kernel_rfl
noncomputable def aVg (kn:K2 β):=bnd (A.zA prog .add 3 E (.int .i64 1)) fun b=>kn b B h
noncomputable def aKy (C:CF)(L:Nat){β:Type}(kr:K1 β)(kx0:K0 β):Nat→K2 β
 |0,_,_,_=>none
 |n+1,E,B,h=>aVh h B E kx0 (fun E B h=>aSz h B E kr (fun E B h=>aVg h B E (fun E B h=>aKy C L kr kx0 n E B h)))
theorem bJw (C:CF)(L:Nat){β:Type}(K:KK β):∀n,M (fun fr h=>Lw prog C L 2 58 [2] (g bAv 116) [3,0] [(0,[])] n fr h K) [3,0]=aKy C L (R K [2]) (X K 0 []) n:=by refine lw [3,0] [3,0] (F:=fun kn E B h=>aVh h B E (X K 0 []) (fun E B h=>aSz h B E (R K [2]) (fun E B h=>aVg h B E kn))) ?_ ?_ (fun kn=>w2 fun E B h=>(y 1 [3,0] ?_ (w2 fun E B h=>(q [3,0] (fun k=>(bOn C L h _ B E)) ?_ ?_)) ?_))<;>intros<;>kernel_rfl
noncomputable def aZj (kr:K1 β)(kn:K0 β):=cEh h B (fun E B h=>aKy C L kr kn L E B h)
theorem bPs:aC prog C L 2 58 [2] (g bAv 14) [] [] (r1 0 B) h K=aZj C L h B (R K [2]) (N K []):=by unfold aZj;refine(y 1 [3,0] ?_ (w2 fun E B h=>(bk 0 (lp (c2 (bJw C L _ L) E B h) ?_) ?_)) ?_)<;>intros<;>kernel_rfl
noncomputable def cEg (kr:K1 β):=kr (.bool true) h
noncomputable def aTl (kr:K1 β):=bDs C h B kr (fun B h=>aZj C L h B kr (fun h=>cEg h kr))
theorem bRc:aC prog C L 2 58 [2] (g bAv 1) [2] [] (r1 0 B) h K=aTl C L h B (R K [2]):=by unfold aTl;refine(y 2 [0] ?_ (w1 fun B h=>(q [] (fun k=>(bPs C L h _ B)) ?_ ?_)) ?_)<;>intros<;>kernel_rfl
noncomputable def F79 (C:CF)(L:Nat)(B:V)(h:H):O (V×H):=aTl C L h B (fun P h=>some (P,h))
def bUu (Q:Orc)(n:Nat)(B:V)(h:H)(q:Q 79 [B]=none):=(tq q Tryz.func79 (bRc _ n h _ B) (by kernel_rfl) (by kernel_rfl):_=F79 (aA prog 2 Q n) n B h)
noncomputable def cHp:Code:=(Tryz.f80.body).getD .skip
noncomputable def bHn (kr:K1 β):=aE (C 87 [B] h) fun c d=>bB .geq 3 c (.int .i64 0) fun f=>kr (.bool f) d
theorem bRb:aC prog C L 2 6 [2] (g cHp 1) [2] [] (r1 0 B) h K=bHn C h B (R K [2]):=by kernel_rfl
noncomputable def F80 (C:CF)(L:Nat)(B:V)(h:H):O (V×H):=bHn C h B (fun P h=>some (P,h))
def bUt (Q:Orc)(n:Nat)(B:V)(h:H)(q:Q 80 [B]=none):=(tq q Tryz.func80 (bRb _ n h _ B) (by kernel_rfl) (by kernel_rfl):_=F80 (aA prog 2 Q n) n B h)
noncomputable def cHo:Code:=(Tryz.f81.body).getD .skip
noncomputable def bHm (kr:K2 β):=bnd (A.zC B) fun d=>aE (A.zD 1 1 Z3L [(0,1,d)] h) fun e f=>aE (C 82 [e] f) fun i j=>bnd (A.z 0 i) fun l=>bnd (A.z 1 i) fun m=>bI .neq 3 m (.int .i64 0)
 (kr (.string ⟨⟨[]⟩⟩) (.int .i64 3) j)
 (bnd (A.zA prog .add 9 l B) fun w=>kr w (.int .i64 0) j)
theorem bRa:aC prog C L 2 18 [2,3] (g cHo 1) [2,3] [] (r1 0 B) h K=bHm C h B (R K [2,3]):=by kernel_rfl
noncomputable def F81 (C:CF)(L:Nat)(B:V)(h:H):O (V×H):=bHm C h B (fun P E h=>some (.tuple ⟨[P,E]⟩,h))
def bUs (Q:Orc)(n:Nat)(B:V)(h:H)(q:Q 81 [B]=none):=(tq q Tryz.func81 (bRa _ n h _ B) (by kernel_rfl) (by kernel_rfl):_=F81 (aA prog 2 Q n) n B h)
noncomputable def aTy:Code:=(Tryz.f82.body).getD .skip
noncomputable def bDr (kn:K2 β):=kn B (.string ⟨⟨[]⟩⟩) h
noncomputable def bDq (kn:K3 β):=kn (.int .i64 0) B G h
noncomputable def aVf (kx0:K1 β)(kn:K3 β):=bnd (A.zG B) fun c=>bI .lss 3 I c
 (kn G I B h)
 (kx0 G h)
noncomputable def bDp (kr:K2 β)(kn:K3 β):=bnd (A.zH 1 B I) fun c=>bnd (A.load false 1 c h) fun d=>bI .lss 3 d (.int .i64 0)
 (kr (.string ⟨⟨[]⟩⟩) (.int .i64 1) h)
 (bnd (A.zH 1 B I) fun o=>bnd (A.load false 1 o h) fun p=>bI .gtr 3 p (.int .i64 65535)
 (kr (.string ⟨⟨[]⟩⟩) (.int .i64 1) h)
 (kn G I B h))
noncomputable def cEf (kn:K3 β):=bnd (A.zH 1 B I) fun d=>bnd (A.load false 1 d h) fun e=>bnd (A.zA prog .quo 3 e (.int .i64 256)) fun f=>bnd (A.conv prog 3 5 f) fun i=>bnd (A.zH 1 B I) fun l=>bnd (A.load false 1 l h) fun m=>bnd (A.zA prog .rem 3 m (.int .i64 256)) fun n=>bnd (A.conv prog 3 5 n) fun o=>aE (A.zD 1 2 Z5L [(0,1,i),(1,1,o)] h) fun p q=>bnd (A.b2s p q) fun r=>bnd (A.zA prog .add 9 G r) fun s=>kn I B s q
noncomputable def aSo (kr:K2 β)(kn:K3 β):=bDp h B G I kr (fun G I B h=>cEf h B G I kn)
theorem bLx:aC prog C L 2 41 [2,3] (g aTy 932) [5,0,4] [(1,[5,0,4]),(0,[4])] (r3 4 5 0 G I B) h K=aSo h B G I (R K [2,3]) (N K [5,0,4]):=by unfold aSo;refine(y 1 [4,5,0] ?_ ?_ ?_)<;>intros<;>kernel_rfl
noncomputable def cEe (kn:K3 β):=bnd (A.zA prog .add 3 I (.int .i64 1)) fun b=>kn b B G h
noncomputable def aEx (kr:K2 β)(kx0:K1 β)(kn:K3 β):=aVf h B G I kx0 (fun G I B h=>aSo h B G I kr (fun I B G h=>cEe h B G I kn))
theorem bOg:aC prog C L 2 41 [2,3] (g aTy 116) [5,0,4] [(0,[4])] (r3 5 0 4 I B G) h K=aEx h B G I (R K [2,3]) (X K 0 [4]) (N K [5,0,4]):=by unfold aEx;refine(y 1 [4,5,0] ?_ (w3 fun G I B h=>(q [5,0,4] (fun k=>(bk 1 (bLx C L h _ B G I) ?_)) ?_ ?_)) ?_)<;>intros<;>kernel_rfl
noncomputable def aFy (C:CF)(L:Nat){β:Type}(kr:K2 β)(kx0:K1 β):Nat→K3 β
 |0,_,_,_,_=>none
 |n+1,I,B,G,h=>aEx h B G I kr kx0 (fun I B G h=>aFy C L kr kx0 n I B G h)
theorem bKa (C:CF)(L:Nat){β:Type}(K:KK β):∀n,M (fun fr h=>Lw prog C L 2 41 [2,3] (g aTy 116) [5,0,4] [(0,[4])] n fr h K) [5,0,4]=aFy C L (R K [2,3]) (X K 0 [4]) n:=by refine lw [5,0,4] [5,0,4] (F:=fun kn I B G h=>aEx h B G I (R K [2,3]) (X K 0 [4]) kn) ?_ ?_ (fun kn=>w3 fun I B G h=>(bOg C L h _ B G I))<;>intros<;>kernel_rfl
noncomputable def aTe (kr:K2 β)(kn:K1 β):=bDq h B G (fun I B G h=>aFy C L kr kn L I B G h)
theorem bPf:aC prog C L 2 41 [2,3] (g aTy 14) [4] [] (r2 0 4 B G) h K=aTe C L h B G (R K [2,3]) (N K [4]):=by unfold aTe;refine(y 1 [5,0,4] ?_ (w3 fun I B G h=>(bk 0 (lp (c3 (bKa C L _ L) I B G h) ?_) ?_)) ?_)<;>intros<;>kernel_rfl
noncomputable def aVe (kr:K2 β):=kr G (.int .i64 0) h
noncomputable def aTk (kr:K2 β):=bDr h B (fun B G h=>aTe C L h B G kr (fun G h=>aVe h G kr))
theorem bQz:aC prog C L 2 41 [2,3] (g aTy 1) [2,3] [] (r1 0 B) h K=aTk C L h B (R K [2,3]):=by unfold aTk;refine(y 2 [0,4] ?_ (w2 fun B G h=>(q [4] (fun k=>(bPf C L h _ B G)) ?_ ?_)) ?_)<;>intros<;>kernel_rfl
noncomputable def F82 (C:CF)(L:Nat)(B:V)(h:H):O (V×H):=aTk C L h B (fun P E h=>some (.tuple ⟨[P,E]⟩,h))
def bUr (Q:Orc)(n:Nat)(B:V)(h:H)(q:Q 82 [B]=none):=(tq q Tryz.func82 (bQz _ n h _ B) (by kernel_rfl) (by kernel_rfl):_=F82 (aA prog 2 Q n) n B h)
noncomputable def bHw:Code:=(Tryz.f87.body).getD .skip
noncomputable def aUy (kr:K1 β)(kn:K2 β):=bnd (A.zC B) fun c=>bI .gtr 3 c (.int .i64 65535)
 (kr (.int .i64 (-1)) h)
 (kn B (.int .i64 0) h)
noncomputable def bDo (kn:K3 β):=kn (.int .i64 0) B E h
noncomputable def aPk (kr kx0:K1 β)(kn:K3 β):=bnd (A.zC B) fun c=>bI .lss 3 G c
 (bnd (A.zE B (some G) none) fun j=>aE (C 91 [j] h) fun k l=>bnd (A.z 0 k) fun n=>bnd (A.z 1 k) fun o=>bI .eql 3 o (.int .i64 0)
 (kr (.int .i64 (-1)) l)
 (bnd (A.zA prog .add 3 G o) fun y=>bnd (A.zA prog .add 3 E (.int .i64 1)) fun b1=>kn y B b1 l))
 (kx0 E h)
noncomputable def aFx (C:CF)(L:Nat){β:Type}(kr kx0:K1 β):Nat→K3 β
 |0,_,_,_,_=>none
 |n+1,G,B,E,h=>aPk C h B E G kr kx0 (fun G B E h=>aFx C L kr kx0 n G B E h)
theorem bJz (C:CF)(L:Nat){β:Type}(K:KK β):∀n,M (fun fr h=>Lw prog C L 2 29 [2] (g bHw 244) [4,0,3] [(0,[3])] n fr h K) [4,0,3]=aFx C L (R K [2]) (X K 0 [3]) n:=by refine lw [4,0,3] [4,0,3] (F:=fun kn G B E h=>aPk C h B E G (R K [2]) (X K 0 [3]) kn) ?_ ?_ ?_<;>intros<;>kernel_rfl
noncomputable def aSu (kr kn:K1 β):=bDo h B E (fun G B E h=>aFx C L kr kn L G B E h)
theorem bNv:aC prog C L 2 29 [2] (g bHw 30) [3] [] (r2 0 3 B E) h K=aSu C L h B E (R K [2]) (N K [3]):=by unfold aSu;refine(y 1 [4,0,3] ?_ (w3 fun G B E h=>(bk 0 (lp (c3 (bJz C L _ L) G B E h) ?_) ?_)) ?_)<;>intros<;>kernel_rfl
noncomputable def bDn (kr:K1 β):=kr E h
noncomputable def aLt (kr:K1 β):=aUy h B kr (fun B E h=>aSu C L h B E kr (fun E h=>bDn h E kr))
theorem bQu:aC prog C L 2 29 [2] (g bHw 1) [2] [] (r1 0 B) h K=aLt C L h B (R K [2]):=by unfold aLt;refine(y 3 [0,3] ?_ (w2 fun B E h=>(q [3] (fun k=>(bNv C L h _ B E)) ?_ ?_)) ?_)<;>intros<;>kernel_rfl
noncomputable def F87 (C:CF)(L:Nat)(B:V)(h:H):O (V×H):=aLt C L h B (fun P h=>some (P,h))
def bUm (Q:Orc)(n:Nat)(B:V)(h:H)(q:Q 87 [B]=none):=(tq q Tryz.func87 (bQu _ n h _ B) (by kernel_rfl) (by kernel_rfl):_=F87 (aA prog 2 Q n) n B h)
noncomputable def bAs:Code:=(Tryz.f91.body).getD .skip
noncomputable def aPg (kr kn:K2 β):=bnd (A.zB B (.int .i64 0)) fun d=>aE (C 95 [d] h) fun e f=>bI .eql 3 e (.int .i64 0)
 (kr (.int .i64 0) (.int .i64 0) f)
 (bnd (A.zC B) fun s=>bI .gtr 3 e s
 (kr (.int .i64 0) (.int .i64 0) f)
 (kn B e f))
noncomputable def bDl (kn:K3 β):=bnd (A.zB B (.int .i64 0)) fun b=>bnd (A.conv prog 5 3 b) fun c=>bI .gtr 3 G (.int .i64 1)
 (aE (A.zD 1 5 Z3L [(0,1,(.int .i64 0)),(1,1,(.int .i64 0)),(2,1,(.int .i64 192)),(3,1,(.int .i64 224)),(4,1,(.int .i64 240))] h) fun k l=>bnd (A.zH 1 k G) fun n=>bnd (A.load false 1 n l) fun o=>bnd (A.zA prog .sub 3 c o) fun p=>kn B p G l)
 (kn B c G h)
noncomputable def cEa (kn:K4 β):=kn (.int .i64 1) B I G h
noncomputable def aJt (kx0:K2 β)(kn:K4 β):=bI .lss 3 J G
 (kn I J B G h)
 (kx0 I G h)
noncomputable def aPf (kr:K2 β)(kn:K4 β):=bnd (A.zB B J) fun c=>bI .lss 5 c (.int .u8 128)
 (kr (.int .i64 0) (.int .i64 0) h)
 (bnd (A.zB B J) fun n=>bI .gtr 5 n (.int .u8 191)
 (kr (.int .i64 0) (.int .i64 0) h)
 (bnd (A.zA prog .mul 3 (.int .i64 64) I) fun u=>bnd (A.zB B J) fun y=>bnd (A.conv prog 5 3 y) fun z=>bnd (A.zA prog .add 3 u z) fun a1=>bnd (A.zA prog .sub 3 a1 (.int .i64 128)) fun b1=>kn J B b1 G h))
noncomputable def bDk (kn:K4 β):=bnd (A.zA prog .add 3 J (.int .i64 1)) fun b=>kn b B I G h
noncomputable def aEe (C:CF)(L:Nat){β:Type}(kr kx0:K2 β):Nat→K4 β
 |0,_,_,_,_,_=>none
 |n+1,J,B,I,G,h=>aJt h B G I J kx0 (fun I J B G h=>aPf h B G I J kr (fun J B I G h=>bDk h B G I J (fun J B I G h=>aEe C L kr kx0 n J B I G h)))
theorem bKs (C:CF)(L:Nat){β:Type}(K:KK β):∀n,M (fun fr h=>Lw prog C L 2 70 [2,3] (g bAs 1012) [6,0,5,4] [(0,[5,4])] n fr h K) [6,0,5,4]=aEe C L (R K [2,3]) (X K 0 [5,4]) n:=by refine lw [6,0,5,4] [6,0,5,4] (F:=fun kn J B I G h=>aJt h B G I J (X K 0 [5,4]) (fun I J B G h=>aPf h B G I J (R K [2,3]) (fun J B I G h=>bDk h B G I J kn))) ?_ ?_ (fun kn=>w4 fun J B I G h=>(y 1 [5,6,0,4] ?_ (w4 fun I J B G h=>(q [6,0,5,4] (fun k=>(bk 1 ?_ ?_)) ?_ ?_)) ?_))<;>intros<;>kernel_rfl
noncomputable def aSx (kr kn:K2 β):=cEa h B G I (fun J B I G h=>aEe C L kr kn L J B I G h)
theorem bOk:aC prog C L 2 70 [2,3] (g bAs 126) [5,4] [] (r3 0 5 4 B I G) h K=aSx C L h B G I (R K [2,3]) (N K [5,4]):=by unfold aSx;refine(y 1 [6,0,5,4] ?_ (w4 fun J B I G h=>(bk 0 (lp (c4 (bKs C L _ L) J B I G h) ?_) ?_)) ?_)<;>intros<;>kernel_rfl
noncomputable def aJs (kn:K3 β):=aE (C 96 [G] h) fun c d=>bI .lss 3 I c
 (kn (.bool true) I G d)
 (bI .gtr 3 I (.int .i64 1114111)
 (kn (.bool true) I G d)
 (bI .geq 3 I (.int .i64 55296)
 (bB .leq 3 I (.int .i64 57343) fun z=>kn (.bool z) I G d)
 (kn (.bool false) I G d)))
noncomputable def aJr (kr kn:K2 β):=aL xo (kr (.int .i64 0) (.int .i64 0) h) (kn I G h)
noncomputable def vT (kr kn:K2 β):=aJs C h G I (fun xo I G h=>aJr h G I xo kr kn)
theorem bNu:aC prog C L 2 70 [2,3] (g bAs 254) [5,4] [] (r2 5 4 I G) h K=vT C h G I (R K [2,3]) (N K [5,4]):=by unfold vT;refine(y 1 [67,5,4] ?_ ?_ ?_)<;>intros<;>kernel_rfl
noncomputable def aJq (kr:K2 β):=kr I G h
noncomputable def aHd (kr:K2 β):=aPg C h B kr (fun B G h=>bDl h B G (fun B I G h=>aSx C L h B G I kr (fun I G h=>vT C h G I kr (fun I G h=>aJq h G I kr))))
theorem bQq:aC prog C L 2 70 [2,3] (g bAs 1) [2,3] [] (r1 0 B) h K=aHd C L h B (R K [2,3]):=by unfold aHd;refine(y 3 [0,4] ?_ (w2 fun B G h=>(y 2 [0,5,4] ?_ (w3 fun B I G h=>(q [5,4] (fun k=>(bOk C L h _ B G I)) (w2 fun I G h=>(q [5,4] (fun k=>(bNu C L h _ G I)) ?_ ?_)) ?_)) ?_)) ?_)<;>intros<;>kernel_rfl
noncomputable def F91 (C:CF)(L:Nat)(B:V)(h:H):O (V×H):=aHd C L h B (fun P E h=>some (.tuple ⟨[P,E]⟩,h))
def bUi (Q:Orc)(n:Nat)(B:V)(h:H)(q:Q 91 [B]=none):=(tq q Tryz.func91 (bQq _ n h _ B) (by kernel_rfl) (by kernel_rfl):_=F91 (aA prog 2 Q n) n B h)
end Go.Proofs.YtohapjojkjjflaaGreatDoor.WzB
