import Derived.Test.YtohapjojkjjflaaGreatDoorProg
import Derived.Test.YtohapjojkjjflaaGreatDoorRq
import Derived.Test.YtohapjojkjjflaaGreatDoorWzO
set_option linter.unusedVariables false
set_option linter.defProp false
set_option maxRecDepth 100000
namespace Go.Proofs.YtohapjojkjjflaaGreatDoor.WzA
open Tryz (prog)
open Go Go.AM Go.AM.Pk WzO
noncomputable def Z38L:List V:=[(.int .u8 0),(.bool false),(.int .u8 0),(.bool false),(.int .u16 0),(.string ⟨⟨[]⟩⟩),(.string ⟨⟨[]⟩⟩),(.int .u8 0),(.bool false),(.int .u16 0),(.string ⟨⟨[]⟩⟩),(.bool false),(.string ⟨⟨[]⟩⟩),(.string ⟨⟨[]⟩⟩),(.int .u8 0),(.bool false),(.bool false),(.bool false),(.string ⟨⟨[]⟩⟩),(.string ⟨⟨[]⟩⟩),(.bool false),(.int .u8 0),(.slice none 0 0),(.string ⟨⟨[]⟩⟩)]
noncomputable def Z38:V:=.agg ⟨Z38L⟩
noncomputable def Z9L:List V:=[(.string ⟨⟨[]⟩⟩)]
noncomputable def Z69L:List V:=[(.string ⟨⟨[]⟩⟩),(.bool false)]
noncomputable def Z71L:List V:=[(.string ⟨⟨[]⟩⟩),(.bool false),(.int .u8 0),(.bool false),(.int .u8 0),(.bool false),(.int .u16 0),(.string ⟨⟨[]⟩⟩),(.string ⟨⟨[]⟩⟩),(.int .u8 0),(.bool false),(.int .u16 0),(.string ⟨⟨[]⟩⟩),(.bool false),(.string ⟨⟨[]⟩⟩),(.string ⟨⟨[]⟩⟩),(.int .u8 0),(.bool false),(.bool false),(.bool false),(.string ⟨⟨[]⟩⟩),(.string ⟨⟨[]⟩⟩),(.bool false),(.int .u8 0),(.slice none 0 0),(.string ⟨⟨[]⟩⟩)]
noncomputable def Z56L:List V:=[(.string ⟨⟨[]⟩⟩),(.int .u8 0)]
noncomputable def Z56:V:=.agg ⟨Z56L⟩
noncomputable def Z35L:List V:=[(.string ⟨⟨[]⟩⟩),(.string ⟨⟨[]⟩⟩),(.int .u8 0),(.bool false)]
noncomputable def Z35:V:=.agg ⟨Z35L⟩
noncomputable def Z105L:List V:=[(.int .u8 0),(.int .u8 0),(.int .u8 0),(.int .u8 0),(.bool false),(.bool false),(.bool false),(.bool false),(.bool false),(.bool false),(.bool false),(.int .u16 0),(.int .u16 0),(.string ⟨⟨[]⟩⟩),(.string ⟨⟨[]⟩⟩),(.string ⟨⟨[]⟩⟩),(.string ⟨⟨[]⟩⟩),(.string ⟨⟨[]⟩⟩),(.string ⟨⟨[]⟩⟩),(.string ⟨⟨[]⟩⟩),(.string ⟨⟨[]⟩⟩),(.int .u8 0),(.bool false)]
noncomputable def Z105:V:=.agg ⟨Z105L⟩
noncomputable def Z126L:List V:=[(.bool false),(.bool false),(.bool false),(.bool false),(.bool false),(.bool false),(.bool false),(.bool false),(.bool false),(.bool false),(.bool false),(.bool false),(.bool false),(.bool false),(.bool false),(.bool false),(.bool false),(.bool false),(.bool false),(.bool false),(.bool false),(.bool false),(.bool false),(.bool false),(.bool false),(.bool false),(.bool false),(.bool false),(.bool false),(.bool false),(.bool false),(.bool false),(.bool false),(.bool false),(.bool false),(.bool false),(.bool false),(.bool false),(.bool false),(.bool false),(.bool false),(.bool false),(.bool false),(.bool false),(.bool false),(.bool false),(.bool false),(.bool false),(.bool false),(.bool false),(.bool false),(.bool false),(.bool false),(.bool false),(.bool false),(.bool false),(.bool false),(.bool false),(.bool false),(.bool false),(.bool false),(.bool false),(.bool false),(.bool false),(.bool false),(.bool false),(.bool false),(.bool false),(.bool false),(.bool false),(.bool false),(.bool false),(.bool false),(.bool false),(.bool false),(.bool false),(.bool false),(.bool false),(.bool false),(.bool false),(.bool false),(.bool false),(.bool false),(.bool false),(.bool false),(.bool false),(.bool false),(.bool false),(.bool false),(.bool false),(.bool false),(.bool false),(.bool false),(.bool false),(.bool false),(.bool false),(.bool false),(.bool false),(.bool false),(.bool false),(.bool false),(.bool false),(.bool false),(.bool false),(.bool false),(.bool false),(.bool false),(.bool false),(.bool false),(.bool false),(.bool false),(.bool false),(.bool false),(.bool false),(.bool false),(.bool false),(.bool false),(.bool false),(.bool false),(.bool false),(.bool false),(.bool false),(.bool false),(.bool false),(.bool false),(.bool false),(.bool false),(.bool false),(.bool false),(.bool false),(.bool false),(.bool false),(.bool false),(.bool false),(.bool false),(.bool false),(.bool false),(.bool false),(.bool false),(.bool false),(.bool false),(.bool false),(.bool false),(.bool false),(.bool false),(.bool false),(.bool false),(.bool false),(.bool false),(.bool false),(.bool false),(.bool false),(.bool false),(.bool false),(.bool false),(.bool false),(.bool false),(.bool false),(.bool false),(.bool false),(.bool false),(.bool false),(.bool false),(.bool false),(.bool false),(.bool false),(.bool false),(.bool false),(.bool false),(.bool false),(.bool false),(.bool false),(.bool false),(.bool false),(.bool false),(.bool false),(.bool false),(.bool false),(.bool false),(.bool false),(.bool false),(.bool false),(.bool false),(.bool false),(.bool false),(.bool false),(.bool false),(.bool false),(.bool false),(.bool false),(.bool false),(.bool false),(.bool false),(.bool false),(.bool false),(.bool false),(.bool false),(.bool false),(.bool false),(.bool false),(.bool false),(.bool false),(.bool false),(.bool false),(.bool false),(.bool false),(.bool false),(.bool false),(.bool false),(.bool false),(.bool false),(.bool false),(.bool false),(.bool false),(.bool false),(.bool false),(.bool false),(.bool false),(.bool false),(.bool false),(.bool false),(.bool false),(.bool false),(.bool false),(.bool false),(.bool false),(.bool false),(.bool false),(.bool false),(.bool false),(.bool false),(.bool false),(.bool false),(.bool false),(.bool false),(.bool false),(.bool false),(.bool false),(.bool false),(.bool false),(.bool false),(.bool false),(.bool false),(.bool false),(.bool false),(.bool false),(.bool false),(.bool false),(.bool false),(.bool false),(.bool false),(.bool false),(.bool false),(.bool false),(.bool false),(.bool false)]
noncomputable def Z126:V:=.agg ⟨Z126L⟩
noncomputable def Z135L:List V:=[(.int .u8 0),(.int .u8 0)]
noncomputable def Z135:V:=.agg ⟨Z135L⟩
variable (C:CF)(L:Nat){β:Type}(h:H)(K:KK β)(B D I E S G W J P U Y xg xj xc xb Z xf xh xt xu xd xe xa xm xv xw xi xx xn xy xz ya yb xk xp yc yd ye yf yg yh xq yi yj xr xo xs xl yk:V)
noncomputable def c8a:Code:=(Tryz.f8.body).getD .skip
noncomputable def cDg (kn:K3 β):=kn B (.slice none 0 0) (.int .i64 0) h
noncomputable def aJu (kr:K2 β)(kn:K3 β):=bnd (A.zE B (some G) none) fun c=>aE (C 15 [c] h) fun d e=>bnd (A.z 0 d) fun i=>bnd (A.z 1 d) fun j=>bnd (A.z 2 d) fun k=>aE (A.zJ 24 Z38 e) fun l m=>bnd (A.store 24 l i m) fun o=>bI .neq 45 k (.int .i64 0)
 (kr S G o)
 (bnd (A.load true 24 l o) fun a1=>aE (A.zD 24 1 Z38L [(0,24,a1)] o) fun b1 c1=>aE (A.zK 24 200 S b1 c1) fun d1 e1=>bnd (A.zA prog .add 3 G j) fun k1=>kn B d1 k1 e1)
noncomputable def aAz (C:CF)(L:Nat){β:Type}(kr:K2 β):Nat→K3 β
 |0,_,_,_,_=>none
 |n+1,B,S,G,h=>aJu C h B S G kr (fun B S G h=>aAz C L kr n B S G h)
theorem bLe (C:CF)(L:Nat){β:Type}(K:KK β):∀n,M (fun fr h=>Lw prog C L 2 28 [2,3] (g c8a 60) [0,4,5] [(0,[2,3])] n fr h K) [0,4,5]=aAz C L (R K [2,3]) n:=by refine lw [0,4,5] [0,4,5] (F:=fun kn B S G h=>aJu C h B S G (R K [2,3]) kn) ?_ ?_ ?_<;>intros<;>kernel_rfl
noncomputable def p8a (kr:K2 β):=cDg h B (fun B S G h=>aAz C L kr L B S G h)
theorem cHb:aC prog C L 2 28 [2,3] (g c8a 1) [2,3] [] (r1 0 B) h K=p8a C L h B (R K [2,3]):=by unfold p8a;refine(y 3 [0,4,5] ?_ (w3 fun B S G h=>(bk 0 (lp (c3 (bLe C L _ L) B S G h) ?_) ?_)) ?_)<;>intros<;>kernel_rfl
noncomputable def F8 (C:CF)(L:Nat)(B:V)(h:H):O (V×H):=p8a C L h B (fun I E h=>some (.tuple ⟨[I,E]⟩,h))
def cKo (Q:Orc)(n:Nat)(B:V)(h:H)(q:Q 8 [B]=none):=(tq q Tryz.func8 (cHb _ n h _ B) (by kernel_rfl) (by kernel_rfl):_=F8 (aA prog 2 Q n) n B h)
noncomputable def aUa:Code:=(Tryz.f11.body).getD .skip
noncomputable def bGv (kr:K1 β)(kn:K3 β):=aE (A.zJ 24 B h) fun a b=>lf 22 1 a b fun e=>bnd (A.zG e) fun f=>bI .gtr 3 f (.int .i64 100)
 (kr (.bool true) b)
 (lf 5 1 a b fun n=>lf 6 1 a b fun p=>lf 10 1 a b fun r=>bnd (A.u 12 a) fun s=>lf 0 1 s b fun u=>bnd (A.u 12 a) fun v=>lf 1 1 v b fun y=>lf 18 1 a b fun a1=>lf 19 1 a b fun c1=>lf 23 1 a b fun e1=>aE (A.zD 1 8 Z9L [(0,1,n),(1,1,p),(2,1,r),(3,1,u),(4,1,y),(5,1,a1),(6,1,c1),(7,1,e1)] b) fun f1 i1=>kn a f1 (.int .i64 10000) i1)
noncomputable def cCk (kn:K4 β):=kn (.int .i64 0) D S E h
noncomputable def aYa (kx0:K2 β)(kn:K4 β):=lf 22 1 D h fun c=>bnd (A.zG c) fun d=>bI .lss 3 G d
 (lf 22 1 D h fun k=>bnd (A.zH 2 k G) fun m=>lf 0 1 m h fun o=>aE (A.zD 1 1 Z9L [(0,1,o)] h) fun p q=>aE (A.zK 1 16 S p q) fun r s=>bnd (A.zA prog .add 3 G (.int .i64 1)) fun v=>kn v D r E s)
 (kx0 S E h)
noncomputable def aGn (C:CF)(L:Nat){β:Type}(kx0:K2 β):Nat→K4 β
 |0,_,_,_,_,_=>none
 |n+1,G,D,S,E,h=>aYa h D E S G kx0 (fun G D S E h=>aGn C L kx0 n G D S E h)
theorem bKp (C:CF)(L:Nat){β:Type}(K:KK β):∀n,M (fun fr h=>Lw prog C L 2 66 [2] (g aUa 500) [5,1,4,3] [(0,[4,3])] n fr h K) [5,1,4,3]=aGn C L (X K 0 [4,3]) n:=by refine lw [5,1,4,3] [5,1,4,3] (F:=fun kn G D S E h=>aYa h D E S G (X K 0 [4,3]) kn) ?_ ?_ ?_<;>intros<;>kernel_rfl
noncomputable def aYl (kn:K2 β):=cCk h D E S (fun G D S E h=>aGn C L kn L G D S E h)
theorem bNg:aC prog C L 2 66 [2] (g aUa 62) [4,3] [] (r3 1 4 3 D S E) h K=aYl C L h D E S (N K [4,3]):=by unfold aYl;refine(y 1 [5,1,4,3] ?_ (w4 fun G D S E h=>(bk 0 (lp (c4 (bKp C L _ L) G D S E h) ?_) ?_)) ?_)<;>intros<;>kernel_rfl
noncomputable def cCj (kn:K3 β):=kn (.int .i64 0) S E h
noncomputable def aSc (kr:K1 β)(kx2:K0 β)(kn:K3 β):=bnd (A.zG S) fun c=>bI .lss 3 W c
 (bnd (A.zH 1 S W) fun j=>bnd (A.load false 1 j h) fun k=>bnd (A.zC k) fun l=>bI .gtr 3 l E
 (kr (.bool true) h)
 (bnd (A.zH 1 S W) fun t=>bnd (A.load false 1 t h) fun u=>bnd (A.zC u) fun v=>bnd (A.zA prog .sub 3 E v) fun w=>bnd (A.zA prog .add 3 W (.int .i64 1)) fun a1=>kn a1 S w h))
 (kx2 h)
noncomputable def aEm (C:CF)(L:Nat){β:Type}(kr:K1 β)(kx2:K0 β):Nat→K3 β
 |0,_,_,_,_=>none
 |n+1,W,S,E,h=>aSc h E S W kr kx2 (fun W S E h=>aEm C L kr kx2 n W S E h)
theorem bLa (C:CF)(L:Nat){β:Type}(K:KK β):∀n,M (fun fr h=>Lw prog C L 2 66 [2] (g aUa 1012) [6,4,3] [(2,[])] n fr h K) [6,4,3]=aEm C L (R K [2]) (X K 2 []) n:=by refine lw [6,4,3] [6,4,3] (F:=fun kn W S E h=>aSc h E S W (R K [2]) (X K 2 []) kn) ?_ ?_ ?_<;>intros<;>kernel_rfl
noncomputable def aYt (kr:K1 β)(kn:K0 β):=cCj h E S (fun W S E h=>aEm C L kr kn L W S E h)
theorem bNs:aC prog C L 2 66 [2] (g aUa 126) [] [] (r2 4 3 S E) h K=aYt C L h E S (R K [2]) (N K []):=by unfold aYt;refine(y 1 [6,4,3] ?_ (w3 fun W S E h=>(bk 2 (lp (c3 (bLa C L _ L) W S E h) ?_) ?_)) ?_)<;>intros<;>kernel_rfl
noncomputable def cCi (kr:K1 β):=kr (.bool false) h
noncomputable def aTw (kr:K1 β):=bGv h B kr (fun D S E h=>aYl C L h D E S (fun S E h=>aYt C L h E S kr (fun h=>cCi h kr)))
theorem bTj:aC prog C L 2 66 [2] (g aUa 1) [2] [] (r1 0 B) h K=aTw C L h B (R K [2]):=by unfold aTw;refine(y 4 [1,4,3] ?_ (w3 fun D S E h=>(q [4,3] (fun k=>(bNg C L h _ D E S)) (w2 fun S E h=>(q [] (fun k=>(bNs C L h _ E S)) ?_ ?_)) ?_)) ?_)<;>intros<;>kernel_rfl
noncomputable def F11 (C:CF)(L:Nat)(B:V)(h:H):O (V×H):=aTw C L h B (fun I h=>some (I,h))
def bXb (Q:Orc)(n:Nat)(B:V)(h:H)(q:Q 11 [B]=none):=(tq q Tryz.func11 (bTj _ n h _ B) (by kernel_rfl) (by kernel_rfl):_=F11 (aA prog 2 Q n) n B h)
noncomputable def bBc:Code:=(Tryz.f15.body).getD .skip
noncomputable def aEc (kr:K3 β)(kn:K5 β):=aE (A.zJ 24 Z38 h) fun a b=>bI .eql 9 B (.string ⟨⟨[]⟩⟩)
 (bnd (A.zF Z38L []) fun j=>bnd (A.store 24 a j b) fun l=>kr a (.int .i64 0) (.int .i64 2) l)
 (bnd (A.zB B (.int .i64 0)) fun p=>aE (C 25 [p] b) fun q r=>aP q fun s=>iK (.bool !s)
 (bnd (A.zF Z38L []) fun v=>bnd (A.store 24 a v r) fun y=>kr a (.int .i64 0) (.int .i64 4) y)
 (bnd (A.zE B (some (.int .i64 1)) none) fun c1=>aE (C 26 [c1] r) fun d1 e1=>bnd (A.z 0 d1) fun i1=>bnd (A.z 1 d1) fun j1=>bnd (A.z 2 d1) fun k1=>kn k1 j1 B i1 a e1))
noncomputable def aKt (kr:K3 β)(kn:K5 β):=bI .neq 45 S (.int .i64 0)
 (bnd (A.zF Z38L []) fun d=>bnd (A.store 24 I d h) fun i=>kr I (.int .i64 0) S i)
 (bnd (A.zA prog .add 3 W (.int .i64 1)) fun m=>bnd (A.zC B) fun p=>bnd (A.zA prog .sub 3 p m) fun r=>bI .lss 3 r G
 (bnd (A.zF Z38L []) fun v=>bnd (A.store 24 I v h) fun y=>kr I (.int .i64 0) (.int .i64 2) y)
 (bnd (A.zA prog .add 3 m G) fun f1=>bnd (A.zE B (some m) (some f1)) fun i1=>bnd (A.zF Z69L [(0,1,i1)]) fun j1=>bnd (A.zF Z71L [(0,2,j1)]) fun k1=>aE (A.zJ 26 k1 h) fun l1 m1=>kn B l1 m G I m1))
noncomputable def aXu (kn:K5 β):=bnd (A.zB B (.int .i64 0)) fun c=>bnd (A.zA prog .shr 5 c (.int .u64 4)) fun d=>nf 2 J fun f=>bnd (A.u 0 f) fun i=>bnd (A.store 1 i d h) fun k=>kn B J W G I k
noncomputable def aKs (C:CF)(L:Nat){β:Type}(B J W G I:V)(h:H)(kn:K6 β):=nf 2 J fun c=>lf 0 1 c h fun e=>bI .eql 5 e (.int .u8 1)
 (bI .gtr 3 G (.int .i64 6)
 (nf 0 J fun r=>lf 0 1 r h fun t=>bnd (A.zE t none (some (.int .i64 6))) fun u=>bI .eql 9 u (.string ⟨⟨[0,4,77,81,84,84]⟩⟩)
 (nf 0 J fun c1=>lf 0 1 c1 h fun e1=>bnd (A.zB e1 (.int .i64 6)) fun f1=>bB .neq 5 f1 (.int .u8 4) fun j1=>kn (.bool j1) B J W G I h)
 (kn (.bool false) B J W G I h))
 (kn (.bool false) B J W G I h))
 (kn (.bool false) B J W G I h)
noncomputable def aXt (kr:K3 β)(kn:K5 β):=aL yh (nf 0 J fun c=>lf 0 1 c h fun e=>bnd (A.zB e (.int .i64 6)) fun f=>bnd (A.zF Z38L [(0,1,(.int .u8 1)),(7,1,f)]) fun i=>bnd (A.zA prog .add 3 W G) fun l=>bnd (A.store 24 I i h) fun n=>kr I l (.int .i64 0) n) (kn B J W G I h)
noncomputable def aLl (kr:K3 β)(kn:K5 β):=aKs C L B J W G I h (fun yh B J W G I h=>aXt h B I G W J yh kr kn)
theorem bMr:aC prog C L 2 124 [2,3,4] (g bBc 2046) [0,7,6,5,2] [] (r5 0 7 6 5 2 B J W G I) h K=aLl C L h B I G W J (R K [2,3,4]) (N K [0,7,6,5,2]):=by unfold aLl;refine(q [79,0,7,6,5,2] ?_ ?_ ?_)<;>intros<;>kernel_rfl
noncomputable def bGo (kn:K4 β):=bnd (A.zB B (.int .i64 0)) fun c=>bnd (A.zA prog .and 5 c (.int .u8 15)) fun d=>aE (C 27 [J,d] h) fun e f=>kn J W G I f
noncomputable def aRz (kn:K5 β):=nf 0 J fun c=>lf 1 1 c h fun e=>iK e
 (kn (.bool true) J W G I h)
 (nf 0 J fun o=>lf 0 1 o h fun q=>bI .neq 9 q (.string ⟨⟨[]⟩⟩)
 (kn (.bool true) J W G I h)
 (bnd (A.zN J) fun y=>lg 2 24 y h fun a1=>aE (C 28 [a1] h) fun b1 c1=>aP b1 fun d1=>aP (.bool !d1) fun f1=>kn (.bool f1) J W G I c1))
noncomputable def aRy (kr:K3 β)(kn:K4 β):=aL yj (bnd (A.zF Z38L []) fun a=>bnd (A.store 24 I a h) fun c=>kr I (.int .i64 0) (.int .i64 4) c) (kn J W G I h)
noncomputable def aGt (kr:K3 β)(kn:K4 β):=aRz C h I G W J (fun yj J W G I h=>aRy h I G W J yj kr kn)
theorem bMw:aC prog C L 2 124 [2,3,4] (g bBc 8190) [7,6,5,2] [] (r4 7 6 5 2 J W G I) h K=aGt C h I G W J (R K [2,3,4]) (N K [7,6,5,2]):=by unfold aGt;refine(y 1 [115,7,6,5,2] ?_ ?_ ?_)<;>intros<;>kernel_rfl
noncomputable def cBw (kr:K3 β):=bnd (A.zN J) fun b=>lg 2 24 b h fun d=>bnd (A.zA prog .add 3 W G) fun i=>bnd (A.store 24 I d h) fun k=>kr I i (.int .i64 0) k
noncomputable def aBf (C:CF)(L:Nat){β:Type}(J W G I:V)(h:H)(kr:K3 β):=aGt C h I G W J kr (fun J W G I h=>cBw h I G W J kr)
theorem bOi:aC prog C L 2 124 [2,3,4] (g bBc 4095) [2,3,4] [] (r4 7 6 5 2 J W G I) h K=aBf C L J W G I h (R K [2,3,4]):=by unfold aBf;refine(q [7,6,5,2] (fun k=>(bMw C L h _ I G W J)) ?_ ?_)<;>intros<;>kernel_rfl
noncomputable def xV (kr:K3 β):=aEc C h B kr (fun S W B G I h=>aKt h B I S G W kr (fun B J W G I h=>aXu h B I G W J (fun B J W G I h=>aLl C L h B I G W J kr (fun B J W G I h=>bGo C h B I G W J (fun J W G I h=>aBf C L J W G I h kr)))))
theorem bTh:aC prog C L 2 124 [2,3,4] (g bBc 1) [2,3,4] [] (r1 0 B) h K=xV C L h B (R K [2,3,4]):=by unfold xV;refine(y 4 [4,6,0,5,2] ?_ (w5 fun S W B G I h=>(y 4 [0,7,6,5,2] ?_ (w5 fun B J W G I h=>(y 1 [0,7,6,5,2] ?_ (w5 fun B J W G I h=>(q [0,7,6,5,2] (fun k=>(bMr C L h _ B I G W J)) (w5 fun B J W G I h=>(y 1 [7,6,5,2] ?_ (w4 fun J W G I h=>(bOi C L h _ I G W J)) ?_)) ?_)) ?_)) ?_)) ?_)<;>intros<;>kernel_rfl
noncomputable def F15 (C:CF)(L:Nat)(B:V)(h:H):O (V×H):=xV C L h B (fun I E S h=>bnd (rP (A.load true 24 I h) (rP (some E) (rP (some S) (some [])))) fun vs=>some (iT vs,h))
def bWz (Q:Orc)(n:Nat)(B:V)(h:H)(q:Q 15 [B]=none):=(tq q Tryz.func15 (bTh _ n h _ B) (by kernel_rfl) (by kernel_rfl):_=F15 (aA prog 2 Q n) n B h)
noncomputable def cEy:Code:=(Tryz.f26.body).getD .skip
noncomputable def cAn (kn:K4 β):=kn (.int .i64 1) (.int .i64 0) (.int .i64 0) B h
noncomputable def aKn (kx0:K0 β)(kn:K4 β):=bI .lss 3 E (.int .i64 4)
 (kn E I G B h)
 (kx0 h)
noncomputable def aRl (kr:K3 β)(kn:K4 β):=bnd (A.zC B) fun c=>bI .eql 3 E c
 (kr (.int .i64 0) (.int .i64 0) (.int .i64 2) h)
 (bnd (A.zB B E) fun m=>bnd (A.conv prog 5 3 m) fun n=>bnd (A.zA prog .add 3 E (.int .i64 1)) fun q=>bnd (A.zA prog .rem 3 n (.int .i64 128)) fun u=>bnd (A.zA prog .mul 3 u G) fun w=>bnd (A.zA prog .add 3 I w) fun y=>bI .lss 3 n (.int .i64 128)
 (kr y q (.int .i64 0) h)
 (bnd (A.zA prog .mul 3 G (.int .i64 128)) fun l1=>kn l1 y q B h))
noncomputable def xM (C:CF)(L:Nat){β:Type}(kr:K3 β)(kx0:K0 β):Nat→K4 β
 |0,_,_,_,_,_=>none
 |n+1,G,I,E,B,h=>aKn h B I E G kx0 (fun E I G B h=>aRl h B I E G kr (fun G I E B h=>xM C L kr kx0 n G I E B h))
theorem bLm (C:CF)(L:Nat){β:Type}(K:KK β):∀n,M (fun fr h=>Lw prog C L 2 31 [2,3,4] (g cEy 56) [5,2,3,0] [(0,[])] n fr h K) [5,2,3,0]=xM C L (R K [2,3,4]) (X K 0 []) n:=by refine lw [5,2,3,0] [5,2,3,0] (F:=fun kn G I E B h=>aKn h B I E G (X K 0 []) (fun E I G B h=>aRl h B I E G (R K [2,3,4]) kn)) ?_ ?_ (fun kn=>w4 fun G I E B h=>(y 1 [3,2,5,0] ?_ (w4 fun E I G B h=>(bk 1 ?_ ?_)) ?_))<;>intros<;>kernel_rfl
noncomputable def bFz (C:CF)(L:Nat){β:Type}(h:H)(kr:K3 β):=kr (.int .i64 0) (.int .i64 0) (.int .i64 4) h
noncomputable def bAm (kr:K3 β):=cAn h B (fun G I E B h=>xM C L kr (fun h=>bFz C L h kr) L G I E B h)
theorem bSz:aC prog C L 2 31 [2,3,4] (g cEy 1) [2,3,4] [] (r1 0 B) h K=bAm C L h B (R K [2,3,4]):=by unfold bAm;refine(y 2 [5,2,3,0] ?_ (w4 fun G I E B h=>(q [] (A:=fun z=>xM C L (R K [2,3,4]) z L G I E B h) (fun k=>(bk 0 (lp (c4 (bLm C L _ L) G I E B h) ?_) ?_)) ?_ ?_)) ?_)<;>intros<;>kernel_rfl
noncomputable def F26 (C:CF)(L:Nat)(B:V)(h:H):O (V×H):=bAm C L h B (fun I E S h=>some (.tuple ⟨[I,E,S]⟩,h))
def bWr (Q:Orc)(n:Nat)(B:V)(h:H)(q:Q 26 [B]=none):=(tq q Tryz.func26 (bSz _ n h _ B) (by kernel_rfl) (by kernel_rfl):_=F26 (aA prog 2 Q n) n B h)
noncomputable def cJm:Code:=(Tryz.f27.body).getD .skip
noncomputable def xJ (kn:K3 β):=nf 2 B fun c=>lf 0 1 c h fun e=>kn D e B h
noncomputable def xI (kn:K4 β):=bB .eql 5 U (.int .u8 1) fun b=>kn (.bool b) D U B h
noncomputable def cAm (kn:K0 β):=aE (C 44 [B] h) fun b c=>kn c
noncomputable def aAt (kn:K4 β):=bB .eql 5 U (.int .u8 2) fun b=>kn (.bool b) D U B h
noncomputable def bFw (kn:K0 β):=nf 0 B fun c=>aE (C 45 [c] h) fun d e=>nf 0 B fun l=>lf 1 1 l e fun n=>iK n
 (nf 0 B fun s=>bnd (A.u 1 s) fun t=>bnd (A.store 1 t (.bool true) e) fun v=>bB .eql 5 d (.int .u8 1) fun a1=>nf 2 B fun c1=>bnd (A.u 20 c1) fun d1=>bnd (A.store 1 d1 (.bool a1) v) fun f1=>nf 0 B fun l1=>aE (C 45 [l1] f1) fun m1 n1=>nf 2 B fun p1=>bnd (A.u 21 p1) fun q1=>bnd (A.store 1 q1 m1 n1) fun s1=>kn s1)
 (bB .gtr 5 d (.int .u8 1) fun v1=>nf 0 B fun z1=>bnd (A.u 1 z1) fun a2=>bnd (A.store 1 a2 (.bool v1) e) fun c2=>bB .eql 5 d (.int .u8 1) fun i2=>nf 2 B fun k2=>bnd (A.u 20 k2) fun l2=>bnd (A.store 1 l2 (.bool i2) c2) fun n2=>nf 0 B fun r2=>aE (C 45 [r2] n2) fun s2 t2=>nf 2 B fun v2=>bnd (A.u 21 v2) fun w2=>bnd (A.store 1 w2 s2 t2) fun z2=>kn z2)
noncomputable def aFs (kn:K4 β):=bB .eql 5 U (.int .u8 3) fun b=>kn (.bool b) D U B h
noncomputable def bFy (kn:K1 β):=bnd (A.zA prog .and 5 D (.int .u8 8)) fun e=>bB .gtr 5 e (.int .u8 0) fun i=>bnd (A.zA prog .shr 5 D (.int .u64 1)) fun k=>bnd (A.zA prog .and 5 k (.int .u8 3)) fun l=>bnd (A.zA prog .and 5 D (.int .u8 1)) fun n=>bB .gtr 5 n (.int .u8 0) fun p=>nf 2 B fun r=>bnd (A.u 1 r) fun s=>bnd (A.store 1 s (.bool i) h) fun u=>nf 2 B fun w=>bnd (A.u 2 w) fun y=>bnd (A.store 1 y l u) fun a1=>nf 2 B fun c1=>bnd (A.u 3 c1) fun d1=>bnd (A.store 1 d1 (.bool p) a1) fun f1=>kn B f1
noncomputable def bFx (kn:K0 β):=nf 0 B fun d=>aE (C 46 [d] h) fun e f=>nf 2 B fun j=>bnd (A.u 5 j) fun k=>bnd (A.store 1 k e f) fun m=>nf 2 B fun p=>lf 2 1 p m fun r=>bI .gtr 5 r (.int .u8 0)
 (nf 0 B fun y=>aE (C 47 [y] m) fun z a1=>nf 2 B fun c1=>bnd (A.u 4 c1) fun d1=>bnd (A.store 1 d1 z a1) fun f1=>nf 0 B fun l1=>aE (C 48 [l1] f1) fun m1 n1=>nf 2 B fun p1=>bnd (A.u 6 p1) fun q1=>bnd (A.store 1 q1 m1 n1) fun s1=>kn s1)
 (nf 0 B fun w1=>aE (C 48 [w1] m) fun y1 z1=>nf 2 B fun b2=>bnd (A.u 6 b2) fun c2=>bnd (A.store 1 c2 y1 z1) fun e2=>kn e2)
noncomputable def aRk (kn:K2 β):=bB .eql 5 U (.int .u8 12) fun b=>(bif b then
 kn (.bool b) B h
 else
 bB .eql 5 U (.int .u8 13) fun e=>(bif e then
 kn (.bool e) B h
 else
 bB .eql 5 U (.int .u8 14) fun j=>kn (.bool j) B h))
noncomputable def aRj (kn:K0 β):=aL yi (kn h) (nf 0 B fun d=>aE (C 47 [d] h) fun e f=>nf 2 B fun j=>bnd (A.u 4 j) fun k=>bnd (A.store 1 k e f) fun m=>aE (C 49 [B] m) fun o p=>kn p)
noncomputable def tX (kn:K0 β):=xJ h B D (fun D U B h=>xI h B D U (fun xt D U B h=>aL xt (cAm C h B kn) (aAt h B D U (fun xa D U B h=>aL xa (bFw C h B kn) (aFs h B D U (fun ye D U B h=>aL ye (bFy h B D (fun B h=>bFx C h B kn)) (aRk h B U (fun yi B h=>aRj C h B yi kn))))))))
theorem bSy:aC prog C L 2 114 [] (g cJm 1) [] [] (r2 0 1 B D) h K=tX C h B D (N K []):=by unfold tX;refine(y 1 [1,9,0] ?_ (w3 fun D U B h=>(bk 0 (y 1 [20,1,9,0] ?_ (w4 fun xt D U B h=>(cd ?_ (y 1 [24,1,9,0] ?_ (w4 fun xa D U B h=>(cd ?_ (y 1 [57,1,9,0] ?_ (w4 fun ye D U B h=>(cd (y 1 [0] ?_ ?_ ?_) (y 1 [110,0] ?_ ?_ ?_) ?_)) ?_) ?_)) ?_) ?_)) ?_) ?_)) ?_)<;>intros<;>kernel_rfl
noncomputable def F27 (C:CF)(L:Nat)(B D:V)(h:H):O (V×H):=tX C h B D (fun h=>some (.tuple ⟨[]⟩,h))
def bWq (Q:Orc)(n:Nat)(B D:V)(h:H)(q:Q 27 [B,D]=none):=(tq q Tryz.func27 (bSy _ n h _ B D) (by kernel_rfl) (by kernel_rfl):_=F27 (aA prog 2 Q n) n B D h)
noncomputable def cJl:Code:=(Tryz.f28.body).getD .skip
noncomputable def bAl (kr:K1 β):=aE (A.zJ 24 B h) fun a b=>bnd (A.load true 24 a b) fun d=>aE (C 50 [d] b) fun e f=>bB .geq 3 e (.int .i64 0) fun j=>kr (.bool j) f
theorem bSx:aC prog C L 2 6 [2] (g cJl 1) [2] [] (r1 0 B) h K=bAl C h B (R K [2]):=by kernel_rfl
noncomputable def F28 (C:CF)(L:Nat)(B:V)(h:H):O (V×H):=bAl C h B (fun I h=>some (I,h))
def bWp (Q:Orc)(n:Nat)(B:V)(h:H)(q:Q 28 [B]=none):=(tq q Tryz.func28 (bSx _ n h _ B) (by kernel_rfl) (by kernel_rfl):_=F28 (aA prog 2 Q n) n B h)
noncomputable def bIc:Code:=(Tryz.f44.body).getD .skip
noncomputable def bYn (kn:K3 β):=nf 0 B fun c=>aE (C 46 [c] h) fun d e=>nf 0 B fun l=>aE (C 45 [l] e) fun m n=>nf 2 B fun p=>bnd (A.u 7 p) fun q=>bnd (A.store 1 q m n) fun s=>nf 0 B fun v=>aE (C 45 [v] s) fun w y=>kn d w B y
noncomputable def aQq (C:CF)(L:Nat){β:Type}(I E B:V)(h:H)(kn:K2 β):=nf 0 B fun d=>lf 1 1 d h fun f=>iK f
 (nf 0 B fun o=>bnd (A.u 1 o) fun p=>bnd (A.store 1 p (.bool true) h) fun r=>kn E B r)
 (bnd (A.zE (.string ⟨⟨[0,4,77,81,84,84]⟩⟩) (some (.int .i64 2)) none) fun t=>bI .neq 9 I t
 (nf 0 B fun b1=>bnd (A.u 1 b1) fun c1=>bnd (A.store 1 c1 (.bool true) h) fun e1=>kn E B e1)
 (bnd (A.zA prog .and 5 E (.int .u8 1)) fun i1=>bB .gtr 5 i1 (.int .u8 0) fun k1=>nf 0 B fun n1=>bnd (A.u 1 n1) fun o1=>bnd (A.store 1 o1 (.bool k1) h) fun q1=>kn E B q1))
noncomputable def bYm (kn:K2 β):=bnd (A.zA prog .and 5 E (.int .u8 2)) fun c=>bB .gtr 5 c (.int .u8 0) fun e=>nf 2 B fun i=>bnd (A.u 8 i) fun j=>bnd (A.store 1 j (.bool e) h) fun l=>bnd (A.zA prog .and 5 E (.int .u8 4)) fun o=>bB .gtr 5 o (.int .u8 0) fun q=>nf 2 B fun s=>bnd (A.u 11 s) fun t=>bnd (A.store 1 t (.bool q) l) fun v=>bnd (A.zA prog .shr 5 E (.int .u64 3)) fun z=>bnd (A.zA prog .and 5 z (.int .u8 3)) fun a1=>nf 2 B fun c1=>bnd (A.u 12 c1) fun d1=>bnd (A.u 2 d1) fun e1=>bnd (A.store 1 e1 a1 v) fun i1=>kn E B i1
noncomputable def bYl (kn:K1 β):=bnd (A.zA prog .and 5 E (.int .u8 32)) fun c=>bB .gtr 5 c (.int .u8 0) fun e=>nf 2 B fun i=>bnd (A.u 12 i) fun j=>bnd (A.u 3 j) fun k=>bnd (A.store 1 k (.bool e) h) fun m=>bnd (A.zA prog .and 5 E (.int .u8 64)) fun p=>bB .gtr 5 p (.int .u8 0) fun r=>nf 2 B fun t=>bnd (A.u 17 t) fun u=>bnd (A.store 1 u (.bool r) m) fun w=>bnd (A.zA prog .and 5 E (.int .u8 128)) fun a1=>bB .gtr 5 a1 (.int .u8 0) fun c1=>nf 2 B fun e1=>bnd (A.u 16 e1) fun f1=>bnd (A.store 1 f1 (.bool c1) w) fun j1=>kn B j1
noncomputable def bYk (kn:K1 β):=nf 0 B fun d=>aE (C 47 [d] h) fun e f=>nf 2 B fun j=>bnd (A.u 9 j) fun k=>bnd (A.store 1 k e f) fun m=>nf 0 B fun q=>aE (C 46 [q] m) fun r s=>nf 2 B fun u=>bnd (A.u 10 u) fun v=>bnd (A.store 1 v r s) fun y=>kn B y
noncomputable def bEr (kn:K1 β):=nf 2 B fun c=>lf 11 1 c h fun e=>iK e
 (nf 0 B fun l=>aE (C 46 [l] h) fun m n=>nf 2 B fun p=>bnd (A.u 12 p) fun q=>bnd (A.u 0 q) fun r=>bnd (A.store 1 r m n) fun t=>nf 0 B fun y=>aE (C 67 [y] t) fun z a1=>nf 2 B fun c1=>bnd (A.u 12 c1) fun d1=>bnd (A.u 1 d1) fun e1=>bnd (A.store 1 e1 z a1) fun i1=>kn B i1)
 (kn B h)
noncomputable def aFr (C:CF)(L:Nat){β:Type}(B:V)(h:H)(kn:K0 β):=nf 2 B fun c=>lf 16 1 c h fun e=>iK e
 (nf 0 B fun l=>aE (C 46 [l] h) fun m n=>nf 2 B fun p=>bnd (A.u 18 p) fun q=>bnd (A.store 1 q m n) fun s=>nf 2 B fun v=>lf 17 1 v s fun y=>iK y
 (nf 0 B fun d1=>aE (C 67 [d1] s) fun e1 f1=>nf 2 B fun j1=>bnd (A.u 19 j1) fun k1=>bnd (A.store 1 k1 e1 f1) fun m1=>kn m1)
 (kn s))
 (nf 2 B fun p1=>lf 17 1 p1 h fun r1=>iK r1
 (nf 0 B fun w1=>aE (C 67 [w1] h) fun y1 z1=>nf 2 B fun b2=>bnd (A.u 19 b2) fun c2=>bnd (A.store 1 c2 y1 z1) fun e2=>kn e2)
 (kn h))
noncomputable def aGs (C:CF)(L:Nat){β:Type}(B:V)(h:H)(kn:K0 β):=bEr C h B (fun B h=>aFr C L B h kn)
theorem bMt:aC prog C L 2 148 [] (g bIc 8191) [] [] (r1 0 B) h K=aGs C L B h (N K []):=by unfold aGs;refine(y 1 [0] ?_ ?_ ?_)<;>intros<;>kernel_rfl
noncomputable def aLn (C:CF)(L:Nat){β:Type}(B:V)(h:H)(kn:K0 β):=bYk C h B (fun B h=>aGs C L B h kn)
theorem bOh:aC prog C L 2 148 [] (g bIc 2047) [] [] (r1 0 B) h K=aLn C L B h (N K []):=by unfold aLn;refine(y 2 [0] ?_ (w1 fun B h=>(bMt C L h _ B)) ?_)<;>intros<;>kernel_rfl
noncomputable def aTs (C:CF)(L:Nat){β:Type}(B:V)(h:H)(kn:K0 β):=bYn C h B (fun I E B h=>aQq C L I E B h (fun E B h=>bYm h B E (fun E B h=>bYl h B E (fun B h=>aLn C L B h kn))))
theorem bSi:aC prog C L 2 148 [] (g bIc 1) [] [] (r1 0 B) h K=aTs C L B h (N K []):=by unfold aTs;refine(y 3 [2,3,0] ?_ (w3 fun I E B h=>(q [3,0] ?_ (w2 fun E B h=>(y 3 [3,0] ?_ (w2 fun E B h=>(y 3 [0] ?_ (w1 fun B h=>(bOh C L h _ B)) ?_)) ?_)) ?_)) ?_)<;>intros<;>kernel_rfl
noncomputable def F44 (C:CF)(L:Nat)(B:V)(h:H):O (V×H):=aTs C L B h (fun h=>some (.tuple ⟨[]⟩,h))
def bWa (Q:Orc)(n:Nat)(B:V)(h:H)(q:Q 44 [B]=none):=(tq q Tryz.func44 (bSi _ n h _ B) (by kernel_rfl) (by kernel_rfl):_=F44 (aA prog 2 Q n) n B h)
noncomputable def cIy:Code:=(Tryz.f45.body).getD .skip
noncomputable def bAd (kr:K1 β):=nl 0 1 B h fun e=>bI .eql 9 e (.string ⟨⟨[]⟩⟩)
 (nf 1 B fun l=>bnd (A.store 1 l (.bool true) h) fun n=>kr (.int .u8 0) n)
 (nl 0 1 B h fun s=>bnd (A.zB s (.int .i64 0)) fun t=>nl 0 1 B h fun a1=>bnd (A.zE a1 (some (.int .i64 1)) none) fun b1=>nf 0 B fun d1=>bnd (A.store 1 d1 b1 h) fun f1=>kr t f1)
theorem bSh:aC prog C L 2 26 [2] (g cIy 1) [2] [] (r1 0 B) h K=bAd h B (R K [2]):=by kernel_rfl
noncomputable def F45 (C:CF)(L:Nat)(B:V)(h:H):O (V×H):=bAd h B (fun I h=>some (I,h))
def bVz (Q:Orc)(n:Nat)(B:V)(h:H)(q:Q 45 [B]=none):=(tq q Tryz.func45 (bSh _ n h _ B) (by kernel_rfl) (by kernel_rfl):_=F45 (aA prog 2 Q n) n B h)
noncomputable def cIx:Code:=(Tryz.f46.body).getD .skip
noncomputable def aMc (kr:K1 β):=nl 0 1 B h fun e=>aE (C 68 [e] h) fun f i=>bnd (A.z 0 f) fun k=>bnd (A.z 1 f) fun l=>bnd (A.z 2 f) fun m=>nl 1 1 B i fun u=>iK u
 (nf 1 B fun a1=>bnd (A.store 1 a1 (.bool true) i) fun c1=>nl 0 1 B c1 fun j1=>bnd (A.zE j1 (some l) none) fun l1=>nf 0 B fun n1=>bnd (A.store 1 n1 l1 c1) fun p1=>kr k p1)
 (bB .neq 45 m (.int .i64 0) fun u1=>nf 1 B fun y1=>bnd (A.store 1 y1 (.bool u1) i) fun a2=>nl 0 1 B a2 fun f2=>bnd (A.zE f2 (some l) none) fun j2=>nf 0 B fun l2=>bnd (A.store 1 l2 j2 a2) fun n2=>kr k n2)
theorem bSg:aC prog C L 2 36 [2] (g cIx 1) [2] [] (r1 0 B) h K=aMc C h B (R K [2]):=by kernel_rfl
noncomputable def F46 (C:CF)(L:Nat)(B:V)(h:H):O (V×H):=aMc C h B (fun I h=>some (I,h))
def bVy (Q:Orc)(n:Nat)(B:V)(h:H)(q:Q 46 [B]=none):=(tq q Tryz.func46 (bSg _ n h _ B) (by kernel_rfl) (by kernel_rfl):_=F46 (aA prog 2 Q n) n B h)
noncomputable def cIw:Code:=(Tryz.f47.body).getD .skip
noncomputable def aMb (kr:K1 β):=nl 0 1 B h fun e=>aE (C 69 [e] h) fun f i=>bnd (A.z 0 f) fun k=>bnd (A.z 1 f) fun l=>bnd (A.z 2 f) fun m=>nl 1 1 B i fun u=>iK u
 (nf 1 B fun a1=>bnd (A.store 1 a1 (.bool true) i) fun c1=>nl 0 1 B c1 fun j1=>bnd (A.zE j1 (some l) none) fun l1=>nf 0 B fun n1=>bnd (A.store 1 n1 l1 c1) fun p1=>bnd (A.conv prog 3 33 k) fun r1=>kr r1 p1)
 (bB .neq 45 m (.int .i64 0) fun v1=>nf 1 B fun z1=>bnd (A.store 1 z1 (.bool v1) i) fun b2=>nl 0 1 B b2 fun i2=>bnd (A.zE i2 (some l) none) fun k2=>nf 0 B fun m2=>bnd (A.store 1 m2 k2 b2) fun o2=>bnd (A.conv prog 3 33 k) fun q2=>kr q2 o2)
theorem bSf:aC prog C L 2 37 [2] (g cIw 1) [2] [] (r1 0 B) h K=aMb C h B (R K [2]):=by kernel_rfl
noncomputable def F47 (C:CF)(L:Nat)(B:V)(h:H):O (V×H):=aMb C h B (fun I h=>some (I,h))
def bVx (Q:Orc)(n:Nat)(B:V)(h:H)(q:Q 47 [B]=none):=(tq q Tryz.func47 (bSf _ n h _ B) (by kernel_rfl) (by kernel_rfl):_=F47 (aA prog 2 Q n) n B h)
noncomputable def cIv:Code:=(Tryz.f48.body).getD .skip
noncomputable def bHr (kr:K1 β):=nl 0 1 B h fun e=>nf 0 B fun k=>bnd (A.store 1 k (.string ⟨⟨[]⟩⟩) h) fun m=>kr e m
theorem bSe:aC prog C L 2 12 [2] (g cIv 1) [2] [] (r1 0 B) h K=bHr h B (R K [2]):=by kernel_rfl
noncomputable def F48 (C:CF)(L:Nat)(B:V)(h:H):O (V×H):=bHr h B (fun I h=>some (I,h))
def bVw (Q:Orc)(n:Nat)(B:V)(h:H)(q:Q 48 [B]=none):=(tq q Tryz.func48 (bSe _ n h _ B) (by kernel_rfl) (by kernel_rfl):_=F48 (aA prog 2 Q n) n B h)
noncomputable def cEw:Code:=(Tryz.f49.body).getD .skip
noncomputable def aQp (kn:K2 β):=nf 2 B fun c=>lf 0 1 c h fun e=>kn e B h
noncomputable def aQo (kn:K3 β):=bB .eql 5 J (.int .u8 9) fun b=>kn (.bool b) J B h
noncomputable def bYi (kn:K0 β):=nf 0 B fun d=>aE (C 48 [d] h) fun e f=>nf 2 B fun j=>bnd (A.u 23 j) fun k=>bnd (A.store 1 k e f) fun m=>kn m
noncomputable def aWh (kn:K2 β):=bB .eql 5 J (.int .u8 8) fun b=>(bif b then
 kn (.bool b) B h
 else
 bB .eql 5 J (.int .u8 10) fun e=>kn (.bool e) B h)
noncomputable def aAr (kx1:K0 β)(kn:K1 β):=nf 0 B fun c=>lf 0 1 c h fun e=>bI .neq 9 e (.string ⟨⟨[]⟩⟩)
 (nf 0 B fun m=>lf 1 1 m h fun o=>aP o fun p=>iK (.bool !p)
 (kn B h)
 (kx1 h))
 (kx1 h)
noncomputable def aWg (kn:K2 β):=nf 0 B fun c=>aE (C 46 [c] h) fun d e=>bnd (A.zF Z56L [(0,1,d)]) fun f=>aE (A.zJ 2 Z56 e) fun i j=>bnd (A.store 2 i f j) fun l=>nf 2 B fun o=>lf 0 1 o l fun q=>bI .eql 5 q (.int .u8 8)
 (nf 0 B fun v=>aE (C 45 [v] l) fun w y=>bnd (A.u 1 i) fun z=>bnd (A.store 1 z w y) fun b1=>kn i B b1)
 (kn i B l)
noncomputable def aWf (kn:K1 β):=nf 2 B fun d=>lf 22 1 d h fun f=>bnd (A.load true 2 I h) fun i=>aE (A.zD 2 1 Z56L [(0,2,i)] h) fun j k=>aE (A.zK 2 24 f j k) fun l m=>nf 2 B fun o=>bnd (A.u 22 o) fun p=>bnd (A.store 1 p l m) fun r=>kn B r
noncomputable def tV (C:CF)(L:Nat){β:Type}(kx1:K0 β):Nat→K1 β
 |0,_,_=>none
 |n+1,B,h=>aAr h B kx1 (fun B h=>aWg C h B (fun I B h=>aWf h B I (fun B h=>tV C L kx1 n B h)))
theorem bLy (C:CF)(L:Nat){β:Type}(K:KK β):∀n,M (fun fr h=>Lw prog C L 2 63 [] (g cEw 440) [0] [(1,[]),(0,[])] n fr h K) [0]=tV C L (X K 1 []) n:=by refine lw [0] [0] (F:=fun kn B h=>aAr h B (X K 1 []) (fun B h=>aWg C h B (fun I B h=>aWf h B I kn))) ?_ ?_ (fun kn=>w1 fun B h=>(y 1 [0] ?_ (w1 fun B h=>(bk 2 (y 2 [2,0] ?_ ?_ ?_) ?_)) ?_))<;>intros<;>kernel_rfl
noncomputable def bYj (kn:K0 β):=kn h
noncomputable def aHf (kn:K0 β):=aQp h B (fun J B h=>aQo h B J (fun P J B h=>aL P (bYi C h B kn) (aWh h B J (fun xf B h=>aL xf (tV C L kn L B h) (bYj h kn)))))
theorem bSd:aC prog C L 2 63 [] (g cEw 1) [] [] (r1 0 B) h K=aHf C L h B (N K []):=by unfold aHf;refine(y 1 [7,0] ?_ (w2 fun J B h=>(bk 0 (y 1 [8,7,0] ?_ (w3 fun P J B h=>(cd ?_ (y 1 [18,0] ?_ (w2 fun xf B h=>(cd (bk 1 (lp (c1 (bLy C L _ L) B h) ?_) ?_) ?_ ?_)) ?_) ?_)) ?_) ?_)) ?_)<;>intros<;>kernel_rfl
noncomputable def F49 (C:CF)(L:Nat)(B:V)(h:H):O (V×H):=aHf C L h B (fun h=>some (.tuple ⟨[]⟩,h))
def bVv (Q:Orc)(n:Nat)(B:V)(h:H)(q:Q 49 [B]=none):=(tq q Tryz.func49 (bSd _ n h _ B) (by kernel_rfl) (by kernel_rfl):_=F49 (aA prog 2 Q n) n B h)
noncomputable def aTz:Code:=(Tryz.f50.body).getD .skip
noncomputable def aQm (kn:K2 β):=aE (A.zJ 24 B h) fun a b=>kn a (.int .i64 (-1)) b
noncomputable def aDy (kn:K3 β):=lf 0 1 D h fun b=>kn b D E h
noncomputable def aDx (kn:K4 β):=bB .eql 5 G (.int .u8 1) fun b=>kn (.bool b) G D E h
noncomputable def bYd (kn:K2 β):=bnd (A.load true 24 D h) fun a=>aE (C 70 [a] h) fun b c=>kn D b c
noncomputable def aFq (kn:K4 β):=bB .eql 5 G (.int .u8 2) fun b=>kn (.bool b) G D E h
noncomputable def aQj (kn:K3 β):=lf 21 1 D h fun b=>bI .leq 5 b (.int .u8 5)
 (lf 21 1 D h fun i=>bI .eql 5 i (.int .u8 0)
 (kn (.bool true) D E h)
 (lf 20 1 D h fun p=>aP p fun q=>aP (.bool !q) fun s=>kn (.bool s) D E h))
 (kn (.bool false) D E h)
noncomputable def aQi (kn:K2 β):=aL xa (kn D (.int .i64 2) h) (kn D E h)
noncomputable def bEn (kn:K4 β):=bB .eql 5 G (.int .u8 3) fun b=>kn (.bool b) G D E h
noncomputable def bYe (kn:K2 β):=bnd (A.load true 24 D h) fun a=>aE (C 71 [a] h) fun b c=>kn D b c
noncomputable def aFp (kn:K4 β):=bB .eql 5 G (.int .u8 4) fun b=>kn (.bool b) G D E h
noncomputable def bYh (kn:K4 β):=kn xi G D E h
noncomputable def aKi (kn:K4 β):=bB .eql 5 G (.int .u8 5) fun b=>(bif b then
 kn (.bool b) G D E h
 else
 bB .eql 5 G (.int .u8 6) fun e=>(bif e then
 kn (.bool e) G D E h
 else
 bB .eql 5 G (.int .u8 7) fun j=>(bif j then
 kn (.bool j) G D E h
 else
 bB .eql 5 G (.int .u8 11) fun m=>kn (.bool m) G D E h)))
noncomputable def xP (C:CF)(L:Nat){β:Type}(xm G D E:V)(h:H)(kn:K4 β):=aFp h D E G (fun xi G D E h=>aL xi (bYh h D E G xi kn) (aKi h D E G kn))
theorem bOb:aC prog C L 2 62 [2] (g aTz 7550) [29,5,1,3] [(0,[1,3])] (r4 25 5 1 3 xm G D E) h K=xP C L xm G D E h (N K [29,5,1,3]):=by unfold xP;refine(y 1 [29,5,1,3] ?_ (w4 fun xi G D E h=>(cd ?_ ?_ ?_)) ?_)<;>intros<;>kernel_rfl
noncomputable def bYf (kn:K2 β):=bnd (A.load true 24 D h) fun a=>aE (C 72 [a] h) fun b c=>kn D b c
noncomputable def aDw (kn:K4 β):=bB .eql 5 G (.int .u8 8) fun b=>(bif b then
 kn (.bool b) G D E h
 else
 bB .eql 5 G (.int .u8 10) fun e=>kn (.bool e) G D E h)
noncomputable def bEm (kn:K2 β):=bnd (A.load true 24 D h) fun a=>aE (C 73 [a] h) fun b c=>kn D b c
noncomputable def aKh (kn:K4 β):=bB .eql 5 G (.int .u8 9) fun b=>kn (.bool b) G D E h
noncomputable def bYg (kn:K2 β):=bnd (A.load true 24 D h) fun a=>aE (C 74 [a] h) fun b c=>kn D b c
noncomputable def aQl (kn:K3 β):=bB .eql 5 G (.int .u8 12) fun b=>(bif b then
 kn (.bool b) D E h
 else
 bB .eql 5 G (.int .u8 13) fun e=>(bif e then
 kn (.bool e) D E h
 else
 bB .eql 5 G (.int .u8 14) fun j=>kn (.bool j) D E h))
noncomputable def aQk (kn:K2 β):=aL xp (kn D (.int .i64 0) h) (kn D E h)
noncomputable def vU (C:CF)(L:Nat){β:Type}(xi G D E:V)(h:H)(kn:K2 β):=aDw h D E G (fun ya G D E h=>aL ya (bEm C h D kn) (aKh h D E G (fun yb G D E h=>aL yb (bYg C h D kn) (aQl h D E G (fun xp D E h=>aQk h D E xp kn)))))
theorem bOz:aC prog C L 2 62 [2] (g aTz 15103) [1,3] [(0,[1,3])] (r4 29 5 1 3 xi G D E) h K=vU C L xi G D E h (N K [1,3]):=by unfold vU;refine(y 1 [37,5,1,3] ?_ (w4 fun ya G D E h=>(cd ?_ (y 1 [42,5,1,3] ?_ (w4 fun yb G D E h=>(cd ?_ (y 1 [46,1,3] ?_ ?_ ?_) ?_)) ?_) ?_)) ?_)<;>intros<;>kernel_rfl
noncomputable def aLo (C:CF)(L:Nat){β:Type}(xi G D E:V)(h:H)(kn:K2 β):=aL xi (bYf C h D kn) (vU C L xi G D E h kn)
theorem bPm:aC prog C L 2 62 [2] (g aTz 7551) [1,3] [(0,[1,3])] (r4 29 5 1 3 xi G D E) h K=aLo C L xi G D E h (N K [1,3]):=by unfold aLo;refine(cd ?_ (bOz C L h _ D E G xi) ?_)<;>intros<;>kernel_rfl
noncomputable def pK (C:CF)(L:Nat){β:Type}(D E:V)(h:H)(kn:K2 β):=aDy h D E (fun G D E h=>aDx h D E G (fun W G D E h=>aL W (bYd C h D kn) (aFq h D E G (fun Y G D E h=>aL Y (aQj h D E (fun xa D E h=>aQi h D E xa kn)) (bEn h D E G (fun xm G D E h=>aL xm (bYe C h D kn) (xP C L xm G D E h (fun xi G D E h=>aLo C L xi G D E h kn))))))))
theorem bQj:aC prog C L 2 62 [2] (g aTz 14) [1,3] [] (r2 1 3 D E) h K=pK C L D E h (N K [1,3]):=by unfold pK;refine(y 1 [5,1,3] ?_ (w3 fun G D E h=>(bk 0 (y 1 [6,5,1,3] ?_ (w4 fun W G D E h=>(cd ?_ (y 1 [10,5,1,3] ?_ (w4 fun Y G D E h=>(cd (y 1 [24,1,3] ?_ ?_ ?_) (y 1 [25,5,1,3] ?_ (w4 fun xm G D E h=>(cd ?_ (q [29,5,1,3] (fun k=>(bOb C L h _ D E G xm)) (w4 fun xi G D E h=>(bPm C L h _ D E G xi)) ?_) ?_)) ?_) ?_)) ?_) ?_)) ?_) ?_)) ?_)<;>intros<;>kernel_rfl
noncomputable def aQh (kr:K1 β):=bI .lss 3 E (.int .i64 0)
 (kr (.int .i64 (-1)) h)
 (bI .gtr 3 E (.int .i64 268435455)
 (kr (.int .i64 (-1)) h)
 (bnd (A.load true 24 D h) fun r=>aE (C 75 [r] h) fun s t=>aP s fun u=>iK (.bool !u)
 (kr (.int .i64 (-1)) t)
 (kr E t)))
noncomputable def aHe (kr:K1 β):=aQm h B (fun D E h=>pK C L D E h (fun D E h=>aQh C h D E kr))
theorem bSc:aC prog C L 2 62 [2] (g aTz 1) [2] [] (r1 0 B) h K=aHe C L h B (R K [2]):=by unfold aHe;refine(y 2 [1,3] ?_ (w2 fun D E h=>(q [1,3] (fun k=>(bQj C L h _ D E)) ?_ ?_)) ?_)<;>intros<;>kernel_rfl
noncomputable def F50 (C:CF)(L:Nat)(B:V)(h:H):O (V×H):=aHe C L h B (fun I h=>some (I,h))
def bVu (Q:Orc)(n:Nat)(B:V)(h:H)(q:Q 50 [B]=none):=(tq q Tryz.func50 (bSc _ n h _ B) (by kernel_rfl) (by kernel_rfl):_=F50 (aA prog 2 Q n) n B h)
noncomputable def bIb:Code:=(Tryz.f51.body).getD .skip
noncomputable def aWe (kn:K2 β):=aE (A.zJ 24 B h) fun a b=>aE (A.zJ 24 D b) fun c d=>kn a c d
noncomputable def aWd (kr:K1 β)(kn:K2 β):=bnd (A.load true 24 I h) fun a=>aE (C 76 [a] h) fun b c=>bnd (A.load true 24 E c) fun d=>bif (chk (bnd (A.load true 24 E h) fun v=>some v) d&&true)then
 aE (C 76 [d] c) fun e f=>bI .neq 105 b e
 (kr (.bool false) f)
 (lf 22 1 I f fun o=>bnd (A.zG o) fun p=>lf 22 1 E f fun r=>bnd (A.zG r) fun s=>bI .neq 3 p s
 (kr (.bool false) f)
 (kn I E f))
 else none
noncomputable def bYc (kn:K4 β):=lf 22 1 I h fun b=>bnd (A.zG b) fun c=>kn c (.int .i64 0) E b h
noncomputable def aQg (kr:K1 β)(kx0:K0 β)(kn:K4 β):=bnd (A.zA prog .lss 3 xa xe) fun a=>aL a (bnd (A.zH 2 xd xa) fun c=>bnd (A.load true 2 c h) fun d=>aE (A.zJ 2 Z56 h) fun e f=>bnd (A.store 2 e d f) fun k=>bnd (A.load true 2 e k) fun l=>lf 22 1 E k fun n=>bnd (A.zH 2 n xa) fun p=>bnd (A.load true 2 p k) fun q=>bI .neq 56 l q
 (kr (.bool false) k)
 (bnd (A.zA prog .add 3 xa (.int .i64 1)) fun u=>kn xe u E xd k)) (kx0 h)
noncomputable def aGc (C:CF)(L:Nat){β:Type}(kr:K1 β)(kx0:K0 β):Nat→K4 β
 |0,_,_,_,_,_=>none
 |n+1,xe,xa,E,xd,h=>aQg h E xd xe xa kr kx0 (fun xe xa E xd h=>aGc C L kr kx0 n xe xa E xd h)
theorem bKe (C:CF)(L:Nat){β:Type}(K:KK β):∀n,M (fun fr h=>Lw prog C L 2 37 [4] (g bIb 116) [23,24,3,22] [(0,[])] n fr h K) [23,24,3,22]=aGc C L (R K [4]) (X K 0 []) n:=by refine lw [23,24,3,22] [23,24,3,22] (F:=fun kn xe xa E xd h=>aQg h E xd xe xa (R K [4]) (X K 0 []) kn) ?_ ?_ ?_<;>intros<;>kernel_rfl
noncomputable def aYo (kr:K1 β)(kn:K0 β):=bYc h I E (fun xe xa E xd h=>aGc C L kr kn L xe xa E xd h)
theorem bNk:aC prog C L 2 37 [4] (g bIb 14) [] [] (r2 2 3 I E) h K=aYo C L h I E (R K [4]) (N K []):=by unfold aYo;refine(y 1 [23,24,3,22] ?_ (w4 fun xe xa E xd h=>(bk 0 (lp (c4 (bKe C L _ L) xe xa E xd h) ?_) ?_)) ?_)<;>intros<;>kernel_rfl
noncomputable def bYb (kr:K1 β):=kr (.bool true) h
noncomputable def aMa (kr:K1 β):=aWe h B D (fun I E h=>aWd C h I E kr (fun I E h=>aYo C L h I E kr (fun h=>bYb h kr)))
theorem bSb:aC prog C L 2 37 [4] (g bIb 1) [4] [] (r2 0 1 B D) h K=aMa C L h B D (R K [4]):=by unfold aMa;refine(y 1 [2,3] ?_ (w2 fun I E h=>(y 1 [2,3] ?_ (w2 fun I E h=>(q [] (fun k=>(bNk C L h _ I E)) ?_ ?_)) ?_)) ?_)<;>intros<;>kernel_rfl
noncomputable def F51 (C:CF)(L:Nat)(B D:V)(h:H):O (V×H):=aMa C L h B D (fun S h=>some (S,h))
def bVt (Q:Orc)(n:Nat)(B D:V)(h:H)(q:Q 51 [B,D]=none):=(tq q Tryz.func51 (bSb _ n h _ B D) (by kernel_rfl) (by kernel_rfl):_=F51 (aA prog 2 Q n) n B D h)
noncomputable def cHw:Code:=(Tryz.f67.body).getD .skip
noncomputable def aLz (kr:K1 β):=nl 0 1 B h fun e=>aE (C 83 [e] h) fun f i=>bnd (A.z 0 f) fun k=>bnd (A.z 1 f) fun l=>bnd (A.z 2 f) fun m=>nl 1 1 B i fun u=>iK u
 (nf 1 B fun a1=>bnd (A.store 1 a1 (.bool true) i) fun c1=>nl 0 1 B c1 fun j1=>bnd (A.zE j1 (some l) none) fun l1=>nf 0 B fun n1=>bnd (A.store 1 n1 l1 c1) fun p1=>kr k p1)
 (bB .neq 45 m (.int .i64 0) fun u1=>nf 1 B fun y1=>bnd (A.store 1 y1 (.bool u1) i) fun a2=>nl 0 1 B a2 fun f2=>bnd (A.zE f2 (some l) none) fun j2=>nf 0 B fun l2=>bnd (A.store 1 l2 j2 a2) fun n2=>kr k n2)
theorem bRo:aC prog C L 2 36 [2] (g cHw 1) [2] [] (r1 0 B) h K=aLz C h B (R K [2]):=by kernel_rfl
noncomputable def F67 (C:CF)(L:Nat)(B:V)(h:H):O (V×H):=aLz C h B (fun I h=>some (I,h))
def bVg (Q:Orc)(n:Nat)(B:V)(h:H)(q:Q 67 [B]=none):=(tq q Tryz.func67 (bRo _ n h _ B) (by kernel_rfl) (by kernel_rfl):_=F67 (aA prog 2 Q n) n B h)
noncomputable def cHv:Code:=(Tryz.f68.body).getD .skip
noncomputable def aTp (kr:K3 β):=aE (C 83 [B] h) fun e f=>bnd (A.z 0 e) fun j=>bnd (A.z 1 e) fun k=>bnd (A.z 2 e) fun l=>bI .eql 45 l (.int .i64 0)
 (aE (C 84 [j] f) fun u v=>aP u fun w=>iK (.bool !w)
 (kr (.string ⟨⟨[]⟩⟩) (.int .i64 0) (.int .i64 5) v)
 (kr j k l v))
 (kr j k l f)
theorem bRn:aC prog C L 2 21 [2,3,4] (g cHv 1) [2,3,4] [] (r1 0 B) h K=aTp C h B (R K [2,3,4]):=by kernel_rfl
noncomputable def F68 (C:CF)(L:Nat)(B:V)(h:H):O (V×H):=aTp C h B (fun I E S h=>some (.tuple ⟨[I,E,S]⟩,h))
def bVf (Q:Orc)(n:Nat)(B:V)(h:H)(q:Q 68 [B]=none):=(tq q Tryz.func68 (bRn _ n h _ B) (by kernel_rfl) (by kernel_rfl):_=F68 (aA prog 2 Q n) n B h)
noncomputable def cHu:Code:=(Tryz.f69.body).getD .skip
noncomputable def aTo (kr:K3 β):=bnd (A.zC B) fun e=>bI .lss 3 e (.int .i64 2)
 (kr (.int .i64 0) (.int .i64 0) (.int .i64 2) h)
 (bnd (A.zB B (.int .i64 0)) fun n=>bnd (A.conv prog 5 3 n) fun o=>bnd (A.zA prog .shl 3 o (.int .u64 8)) fun p=>bnd (A.zB B (.int .i64 1)) fun r=>bnd (A.conv prog 5 3 r) fun s=>bnd (A.zA prog .or 3 p s) fun t=>kr t (.int .i64 2) (.int .i64 0) h)
theorem bRm:aC prog C L 2 16 [2,3,4] (g cHu 1) [2,3,4] [] (r1 0 B) h K=aTo h B (R K [2,3,4]):=by kernel_rfl
noncomputable def F69 (C:CF)(L:Nat)(B:V)(h:H):O (V×H):=aTo h B (fun I E S h=>some (.tuple ⟨[I,E,S]⟩,h))
def bVe (Q:Orc)(n:Nat)(B:V)(h:H)(q:Q 69 [B]=none):=(tq q Tryz.func69 (bRm _ n h _ B) (by kernel_rfl) (by kernel_rfl):_=F69 (aA prog 2 Q n) n B h)
noncomputable def aHh:Code:=(Tryz.f70.body).getD .skip
noncomputable def aVr (kr kn:K1 β):=aE (A.zJ 24 B h) fun a b=>lf 7 1 a b fun e=>bI .neq 5 e (.int .u8 4)
 (kr (.int .i64 (-1)) b)
 (lf 10 1 a b fun n=>aE (C 84 [n] b) fun o p=>aP o fun q=>iK (.bool !q)
 (kr (.int .i64 (-1)) p)
 (kn a p))
noncomputable def bXp (kn:K2 β):=lf 10 1 D h fun b=>bnd (A.zC b) fun c=>bnd (A.zA prog .add 3 (.int .i64 12) c) fun d=>kn D d h
noncomputable def aFo (kn:K3 β):=lf 11 1 D h fun b=>aP b fun c=>kn (.bool c) D E h
noncomputable def aPy (kn:K3 β):=bnd (A.u 12 D) fun a=>lf 0 1 a h fun c=>aE (C 85 [c] h) fun d e=>aP d fun f=>iK (.bool !f)
 (kn (.bool true) E D e)
 (bnd (A.u 12 D) fun o=>lf 1 1 o e fun q=>bnd (A.zC q) fun r=>bI .gtr 3 r (.int .i64 65535)
 (kn (.bool true) E D e)
 (bnd (A.u 12 D) fun y=>lf 2 1 y e fun a1=>bB .gtr 5 a1 (.int .u8 2) fun c1=>kn (.bool c1) E D e))
noncomputable def aPx (kr:K1 β)(kn:K2 β):=aL xz (kr (.int .i64 (-1)) h) (kn E D h)
noncomputable def aGr (kr:K1 β)(kn:K2 β):=aPy C h D E (fun xz E D h=>aPx h D E xz kr kn)
theorem bMs:aC prog C L 2 90 [2] (g aHh 244) [3,1] [] (r3 18 1 3 xf D E) h K=aGr C h D E (R K [2]) (N K [3,1]):=by unfold aGr;refine(y 1 [36,3,1] ?_ ?_ ?_)<;>intros<;>kernel_rfl
noncomputable def bXo (kn:K2 β):=bnd (A.u 12 D) fun b=>lf 0 1 b h fun d=>bnd (A.zC d) fun e=>bnd (A.zA prog .add 3 (.int .i64 4) e) fun f=>bnd (A.u 12 D) fun i=>lf 1 1 i h fun k=>bnd (A.zC k) fun l=>bnd (A.zA prog .add 3 f l) fun m=>bnd (A.zA prog .add 3 E m) fun n=>kn D n h
noncomputable def bDx (kr:K1 β)(kn:K2 β):=lg 12 4 D h fun b=>bnd (A.zF Z35L []) fun c=>bI .neq 35 b c
 (kr (.int .i64 (-1)) h)
 (kn D E h)
noncomputable def aBh (kr:K1 β)(kn:K2 β):=aFo h D E (fun xf D E h=>aL xf (aGr C h D E kr (fun E D h=>bXo h D E kn)) (bDx h D E kr kn))
theorem bOy:aC prog C L 2 90 [2] (g aHh 30) [1,3] [] (r2 1 3 D E) h K=aBh C h D E (R K [2]) (N K [1,3]):=by unfold aBh;refine(y 1 [18,1,3] ?_ (w3 fun xf D E h=>(cd (q [3,1] (fun k=>(bMs C L h _ D E xf)) ?_ ?_) ?_ ?_)) ?_)<;>intros<;>kernel_rfl
noncomputable def aPw (kn:K3 β):=lf 16 1 D h fun b=>aP b fun c=>kn (.bool c) D E h
noncomputable def bXn (kn:K2 β):=lf 18 1 D h fun c=>bnd (A.zC c) fun d=>bnd (A.zA prog .add 3 (.int .i64 2) d) fun e=>bnd (A.zA prog .add 3 E e) fun f=>kn D f h
noncomputable def aVq (kr:K1 β)(kn:K2 β):=lf 18 1 D h fun b=>bI .neq 9 b (.string ⟨⟨[]⟩⟩)
 (kr (.int .i64 (-1)) h)
 (lf 17 1 D h fun k=>iK k
 (kr (.int .i64 (-1)) h)
 (kn D E h))
noncomputable def aGu (kr:K1 β)(kn:K2 β):=aPw h D E (fun yd D E h=>aL yd (bXn h D E kn) (aVq h D E kr kn))
theorem bNc:aC prog C L 2 90 [2] (g aHh 62) [1,3] [] (r2 1 3 D E) h K=aGu h D E (R K [2]) (N K [1,3]):=by unfold aGu;refine(y 1 [54,1,3] ?_ (w3 fun yd D E h=>(cd ?_ ?_ ?_)) ?_)<;>intros<;>kernel_rfl
noncomputable def aVp (kr:K1 β)(kn:K2 β):=lf 17 1 D h fun b=>iK b
 (lf 19 1 D h fun f=>bnd (A.zC f) fun i=>bnd (A.zA prog .add 3 (.int .i64 2) i) fun j=>bnd (A.zA prog .add 3 E j) fun k=>kn D k h)
 (lf 19 1 D h fun n=>bI .neq 9 n (.string ⟨⟨[]⟩⟩)
 (kr (.int .i64 (-1)) h)
 (kn D E h))
noncomputable def aPv (C:CF)(L:Nat){β:Type}(D E:V)(h:H)(kr:K1 β):=lf 18 1 D h fun b=>aE (C 84 [b] h) fun c d=>aP c fun e=>iK (.bool !e)
 (kr (.int .i64 (-1)) d)
 (lf 19 1 D d fun n=>bnd (A.zC n) fun o=>bI .gtr 3 o (.int .i64 65535)
 (kr (.int .i64 (-1)) d)
 (kr E d))
noncomputable def aGq (C:CF)(L:Nat){β:Type}(D E:V)(h:H)(kr:K1 β):=aVp h D E kr (fun D E h=>aPv C L D E h kr)
theorem bMn:aC prog C L 2 90 [2] (g aHh 63) [2] [] (r2 1 3 D E) h K=aGq C L D E h (R K [2]):=by unfold aGq;refine(y 1 [1,3] ?_ ?_ ?_)<;>intros<;>kernel_rfl
noncomputable def aFa (C:CF)(L:Nat){β:Type}(D E:V)(h:H)(kr:K1 β):=aGu h D E kr (fun D E h=>aGq C L D E h kr)
theorem bPg:aC prog C L 2 90 [2] (g aHh 31) [2] [] (r2 1 3 D E) h K=aFa C L D E h (R K [2]):=by unfold aFa;refine(q [1,3] (fun k=>(bNc C L h _ D E)) (w2 fun D E h=>(bMn C L h _ D E)) ?_)<;>intros<;>kernel_rfl
noncomputable def xS (C:CF)(L:Nat){β:Type}(D E:V)(h:H)(kr:K1 β):=aBh C h D E kr (fun D E h=>aFa C L D E h kr)
theorem bQb:aC prog C L 2 90 [2] (g aHh 15) [2] [] (r2 1 3 D E) h K=xS C L D E h (R K [2]):=by unfold xS;refine(q [1,3] (fun k=>(bOy C L h _ D E)) (w2 fun D E h=>(bPg C L h _ D E)) ?_)<;>intros<;>kernel_rfl
noncomputable def aLy (kr:K1 β):=aVr C h B kr (fun D h=>bXp h D (fun D E h=>xS C L D E h kr))
theorem bRl:aC prog C L 2 90 [2] (g aHh 1) [2] [] (r1 0 B) h K=aLy C L h B (R K [2]):=by unfold aLy;refine(y 2 [1] ?_ (w1 fun D h=>(y 1 [1,3] ?_ (w2 fun D E h=>(bQb C L h _ D E)) ?_)) ?_)<;>intros<;>kernel_rfl
noncomputable def F70 (C:CF)(L:Nat)(B:V)(h:H):O (V×H):=aLy C L h B (fun I h=>some (I,h))
def bVd (Q:Orc)(n:Nat)(B:V)(h:H)(q:Q 70 [B]=none):=(tq q Tryz.func70 (bRl _ n h _ B) (by kernel_rfl) (by kernel_rfl):_=F70 (aA prog 2 Q n) n B h)
noncomputable def bAw:Code:=(Tryz.f71.body).getD .skip
noncomputable def aVo (kn:K1 β):=aE (A.zJ 24 B h) fun a b=>kn a b
noncomputable def aVn (kr kn:K1 β):=lf 5 1 D h fun b=>aE (C 85 [b] h) fun c d=>aP c fun e=>iK (.bool !e)
 (kr (.int .i64 (-1)) d)
 (lf 2 1 D d fun n=>bI .gtr 5 n (.int .u8 2)
 (kr (.int .i64 (-1)) d)
 (kn D d))
noncomputable def bXm (kn:K2 β):=lf 5 1 D h fun b=>bnd (A.zC b) fun c=>bnd (A.zA prog .add 3 (.int .i64 2) c) fun d=>lf 6 1 D h fun f=>bnd (A.zC f) fun i=>bnd (A.zA prog .add 3 d i) fun j=>kn D j h
noncomputable def aKe (kn:K3 β):=lf 2 1 D h fun b=>bI .gtr 5 b (.int .u8 0)
 (lf 4 1 D h fun i=>bB .gtr 33 i (.int .u16 0) fun k=>kn (.bool k) D E h)
 (kn (.bool false) D E h)
noncomputable def bXl (kr:K1 β):=bnd (A.zA prog .add 3 E (.int .i64 2)) fun b=>kr b h
noncomputable def aPu (kn:K2 β):=lf 2 1 D h fun b=>bI .gtr 5 b (.int .u8 0)
 (kn (.bool true) E h)
 (lf 4 1 D h fun m=>bI .gtr 33 m (.int .u16 0)
 (kn (.bool true) E h)
 (lf 1 1 D h fun u=>aP u fun v=>kn (.bool v) E h))
noncomputable def aPt (kr kn:K1 β):=aL xn (kr (.int .i64 (-1)) h) (kn E h)
noncomputable def aEw (kr kn:K1 β):=aKe h D E (fun xu D E h=>aL xu (bXl h E kr) (aPu h D E (fun xn E h=>aPt h E xn kr kn)))
theorem bOf:aC prog C L 2 46 [2] (g bAw 60) [3] [(0,[3])] (r2 1 3 D E) h K=aEw h D E (R K [2]) (N K [3]):=by unfold aEw;refine(y 1 [21,1,3] ?_ (w3 fun xu D E h=>(cd ?_ (y 1 [32,3] ?_ ?_ ?_) ?_)) ?_)<;>intros<;>kernel_rfl
noncomputable def bXk (kr:K1 β):=kr E h
noncomputable def aBg (C:CF)(L:Nat){β:Type}(D E:V)(h:H)(kr:K1 β):=aEw h D E kr (fun E h=>bXk h E kr)
theorem bOu:aC prog C L 2 46 [2] (g bAw 15) [2] [] (r2 1 3 D E) h K=aBg C L D E h (R K [2]):=by unfold aBg;refine(q [3] (fun k=>(bk 0 (bOf C L h _ D E) ?_)) ?_ ?_)<;>intros<;>kernel_rfl
noncomputable def aHb (C:CF)(L:Nat){β:Type}(D:V)(h:H)(kr:K1 β):=aVn C h D kr (fun D h=>bXm h D (fun D E h=>aBg C L D E h kr))
theorem bPo:aC prog C L 2 46 [2] (g bAw 3) [2] [] (r1 1 D) h K=aHb C L D h (R K [2]):=by unfold aHb;refine(y 1 [1] ?_ (w1 fun D h=>(y 1 [1,3] ?_ (w2 fun D E h=>(bOu C L h _ D E)) ?_)) ?_)<;>intros<;>kernel_rfl
noncomputable def aLx (kr:K1 β):=aVo h B (fun D h=>aHb C L D h kr)
theorem bRk:aC prog C L 2 46 [2] (g bAw 1) [2] [] (r1 0 B) h K=aLx C L h B (R K [2]):=by unfold aLx;refine(y 1 [1] ?_ (w1 fun D h=>(bPo C L h _ D)) ?_)<;>intros<;>kernel_rfl
noncomputable def F71 (C:CF)(L:Nat)(B:V)(h:H):O (V×H):=aLx C L h B (fun I h=>some (I,h))
def bVc (Q:Orc)(n:Nat)(B:V)(h:H)(q:Q 71 [B]=none):=(tq q Tryz.func71 (bRk _ n h _ B) (by kernel_rfl) (by kernel_rfl):_=F71 (aA prog 2 Q n) n B h)
noncomputable def cHt:Code:=(Tryz.f72.body).getD .skip
noncomputable def aZv (kr:K1 β):=aE (A.zJ 24 B h) fun a b=>lf 4 1 a b fun e=>bI .eql 33 e (.int .u16 0)
 (kr (.int .i64 (-1)) b)
 (kr (.int .i64 2) b)
theorem bRj:aC prog C L 2 6 [2] (g cHt 1) [2] [] (r1 0 B) h K=aZv h B (R K [2]):=by kernel_rfl
noncomputable def F72 (C:CF)(L:Nat)(B:V)(h:H):O (V×H):=aZv h B (fun I h=>some (I,h))
def bVb (Q:Orc)(n:Nat)(B:V)(h:H)(q:Q 72 [B]=none):=(tq q Tryz.func72 (bRj _ n h _ B) (by kernel_rfl) (by kernel_rfl):_=F72 (aA prog 2 Q n) n B h)
noncomputable def bHz:Code:=(Tryz.f73.body).getD .skip
noncomputable def aVm (kn:K4 β):=aE (A.zJ 24 B h) fun a b=>bnd (A.load true 24 a b) fun d=>aE (C 72 [d] b) fun e f=>kn a (.int .i64 1) (.int .u8 2) e f
noncomputable def aVl (C:CF)(L:Nat){β:Type}(D G S E:V)(h:H)(kn:K4 β):=lf 0 1 D h fun b=>bI .eql 5 b (.int .u8 10)
 (kn D (.int .i64 0) (.int .u8 0) E h)
 (kn D G S E h)
noncomputable def aVk (kr:K1 β)(kn:K4 β):=bI .lss 3 E (.int .i64 0)
 (kr (.int .i64 (-1)) h)
 (lf 22 1 D h fun j=>bnd (A.zG j) fun k=>bI .eql 3 k (.int .i64 0)
 (kr (.int .i64 (-1)) h)
 (kn D G S E h))
noncomputable def cEs (kn:K6 β):=lf 22 1 D h fun b=>bnd (A.zG b) fun c=>kn c (.int .i64 0) G S b E h
noncomputable def aKd (kx0:K1 β)(kn:K6 β):=bnd (A.zA prog .lss 3 xa xe) fun a=>aL a (kn E xa xe G S xd h) (kx0 E h)
noncomputable def aPs (kr:K1 β)(kn:K6 β):=bnd (A.zH 2 xd xa) fun a=>bnd (A.load true 2 a h) fun b=>aE (A.zJ 2 Z56 h) fun c d=>bnd (A.store 2 c b d) fun f=>lf 0 1 c f fun j=>aE (C 86 [j] f) fun k l=>aP k fun m=>iK (.bool !m)
 (kr (.int .i64 (-1)) l)
 (lf 1 1 c l fun t=>bI .gtr 5 t S
 (kr (.int .i64 (-1)) l)
 (lf 0 1 c l fun c1=>bnd (A.zC c1) fun d1=>bnd (A.zA prog .add 3 (.int .i64 2) d1) fun e1=>bnd (A.zA prog .add 3 e1 G) fun i1=>bnd (A.zA prog .add 3 E i1) fun j1=>kn xa xe G S xd j1 l))
noncomputable def bDw (kn:K6 β):=bnd (A.zA prog .add 3 xa (.int .i64 1)) fun a=>kn xe a G S xd E h
noncomputable def aEg (C:CF)(L:Nat){β:Type}(kr kx0:K1 β):Nat→K6 β
 |0,_,_,_,_,_,_,_=>none
 |n+1,xe,xa,G,S,xd,E,h=>aKd h E S G xd xe xa kx0 (fun E xa xe G S xd h=>aPs C h E S G xd xe xa kr (fun xa xe G S xd E h=>bDw h E S G xd xe xa (fun xe xa G S xd E h=>aEg C L kr kx0 n xe xa G S xd E h)))
theorem bKu (C:CF)(L:Nat){β:Type}(K:KK β):∀n,M (fun fr h=>Lw prog C L 2 48 [2] (g bHz 500) [23,24,5,4,22,3] [(0,[3])] n fr h K) [23,24,5,4,22,3]=aEg C L (R K [2]) (X K 0 [3]) n:=by refine lw [23,24,5,4,22,3] [23,24,5,4,22,3] (F:=fun kn xe xa G S xd E h=>aKd h E S G xd xe xa (X K 0 [3]) (fun E xa xe G S xd h=>aPs C h E S G xd xe xa (R K [2]) (fun xa xe G S xd E h=>bDw h E S G xd xe xa kn))) ?_ ?_ (fun kn=>w6 fun xe xa G S xd E h=>(y 2 [3,24,23,5,4,22] ?_ (w6 fun E xa xe G S xd h=>(q [24,23,5,4,22,3] (fun k=>(bk 1 ?_ ?_)) ?_ ?_)) ?_))<;>intros<;>kernel_rfl
noncomputable def aYy (kr kn:K1 β):=cEs h D E S G (fun xe xa G S xd E h=>aEg C L kr kn L xe xa G S xd E h)
theorem bOj:aC prog C L 2 48 [2] (g bHz 62) [3] [] (r4 1 5 4 3 D G S E) h K=aYy C L h D E S G (R K [2]) (N K [3]):=by unfold aYy;refine(y 1 [23,24,5,4,22,3] ?_ (w6 fun xe xa G S xd E h=>(bk 0 (lp (c6 (bKu C L _ L) xe xa G S xd E h) ?_) ?_)) ?_)<;>intros<;>kernel_rfl
noncomputable def cEr (kr:K1 β):=kr E h
noncomputable def aLw (kr:K1 β):=aVm C h B (fun D G S E h=>aVl C L D G S E h (fun D G S E h=>aVk h D E S G kr (fun D G S E h=>aYy C L h D E S G kr (fun E h=>cEr h E kr))))
theorem bRi:aC prog C L 2 48 [2] (g bHz 1) [2] [] (r1 0 B) h K=aLw C L h B (R K [2]):=by unfold aLw;refine(y 2 [1,5,4,3] ?_ (w4 fun D G S E h=>(q [1,5,4,3] ?_ (w4 fun D G S E h=>(y 1 [1,5,4,3] ?_ (w4 fun D G S E h=>(q [3] (fun k=>(bOj C L h _ D E S G)) ?_ ?_)) ?_)) ?_)) ?_)<;>intros<;>kernel_rfl
noncomputable def F73 (C:CF)(L:Nat)(B:V)(h:H):O (V×H):=aLw C L h B (fun I h=>some (I,h))
def bVa (Q:Orc)(n:Nat)(B:V)(h:H)(q:Q 73 [B]=none):=(tq q Tryz.func73 (bRi _ n h _ B) (by kernel_rfl) (by kernel_rfl):_=F73 (aA prog 2 Q n) n B h)
noncomputable def bHy:Code:=(Tryz.f74.body).getD .skip
noncomputable def aVj (kr:K1 β)(kn:K2 β):=aE (A.zJ 24 B h) fun a b=>bnd (A.load true 24 a b) fun d=>aE (C 72 [d] b) fun e f=>bI .lss 3 e (.int .i64 0)
 (kr (.int .i64 (-1)) f)
 (lf 23 1 a f fun q=>bI .eql 9 q (.string ⟨⟨[]⟩⟩)
 (kr (.int .i64 (-1)) f)
 (kn e a f))
noncomputable def cEq (kn:K4 β):=lf 23 1 D h fun b=>bnd (A.zC b) fun c=>kn c (.int .i64 0) E D h
noncomputable def aKc (kx0:K2 β)(kn:K4 β):=bI .lss 3 xf Z
 (kn xf Z E D h)
 (kx0 E D h)
noncomputable def aPr (kr:K1 β)(kn:K4 β):=lf 23 1 D h fun d=>bnd (A.zB d xf) fun f=>bI .gtr 5 f (.int .u8 2)
 (bI .neq 5 f (.int .u8 128)
 (kr (.int .i64 (-1)) h)
 (kn xf Z E D h))
 (kn xf Z E D h)
noncomputable def aVi (kn:K4 β):=bnd (A.zA prog .add 3 xf (.int .i64 1)) fun a=>kn Z a E D h
noncomputable def aEf (C:CF)(L:Nat){β:Type}(kr:K1 β)(kx0:K2 β):Nat→K4 β
 |0,_,_,_,_,_=>none
 |n+1,Z,xf,E,D,h=>aKc h D E Z xf kx0 (fun xf Z E D h=>aPr h D E Z xf kr (fun xf Z E D h=>aVi h D E Z xf (fun Z xf E D h=>aEf C L kr kx0 n Z xf E D h)))
theorem bKt (C:CF)(L:Nat){β:Type}(K:KK β):∀n,M (fun fr h=>Lw prog C L 2 37 [2] (g bHy 244) [17,18,3,1] [(0,[3,1])] n fr h K) [17,18,3,1]=aEf C L (R K [2]) (X K 0 [3,1]) n:=by refine lw [17,18,3,1] [17,18,3,1] (F:=fun kn Z xf E D h=>aKc h D E Z xf (X K 0 [3,1]) (fun xf Z E D h=>aPr h D E Z xf (R K [2]) (fun xf Z E D h=>aVi h D E Z xf kn))) ?_ ?_ (fun kn=>w4 fun Z xf E D h=>(y 2 [18,17,3,1] ?_ (w4 fun xf Z E D h=>(q [18,17,3,1] (fun k=>(bk 1 ?_ ?_)) ?_ ?_)) ?_))<;>intros<;>kernel_rfl
noncomputable def aYz (kr:K1 β)(kn:K2 β):=cEq h D E (fun Z xf E D h=>aEf C L kr kn L Z xf E D h)
theorem bOl:aC prog C L 2 37 [2] (g bHy 30) [3,1] [] (r2 3 1 E D) h K=aYz C L h D E (R K [2]) (N K [3,1]):=by unfold aYz;refine(y 1 [17,18,3,1] ?_ (w4 fun Z xf E D h=>(bk 0 (lp (c4 (bKt C L _ L) Z xf E D h) ?_) ?_)) ?_)<;>intros<;>kernel_rfl
noncomputable def bDv (C:CF)(L:Nat){β:Type}(E D:V)(h:H)(kr:K1 β):=lf 23 1 D h fun c=>bnd (A.zC c) fun d=>bnd (A.zA prog .add 3 E d) fun e=>kr e h
noncomputable def aLv (kr:K1 β):=aVj C h B kr (fun E D h=>aYz C L h D E kr (fun E D h=>bDv C L E D h kr))
theorem bRh:aC prog C L 2 37 [2] (g bHy 1) [2] [] (r1 0 B) h K=aLv C L h B (R K [2]):=by unfold aLv;refine(y 3 [3,1] ?_ (w2 fun E D h=>(q [3,1] (fun k=>(bOl C L h _ D E)) ?_ ?_)) ?_)<;>intros<;>kernel_rfl
noncomputable def F74 (C:CF)(L:Nat)(B:V)(h:H):O (V×H):=aLv C L h B (fun I h=>some (I,h))
def bUz (Q:Orc)(n:Nat)(B:V)(h:H)(q:Q 74 [B]=none):=(tq q Tryz.func74 (bRh _ n h _ B) (by kernel_rfl) (by kernel_rfl):_=F74 (aA prog 2 Q n) n B h)
noncomputable def bHx:Code:=(Tryz.f75.body).getD .skip
noncomputable def bDu (kn:K1 β):=aE (A.zJ 24 B h) fun a b=>kn a b
noncomputable def aPq (kn:K2 β):=lf 22 1 D h fun b=>bnd (A.zG b) fun c=>bI .gtr 3 c (.int .i64 0)
 (lf 0 1 D h fun j=>bI .neq 5 j (.int .u8 8)
 (lf 0 1 D h fun p=>bB .neq 5 p (.int .u8 10) fun r=>kn (.bool r) D h)
 (kn (.bool false) D h))
 (kn (.bool false) D h)
noncomputable def aPp (kr kn:K1 β):=aL Z (kr (.bool false) h) (kn D h)
noncomputable def aEs (C:CF)(L:Nat){β:Type}(D:V)(h:H)(kr kn:K1 β):=aPq h D (fun Z D h=>aPp h D Z kr kn)
theorem bMz:aC prog C L 2 87 [2] (g bHx 6) [1] [] (r1 1 D) h K=aEs C L D h (R K [2]) (N K [1]):=by unfold aEs;refine(y 1 [17,1] ?_ ?_ ?_)<;>intros<;>kernel_rfl
noncomputable def cEp (kn:K2 β):=aE (A.zJ 24 Z38 h) fun a b=>kn D a b
noncomputable def aAq (kn:K3 β):=lf 0 1 D h fun b=>kn b D E h
noncomputable def aAp (kn:K4 β):=bB .eql 5 xh (.int .u8 1) fun b=>kn (.bool b) xh D E h
noncomputable def cEl (kn:K2 β):=lf 7 1 D h fun b=>lf 8 1 D h fun d=>aP d fun e=>lf 9 1 D h fun i=>lf 10 1 D h fun k=>lf 11 1 D h fun m=>aP m fun n=>lg 12 4 D h fun p=>lf 16 1 D h fun r=>aP r fun s=>lf 17 1 D h fun u=>aP u fun v=>lf 18 1 D h fun y=>lf 19 1 D h fun a1=>bnd (A.zF Z38L [(7,1,b),(8,1,(.bool e)),(9,1,i),(10,1,k),(11,1,(.bool n)),(12,4,p),(16,1,(.bool s)),(17,1,(.bool v)),(18,1,y),(19,1,a1)]) fun b1=>bnd (A.store 24 E b1 h) fun d1=>kn D E d1
noncomputable def aDv (kn:K4 β):=bB .eql 5 xh (.int .u8 2) fun b=>kn (.bool b) xh D E h
noncomputable def cEm (kn:K2 β):=lf 20 1 D h fun b=>aP b fun c=>lf 21 1 D h fun e=>bnd (A.zF Z38L [(20,1,(.bool c)),(21,1,e)]) fun f=>bnd (A.store 24 E f h) fun j=>kn D E j
noncomputable def aFn (kn:K4 β):=bB .eql 5 xh (.int .u8 3) fun b=>kn (.bool b) xh D E h
noncomputable def cEn (kn:K2 β):=lf 1 1 D h fun b=>aP b fun c=>lf 2 1 D h fun e=>lf 3 1 D h fun i=>aP i fun j=>lf 4 1 D h fun l=>lf 5 1 D h fun n=>lf 6 1 D h fun p=>bnd (A.zF Z38L [(1,1,(.bool c)),(2,1,e),(3,1,(.bool j)),(4,1,l),(5,1,n),(6,1,p)]) fun q=>bnd (A.store 24 E q h) fun s=>kn D E s
noncomputable def aKb (kn:K4 β):=bB .eql 5 xh (.int .u8 9) fun b=>kn (.bool b) xh D E h
noncomputable def cEo (kn:K2 β):=lf 4 1 D h fun b=>lf 23 1 D h fun d=>bnd (A.zF Z38L [(4,1,b),(23,1,d)]) fun e=>bnd (A.store 24 E e h) fun i=>kn D E i
noncomputable def aPo (kn:K3 β):=bB .eql 5 xh (.int .u8 12) fun b=>(bif b then
 kn (.bool b) D E h
 else
 bB .eql 5 xh (.int .u8 13) fun e=>(bif e then
 kn (.bool e) D E h
 else
 bB .eql 5 xh (.int .u8 14) fun j=>kn (.bool j) D E h))
noncomputable def aPn (kn:K2 β):=aL yg (kn D E h) (lf 4 1 D h fun b=>bnd (A.zF Z38L [(4,1,b)]) fun c=>bnd (A.store 24 E c h) fun e=>kn D E e)
noncomputable def tW (C:CF)(L:Nat){β:Type}(D E:V)(h:H)(kn:K2 β):=aAq h D E (fun xh D E h=>aAp h D E xh (fun xe xh D E h=>aL xe (cEl h D E kn) (aDv h D E xh (fun xp xh D E h=>aL xp (cEm h D E kn) (aFn h D E xh (fun yc xh D E h=>aL yc (cEn h D E kn) (aKb h D E xh (fun yf xh D E h=>aL yf (cEo h D E kn) (aPo h D E xh (fun yg D E h=>aPn h D E yg kn))))))))))
theorem bPy:aC prog C L 2 87 [2] (g bHx 30) [1,3] [] (r2 1 3 D E) h K=tW C L D E h (N K [1,3]):=by unfold tW;refine(y 1 [19,1,3] ?_ (w3 fun xh D E h=>(bk 0 (y 1 [23,19,1,3] ?_ (w4 fun xe xh D E h=>(cd ?_ (y 1 [46,19,1,3] ?_ (w4 fun xp xh D E h=>(cd ?_ (y 1 [53,19,1,3] ?_ (w4 fun yc xh D E h=>(cd ?_ (y 1 [68,19,1,3] ?_ (w4 fun yf xh D E h=>(cd ?_ (y 1 [75,1,3] ?_ ?_ ?_) ?_)) ?_) ?_)) ?_) ?_)) ?_) ?_)) ?_) ?_)) ?_)<;>intros<;>kernel_rfl
noncomputable def bDt (C:CF)(L:Nat){β:Type}(D E:V)(h:H)(kr:K1 β):=lf 0 1 D h fun b=>bnd (A.u 0 E) fun c=>bnd (A.store 1 c b h) fun e=>bnd (A.load true 24 D e) fun f=>aE (C 76 [f] e) fun i j=>bnd (A.load true 24 E j) fun k=>bif (chk (bnd (A.load true 24 E e) fun v=>some v) k&&true)then
 aE (C 76 [k] j) fun l m=>bB .eql 105 i l fun o=>kr (.bool o) m
 else none
noncomputable def aTn (kr:K1 β):=bDu h B (fun D h=>aEs C L D h kr (fun D h=>cEp h D (fun D E h=>tW C L D E h (fun D E h=>bDt C L D E h kr))))
theorem bRg:aC prog C L 2 87 [2] (g bHx 1) [2] [] (r1 0 B) h K=aTn C L h B (R K [2]):=by unfold aTn;refine(y 1 [1] ?_ (w1 fun D h=>(q [1] (fun k=>(bMz C L h _ D)) (w1 fun D h=>(y 1 [1,3] ?_ (w2 fun D E h=>(q [1,3] (fun k=>(bPy C L h _ D E)) ?_ ?_)) ?_)) ?_)) ?_)<;>intros<;>kernel_rfl
noncomputable def F75 (C:CF)(L:Nat)(B:V)(h:H):O (V×H):=aTn C L h B (fun I h=>some (I,h))
def bUy (Q:Orc)(n:Nat)(B:V)(h:H)(q:Q 75 [B]=none):=(tq q Tryz.func75 (bRg _ n h _ B) (by kernel_rfl) (by kernel_rfl):_=F75 (aA prog 2 Q n) n B h)
noncomputable def cHs:Code:=(Tryz.f76.body).getD .skip
noncomputable def cEk (kn:K2 β):=aE (A.zJ 24 B h) fun a b=>aE (A.zJ 23 Z105 b) fun c d=>kn a c d
noncomputable def cEj (kn:K1 β):=lf 0 1 D h fun b=>lf 2 1 D h fun d=>lf 7 1 D h fun f=>lf 21 1 D h fun j=>lf 1 1 D h fun l=>aP l fun m=>lf 3 1 D h fun o=>aP o fun p=>lf 8 1 D h fun r=>aP r fun s=>lf 11 1 D h fun u=>aP u fun v=>lf 16 1 D h fun y=>aP y fun z=>lf 17 1 D h fun b1=>aP b1 fun c1=>lf 20 1 D h fun e1=>aP e1 fun f1=>lf 4 1 D h fun j1=>lf 9 1 D h fun l1=>lf 5 1 D h fun n1=>lf 6 1 D h fun p1=>lf 10 1 D h fun r1=>lf 18 1 D h fun t1=>lf 19 1 D h fun v1=>lf 23 1 D h fun y1=>lg 12 4 D h fun a2=>bnd (A.zF Z105L [(0,1,b),(1,1,d),(2,1,f),(3,1,j),(4,1,(.bool m)),(5,1,(.bool p)),(6,1,(.bool s)),(7,1,(.bool v)),(8,1,(.bool z)),(9,1,(.bool c1)),(10,1,(.bool f1)),(11,1,j1),(12,1,l1),(13,1,n1),(14,1,p1),(15,1,r1),(16,1,t1),(17,1,v1),(18,1,y1),(19,4,a2)]) fun b2=>bnd (A.store 23 I b2 h) fun d2=>kn I d2
noncomputable def cEi (kr:K1 β):=kr I h
noncomputable def aZu (kr:K1 β):=cEk h B (fun D I h=>cEj h D I (fun I h=>cEi h I kr))
theorem bRf:aC prog C L 2 44 [2] (g cHs 1) [2] [] (r1 0 B) h K=aZu h B (R K [2]):=by unfold aZu;refine(y 1 [1,2] ?_ (w2 fun D I h=>(y 1 [2] ?_ ?_ ?_)) ?_)<;>intros<;>kernel_rfl
noncomputable def F76 (C:CF)(L:Nat)(B:V)(h:H):O (V×H):=aZu h B (fun I h=>bnd (rP (A.load true 23 I h) (some [])) fun vs=>some (iT vs,h))
def bUx (Q:Orc)(n:Nat)(B:V)(h:H)(q:Q 76 [B]=none):=(tq q Tryz.func76 (bRf _ n h _ B) (by kernel_rfl) (by kernel_rfl):_=F76 (aA prog 2 Q n) n B h)
noncomputable def cHn:Code:=(Tryz.f83.body).getD .skip
noncomputable def aTj (kr:K3 β):=aE (C 69 [B] h) fun e f=>bnd (A.z 0 e) fun j=>bnd (A.z 1 e) fun k=>bnd (A.z 2 e) fun l=>bI .neq 45 l (.int .i64 0)
 (kr (.string ⟨⟨[]⟩⟩) (.int .i64 0) (.int .i64 2) f)
 (bnd (A.zC B) fun a1=>bnd (A.zA prog .sub 3 a1 k) fun c1=>bI .gtr 3 j c1
 (kr (.string ⟨⟨[]⟩⟩) (.int .i64 0) (.int .i64 2) f)
 (bnd (A.zA prog .add 3 k j) fun p1=>bnd (A.zE B (some k) (some p1)) fun q1=>bnd (A.zA prog .add 3 k j) fun t1=>kr q1 t1 (.int .i64 0) f))
theorem bQy:aC prog C L 2 32 [2,3,4] (g cHn 1) [2,3,4] [] (r1 0 B) h K=aTj C h B (R K [2,3,4]):=by kernel_rfl
noncomputable def F83 (C:CF)(L:Nat)(B:V)(h:H):O (V×H):=aTj C h B (fun I E S h=>some (.tuple ⟨[I,E,S]⟩,h))
def bUq (Q:Orc)(n:Nat)(B:V)(h:H)(q:Q 83 [B]=none):=(tq q Tryz.func83 (bQy _ n h _ B) (by kernel_rfl) (by kernel_rfl):_=F83 (aA prog 2 Q n) n B h)
noncomputable def cHm:Code:=(Tryz.f84.body).getD .skip
noncomputable def bHl (kr:K1 β):=aE (C 88 [B] h) fun c d=>bB .geq 3 c (.int .i64 0) fun f=>kr (.bool f) d
theorem bQx:aC prog C L 2 6 [2] (g cHm 1) [2] [] (r1 0 B) h K=bHl C h B (R K [2]):=by kernel_rfl
noncomputable def F84 (C:CF)(L:Nat)(B:V)(h:H):O (V×H):=bHl C h B (fun I h=>some (I,h))
def bUp (Q:Orc)(n:Nat)(B:V)(h:H)(q:Q 84 [B]=none):=(tq q Tryz.func84 (bQx _ n h _ B) (by kernel_rfl) (by kernel_rfl):_=F84 (aA prog 2 Q n) n B h)
noncomputable def cHl:Code:=(Tryz.f85.body).getD .skip
noncomputable def aTi (kr:K1 β):=bI .neq 9 B (.string ⟨⟨[]⟩⟩)
 (aE (C 84 [B] h) fun i j=>iK i
 (aE (C 89 [B,(.string ⟨⟨[43,35]⟩⟩)] j) fun o p=>aP o fun q=>aP (.bool !q) fun s=>kr (.bool s) p)
 (kr (.bool false) j))
 (kr (.bool false) h)
theorem bQw:aC prog C L 2 14 [2] (g cHl 1) [2] [] (r1 0 B) h K=aTi C h B (R K [2]):=by kernel_rfl
noncomputable def F85 (C:CF)(L:Nat)(B:V)(h:H):O (V×H):=aTi C h B (fun I h=>some (I,h))
def bUo (Q:Orc)(n:Nat)(B:V)(h:H)(q:Q 85 [B]=none):=(tq q Tryz.func85 (bQw _ n h _ B) (by kernel_rfl) (by kernel_rfl):_=F85 (aA prog 2 Q n) n B h)
noncomputable def bAu:Code:=(Tryz.f86.body).getD .skip
noncomputable def aVd (kr kn:K1 β):=bI .eql 9 B (.string ⟨⟨[]⟩⟩)
 (kr (.bool false) h)
 (aE (C 84 [B] h) fun k l=>aP k fun m=>iK (.bool !m)
 (kr (.bool false) l)
 (kn B l))
noncomputable def cEd (kn:K1 β):=aE (C 90 [B,(.string ⟨⟨[47]⟩⟩)] h) fun b c=>kn b c
noncomputable def cEc (kn:K4 β):=bnd (A.zG E) fun b=>kn b (.int .i64 0) E E h
noncomputable def aJx (kx0:K0 β)(kn:K4 β):=bnd (A.zA prog .lss 3 Z xb) fun a=>aL a (kn Z xb E xc h) (kx0 h)
noncomputable def aVc (kn:K6 β):=bnd (A.zH 1 xc Z) fun b=>bnd (A.load false 1 b h) fun c=>kn Z c Z xb E xc h
noncomputable def aJw (C:CF)(L:Nat){β:Type}(S G Z xb E xc:V)(h:H)(kn:K6 β):=bI .eql 9 G (.string ⟨⟨[35]⟩⟩)
 (bnd (A.zG E) fun i=>bnd (A.zA prog .sub 3 i (.int .i64 1)) fun j=>bB .eql 3 S j fun l=>(bif l then
 kn (.bool l) G Z xb E xc h
 else
 bB .eql 9 G (.string ⟨⟨[43]⟩⟩) fun q=>kn (.bool q) G Z xb E xc h))
 (bB .eql 9 G (.string ⟨⟨[43]⟩⟩) fun w=>kn (.bool w) G Z xb E xc h)
noncomputable def aVb (kr:K1 β)(kn:K4 β):=aL xd (kn Z xb E xc h) (aE (C 89 [G,(.string ⟨⟨[43,35]⟩⟩)] h) fun b c=>iK b
 (kr (.bool false) c)
 (kn Z xb E xc c))
noncomputable def aGw (kr:K1 β)(kn:K4 β):=aVc h E xc xb Z (fun S G Z xb E xc h=>aJw C L S G Z xb E xc h (fun xd G Z xb E xc h=>aVb C h E G xc xb Z xd kr kn))
theorem bNo:aC prog C L 2 38 [2] (g bAu 3916) [17,16,3,15] [(1,[17,16,3,15]),(0,[])] (r4 17 16 3 15 Z xb E xc) h K=aGw C L h E xc xb Z (R K [2]) (N K [17,16,3,15]):=by unfold aGw;refine(y 1 [4,5,17,16,3,15] ?_ (w6 fun S G Z xb E xc h=>(bk 2 (q [22,5,17,16,3,15] ?_ ?_ ?_) ?_)) ?_)<;>intros<;>kernel_rfl
noncomputable def aVa (kn:K4 β):=bnd (A.zA prog .add 3 Z (.int .i64 1)) fun a=>kn xb a E xc h
noncomputable def aBa (C:CF)(L:Nat){β:Type}(kr:K1 β)(kx0:K0 β):Nat→K4 β
 |0,_,_,_,_,_=>none
 |n+1,xb,Z,E,xc,h=>aJx h E xc xb Z kx0 (fun Z xb E xc h=>aGw C L h E xc xb Z kr (fun Z xb E xc h=>aVa h E xc xb Z (fun xb Z E xc h=>aBa C L kr kx0 n xb Z E xc h)))
theorem bLf (C:CF)(L:Nat){β:Type}(K:KK β):∀n,M (fun fr h=>Lw prog C L 2 38 [2] (g bAu 244) [16,17,3,15] [(0,[])] n fr h K) [16,17,3,15]=aBa C L (R K [2]) (X K 0 []) n:=by refine lw [16,17,3,15] [16,17,3,15] (F:=fun kn xb Z E xc h=>aJx h E xc xb Z (X K 0 []) (fun Z xb E xc h=>aGw C L h E xc xb Z (R K [2]) (fun Z xb E xc h=>aVa h E xc xb Z kn))) ?_ ?_ (fun kn=>w4 fun xb Z E xc h=>(y 2 [17,16,3,15] ?_ (w4 fun Z xb E xc h=>(q [17,16,3,15] (fun k=>(bk 1 (bNo C L h _ E xc xb Z) ?_)) ?_ ?_)) ?_))<;>intros<;>kernel_rfl
noncomputable def aZh (kr:K1 β)(kn:K0 β):=cEc h E (fun xb Z E xc h=>aBa C L kr kn L xb Z E xc h)
theorem bPl:aC prog C L 2 38 [2] (g bAu 30) [] [] (r1 3 E) h K=aZh C L h E (R K [2]) (N K []):=by unfold aZh;refine(y 1 [16,17,3,15] ?_ (w4 fun xb Z E xc h=>(bk 0 (lp (c4 (bLf C L _ L) xb Z E xc h) ?_) ?_)) ?_)<;>intros<;>kernel_rfl
noncomputable def aUz (C:CF)(L:Nat){β:Type}(h:H)(kr:K1 β):=kr (.bool true) h
noncomputable def aLu (kr:K1 β):=aVd C h B kr (fun B h=>cEd C h B (fun E h=>aZh C L h E kr (fun h=>aUz C L h kr)))
theorem bQv:aC prog C L 2 38 [2] (g bAu 1) [2] [] (r1 0 B) h K=aLu C L h B (R K [2]):=by unfold aLu;refine(y 2 [0] ?_ (w1 fun B h=>(y 1 [3] ?_ (w1 fun E h=>(q [] (fun k=>(bPl C L h _ E)) ?_ ?_)) ?_)) ?_)<;>intros<;>kernel_rfl
noncomputable def F86 (C:CF)(L:Nat)(B:V)(h:H):O (V×H):=aLu C L h B (fun I h=>some (I,h))
def bUn (Q:Orc)(n:Nat)(B:V)(h:H)(q:Q 86 [B]=none):=(tq q Tryz.func86 (bQv _ n h _ B) (by kernel_rfl) (by kernel_rfl):_=F86 (aA prog 2 Q n) n B h)
noncomputable def bAt:Code:=(Tryz.f88.body).getD .skip
noncomputable def bDm (kr:K1 β)(kn:K2 β):=bnd (A.zC B) fun c=>bI .gtr 3 c (.int .i64 65535)
 (kr (.int .i64 (-1)) h)
 (kn B (.int .i64 0) h)
noncomputable def cEb (kn:K3 β):=aE (A.zU B h) fun b c=>kn b B E c
noncomputable def aDu (kx0:K1 β)(kn:K4 β):=aE (A.zY Y h) fun a b=>bnd (A.z 0 a) fun c=>iK c
 (kn a E Y B b)
 (kx0 E b)
noncomputable def aJv (kn:K5 β):=bnd (A.z 1 xg) fun a=>bnd (A.z 2 xg) fun b=>kn b a E Y B h
noncomputable def aPj (kn:K4 β):=bI .eql 21 G (.int .i32 0)
 (kn (.bool true) E Y B h)
 (bI .eql 21 G (.int .i32 65533)
 (bnd (A.zE B (some S) none) fun n=>aE (C 92 [n] h) fun o p=>aP o fun q=>aP (.bool !q) fun s=>kn (.bool s) E Y B p)
 (kn (.bool false) E Y B h))
noncomputable def aPi (kr:K1 β)(kn:K3 β):=aL xw (kr (.int .i64 (-1)) h) (kn E Y B h)
noncomputable def aEr (kr:K1 β)(kn:K3 β):=aPj C h B E S G Y (fun xw E Y B h=>aPi h B E Y xw kr kn)
theorem bMy:aC prog C L 2 31 [2] (g bAt 7834) [3,10,0] [(1,[10,0,3]),(0,[3])] (r5 5 4 3 10 0 G S E Y B) h K=aEr C h B E S G Y (R K [2]) (N K [3,10,0]):=by unfold aEr;refine(y 1 [27,3,10,0] ?_ ?_ ?_)<;>intros<;>kernel_rfl
noncomputable def aUx (kn:K3 β):=bnd (A.zA prog .add 3 E (.int .i64 1)) fun b=>kn Y B b h
noncomputable def vS (C:CF)(L:Nat){β:Type}(kr kx0:K1 β):Nat→K3 β
 |0,_,_,_,_=>none
 |n+1,Y,B,E,h=>aDu h B E Y kx0 (fun xg E Y B h=>aJv h B E Y xg (fun G S E Y B h=>aEr C h B E S G Y kr (fun E Y B h=>aUx h B E Y (fun Y B E h=>vS C L kr kx0 n Y B E h))))
theorem bLp (C:CF)(L:Nat){β:Type}(K:KK β):∀n,M (fun fr h=>Lw prog C L 2 31 [2] (g bAt 244) [10,0,3] [(0,[3])] n fr h K) [10,0,3]=vS C L (R K [2]) (X K 0 [3]) n:=by refine lw [10,0,3] [10,0,3] (F:=fun kn Y B E h=>aDu h B E Y (X K 0 [3]) (fun xg E Y B h=>aJv h B E Y xg (fun G S E Y B h=>aEr C h B E S G Y (R K [2]) (fun E Y B h=>aUx h B E Y kn)))) ?_ ?_ (fun kn=>w3 fun Y B E h=>(y 2 [11,3,10,0] ?_ (w4 fun xg E Y B h=>(bk 1 (y 1 [5,4,3,10,0] ?_ (w5 fun G S E Y B h=>(q [3,10,0] (fun k=>(bMy C L h _ B E S G Y)) ?_ ?_)) ?_) ?_)) ?_))<;>intros<;>kernel_rfl
noncomputable def aZi (kr kn:K1 β):=cEb h B E (fun Y B E h=>vS C L kr kn L Y B E h)
theorem bPq:aC prog C L 2 31 [2] (g bAt 30) [3] [] (r2 0 3 B E) h K=aZi C L h B E (R K [2]) (N K [3]):=by unfold aZi;refine(y 1 [10,0,3] ?_ (w3 fun Y B E h=>(bk 0 (lp (c3 (bLp C L _ L) Y B E h) ?_) ?_)) ?_)<;>intros<;>kernel_rfl
noncomputable def aPh (C:CF)(L:Nat){β:Type}(E:V)(h:H)(kr:K1 β):=kr E h
noncomputable def aTh (kr:K1 β):=bDm h B kr (fun B E h=>aZi C L h B E kr (fun E h=>aPh C L E h kr))
theorem bQt:aC prog C L 2 31 [2] (g bAt 1) [2] [] (r1 0 B) h K=aTh C L h B (R K [2]):=by unfold aTh;refine(y 3 [0,3] ?_ (w2 fun B E h=>(q [3] (fun k=>(bPq C L h _ B E)) ?_ ?_)) ?_)<;>intros<;>kernel_rfl
noncomputable def F88 (C:CF)(L:Nat)(B:V)(h:H):O (V×H):=aTh C L h B (fun I h=>some (I,h))
def bUl (Q:Orc)(n:Nat)(B:V)(h:H)(q:Q 88 [B]=none):=(tq q Tryz.func88 (bQt _ n h _ B) (by kernel_rfl) (by kernel_rfl):_=F88 (aA prog 2 Q n) n B h)
noncomputable def cHk:Code:=(Tryz.f89.body).getD .skip
noncomputable def bHk (kr:K1 β):=aE (C 93 [B,D] h) fun d e=>bB .geq 3 d (.int .i64 0) fun i=>kr (.bool i) e
theorem bQs:aC prog C L 2 9 [4] (g cHk 1) [4] [] (r2 0 1 B D) h K=bHk C h B D (R K [4]):=by kernel_rfl
noncomputable def F89 (C:CF)(L:Nat)(B D:V)(h:H):O (V×H):=bHk C h B D (fun S h=>some (S,h))
def bUk (Q:Orc)(n:Nat)(B D:V)(h:H)(q:Q 89 [B,D]=none):=(tq q Tryz.func89 (bQs _ n h _ B D) (by kernel_rfl) (by kernel_rfl):_=F89 (aA prog 2 Q n) n B D h)
noncomputable def cHj:Code:=(Tryz.f90.body).getD .skip
noncomputable def bHj (kr:K1 β):=aE (C 94 [B,D,(.int .i64 0),(.int .i64 (-1))] h) fun d e=>kr d e
theorem bQr:aC prog C L 2 8 [4] (g cHj 1) [4] [] (r2 0 1 B D) h K=bHj C h B D (R K [4]):=by kernel_rfl
noncomputable def F90 (C:CF)(L:Nat)(B D:V)(h:H):O (V×H):=bHj C h B D (fun S h=>some (S,h))
def bUj (Q:Orc)(n:Nat)(B D:V)(h:H)(q:Q 90 [B,D]=none):=(tq q Tryz.func90 (bQr _ n h _ B D) (by kernel_rfl) (by kernel_rfl):_=F90 (aA prog 2 Q n) n B D h)
noncomputable def cHi:Code:=(Tryz.f92.body).getD .skip
noncomputable def bHi (kr:K1 β):=aE (C 97 [B] h) fun c d=>bnd (A.z 0 c) fun f=>bnd (A.z 1 c) fun i=>bB .gtr 3 i (.int .i64 1) fun n=>kr (.bool n) d
theorem bQp:aC prog C L 2 12 [2] (g cHi 1) [2] [] (r1 0 B) h K=bHi C h B (R K [2]):=by kernel_rfl
noncomputable def F92 (C:CF)(L:Nat)(B:V)(h:H):O (V×H):=bHi C h B (fun I h=>some (I,h))
def bUh (Q:Orc)(n:Nat)(B:V)(h:H)(q:Q 92 [B]=none):=(tq q Tryz.func92 (bQp _ n h _ B) (by kernel_rfl) (by kernel_rfl):_=F92 (aA prog 2 Q n) n B h)
noncomputable def aMl:Code:=(Tryz.f93.body).getD .skip
noncomputable def bDj (kr:K1 β)(kn:K2 β):=bI .eql 9 D (.string ⟨⟨[]⟩⟩)
 (kr (.int .i64 (-1)) h)
 (bnd (A.zC D) fun i=>bI .eql 3 i (.int .i64 1)
 (bnd (A.zB D (.int .i64 0)) fun m=>bnd (A.conv prog 5 21 m) fun n=>bI .geq 21 n (.int .i32 128)
 (aE (C 98 [B,(.int .i32 65533)] h) fun v w=>kr v w)
 (aE (C 98 [B,n] h) fun b1 c1=>kr b1 c1))
 (kn B D h))
noncomputable def bDi (kn:K3 β):=bnd (A.zC B) fun b=>aE (C 99 [b] h) fun c d=>aP c fun e=>kn (.bool e) B D d
noncomputable def cDy (kn:K4 β):=aE (C 100 [D] h) fun b c=>bnd (A.z 0 b) fun e=>bnd (A.z 1 b) fun f=>aP f fun i=>aE (A.zJ 256 Z126 c) fun j k=>bnd (A.store 256 j e k) fun m=>kn (.bool i) j B D m
noncomputable def cDx (kn:K3 β):=kn (.int .i64 0) W B h
noncomputable def aPe (kr:K1 β)(kx0:K0 β)(kn:K3 β):=bnd (A.zC B) fun c=>bI .lss 3 P c
 (bnd (A.zB B P) fun j=>aE (C 101 [W,j] h) fun k l=>iK k
 (kr P l)
 (bnd (A.zA prog .add 3 P (.int .i64 1)) fun q=>kn q W B l))
 (kx0 h)
noncomputable def aEd (C:CF)(L:Nat){β:Type}(kr:K1 β)(kx0:K0 β):Nat→K3 β
 |0,_,_,_,_=>none
 |n+1,P,W,B,h=>aPe C h B W P kr kx0 (fun P W B h=>aEd C L kr kx0 n P W B h)
theorem bKr (C:CF)(L:Nat){β:Type}(K:KK β):∀n,M (fun fr h=>Lw prog C L 2 55 [4] (g aMl 15716) [8,6,0] [(0,[])] n fr h K) [8,6,0]=aEd C L (R K [4]) (X K 0 []) n:=by refine lw [8,6,0] [8,6,0] (F:=fun kn P W B h=>aPe C h B W P (R K [4]) (X K 0 []) kn) ?_ ?_ ?_<;>intros<;>kernel_rfl
noncomputable def aYr (kr:K1 β)(kn:K0 β):=cDx h B W (fun P W B h=>aEd C L kr kn L P W B h)
theorem bNn:aC prog C L 2 55 [4] (g aMl 1964) [] [] (r4 32 6 0 1 xn W B D) h K=aYr C L h B W (R K [4]) (N K []):=by unfold aYr;refine(y 1 [8,6,0] ?_ (w3 fun P W B h=>(bk 0 (lp (c3 (bKr C L _ L) P W B h) ?_) ?_)) ?_)<;>intros<;>kernel_rfl
noncomputable def aUw (C:CF)(L:Nat){β:Type}(h:H)(kr:K1 β):=kr (.int .i64 (-1)) h
noncomputable def cGb (kn:K2 β):=kn B D h
noncomputable def cDz (kn:K2 β):=kn B D h
noncomputable def aTd (kr:K1 β)(kn:K2 β):=bDi C h B D (fun xv B D h=>aL xv (cDy C h B D (fun xn W B D h=>aL xn (aYr C L h B W kr (fun h=>aUw C L h kr)) (cGb h B D kn))) (cDz h B D kn))
theorem bPb:aC prog C L 2 55 [4] (g aMl 30) [0,1] [] (r2 0 1 B D) h K=aTd C L h B D (R K [4]) (N K [0,1]):=by unfold aTd;refine(y 1 [26,0,1] ?_ (w3 fun xv B D h=>(cd (y 2 [32,6,0,1] ?_ (w4 fun xn W B D h=>(cd (q [] (fun k=>(bNn C L h _ B D W xn)) ?_ ?_) ?_ ?_)) ?_) ?_ ?_)) ?_)<;>intros<;>kernel_rfl
noncomputable def cDw (kn:K2 β):=aE (A.zU B h) fun b c=>kn b D c
noncomputable def aJp (kr:K1 β)(kx2:K0 β)(kn:K2 β):=aE (A.zY xk h) fun a b=>bnd (A.z 0 a) fun c=>iK c
 (bnd (A.z 1 a) fun e=>bnd (A.z 2 a) fun f=>aE (C 98 [D,f] b) fun m n=>bI .geq 3 m (.int .i64 0)
 (kr e n)
 (kn xk D n))
 (kx2 b)
noncomputable def aAy (C:CF)(L:Nat){β:Type}(kr:K1 β)(kx2:K0 β):Nat→K2 β
 |0,_,_,_=>none
 |n+1,xk,D,h=>aJp C h D xk kr kx2 (fun xk D h=>aAy C L kr kx2 n xk D h)
theorem bLd (C:CF)(L:Nat){β:Type}(K:KK β):∀n,M (fun fr h=>Lw prog C L 2 55 [4] (g aMl 500) [45,1] [(2,[])] n fr h K) [45,1]=aAy C L (R K [4]) (X K 2 []) n:=by refine lw [45,1] [45,1] (F:=fun kn xk D h=>aJp C h D xk (R K [4]) (X K 2 []) kn) ?_ ?_ ?_<;>intros<;>kernel_rfl
noncomputable def aYv (kr:K1 β)(kn:K0 β):=cDw h B D (fun xk D h=>aAy C L kr kn L xk D h)
theorem bNy:aC prog C L 2 55 [4] (g aMl 62) [] [] (r2 0 1 B D) h K=aYv C L h B D (R K [4]) (N K []):=by unfold aYv;refine(y 1 [45,1] ?_ (w2 fun xk D h=>(bk 2 (lp (c2 (bLd C L _ L) xk D h) ?_) ?_)) ?_)<;>intros<;>kernel_rfl
noncomputable def aPd (C:CF)(L:Nat){β:Type}(h:H)(kr:K1 β):=kr (.int .i64 (-1)) h
noncomputable def aTg (kr:K1 β):=bDj C h B D kr (fun B D h=>aTd C L h B D kr (fun B D h=>aYv C L h B D kr (fun h=>aPd C L h kr)))
theorem bQo:aC prog C L 2 55 [4] (g aMl 1) [4] [] (r2 0 1 B D) h K=aTg C L h B D (R K [4]):=by unfold aTg;refine(y 3 [0,1] ?_ (w2 fun B D h=>(q [0,1] (fun k=>(bPb C L h _ B D)) (w2 fun B D h=>(q [] (fun k=>(bNy C L h _ B D)) ?_ ?_)) ?_)) ?_)<;>intros<;>kernel_rfl
noncomputable def F93 (C:CF)(L:Nat)(B D:V)(h:H):O (V×H):=aTg C L h B D (fun S h=>some (S,h))
def bUg (Q:Orc)(n:Nat)(B D:V)(h:H)(q:Q 93 [B,D]=none):=(tq q Tryz.func93 (bQo _ n h _ B D) (by kernel_rfl) (by kernel_rfl):_=F93 (aA prog 2 Q n) n B D h)
noncomputable def cEv:Code:=(Tryz.f94.body).getD .skip
noncomputable def cDv (kr:K1 β)(kn:K4 β):=bI .eql 3 E (.int .i64 0)
 (kr (.slice none 0 0) h)
 (bI .eql 9 D (.string ⟨⟨[]⟩⟩)
 (aE (C 102 [B,E] h) fun m n=>kr m n)
 (bI .lss 3 E (.int .i64 0)
 (aE (C 103 [B,D] h) fun u v=>bnd (A.zA prog .add 3 u (.int .i64 1)) fun w=>kn w D I B v)
 (kn E D I B h)))
noncomputable def cDu (kn:K6 β):=bnd (A.zC B) fun c=>bnd (A.zA prog .add 3 c (.int .i64 1)) fun d=>bnd (A.zX prog .min ⟨[3,3]⟩ 3 [E,d]) fun e=>aE (A.zO 1 16 Z9L e e h) fun j k=>bnd (A.zA prog .sub 3 e (.int .i64 1)) fun n=>kn n D I B j (.int .i64 0) k
noncomputable def aPc (kx0:K3 β)(kn:K6 β):=bI .lss 3 Y E
 (aE (C 104 [B,D] h) fun i j=>bI .lss 3 i (.int .i64 0)
 (kx0 B U Y j)
 (bnd (A.zA prog .add 3 i I) fun t=>bnd (A.zE B none (some t)) fun u=>bnd (A.zH 1 U Y) fun v=>bnd (A.store 1 v u j) fun y=>bnd (A.zC D) fun c1=>bnd (A.zA prog .add 3 i c1) fun d1=>bnd (A.zE B (some d1) none) fun e1=>bnd (A.zA prog .add 3 Y (.int .i64 1)) fun j1=>kn E D I e1 U j1 y))
 (kx0 B U Y h)
noncomputable def aAx (C:CF)(L:Nat){β:Type}(kx0:K3 β):Nat→K6 β
 |0,_,_,_,_,_,_,_=>none
 |n+1,E,D,I,B,U,Y,h=>aPc C h B D I E U Y kx0 (fun E D I B U Y h=>aAx C L kx0 n E D I B U Y h)
theorem bLc (C:CF)(L:Nat){β:Type}(K:KK β):∀n,M (fun fr h=>Lw prog C L 2 66 [8] (g cEv 4088) [3,1,2,0,9,10] [(0,[0,9,10])] n fr h K) [3,1,2,0,9,10]=aAx C L (X K 0 [0,9,10]) n:=by refine lw [3,1,2,0,9,10] [3,1,2,0,9,10] (F:=fun kn E D I B U Y h=>aPc C h B D I E U Y (X K 0 [0,9,10]) kn) ?_ ?_ ?_<;>intros<;>kernel_rfl
noncomputable def aUv (C:CF)(L:Nat){β:Type}(B U Y:V)(h:H)(kr:K1 β):=bnd (A.zH 1 U Y) fun d=>bnd (A.store 1 d B h) fun f=>bnd (A.zA prog .add 3 Y (.int .i64 1)) fun k=>bnd (A.zQ 1 U none (some k) none f) fun l=>kr l f
noncomputable def aZt (kr:K1 β):=cDv C h B D I E kr (fun E D I B h=>cDu h B D I E (fun E D I B U Y h=>aAx C L (fun B U Y h=>aUv C L B U Y h kr) L E D I B U Y h))
theorem bQn:aC prog C L 2 66 [8] (g cEv 1) [8] [] (r4 0 1 2 3 B D I E) h K=aZt C L h B D I E (R K [8]):=by unfold aZt;refine(y 4 [3,1,2,0] ?_ (w4 fun E D I B h=>(y 4 [3,1,2,0,9,10] ?_ (w6 fun E D I B U Y h=>(q [0,9,10] (A:=fun z=>aAx C L z L E D I B U Y h) (fun k=>(bk 0 (lp (c6 (bLc C L _ L) E D I B U Y h) ?_) ?_)) ?_ ?_)) ?_)) ?_)<;>intros<;>kernel_rfl
noncomputable def F94 (C:CF)(L:Nat)(B D I E:V)(h:H):O (V×H):=aZt C L h B D I E (fun P h=>some (P,h))
def bUf (Q:Orc)(n:Nat)(B D I E:V)(h:H)(q:Q 94 [B,D,I,E]=none):=(tq q Tryz.func94 (bQn _ n h _ B D I E) (by kernel_rfl) (by kernel_rfl):_=F94 (aA prog 2 Q n) n B D I E h)
noncomputable def cHh:Code:=(Tryz.f97.body).getD .skip
noncomputable def bHh (kr:K2 β):=bI .neq 9 B (.string ⟨⟨[]⟩⟩)
 (bnd (A.zB B (.int .i64 0)) fun j=>bI .lss 5 j (.int .u8 128)
 (bnd (A.zB B (.int .i64 0)) fun o=>bnd (A.conv prog 5 21 o) fun p=>kr p (.int .i64 1) h)
 (aE (C 105 [B] h) fun t u=>bnd (A.z 0 t) fun w=>bnd (A.z 1 t) fun y=>kr w y u))
 (aE (C 105 [B] h) fun d1 e1=>bnd (A.z 0 d1) fun i1=>bnd (A.z 1 d1) fun j1=>kr i1 j1 e1)
theorem bQm:aC prog C L 2 19 [2,3] (g cHh 1) [2,3] [] (r1 0 B) h K=bHh C h B (R K [2,3]):=by kernel_rfl
noncomputable def F97 (C:CF)(L:Nat)(B:V)(h:H):O (V×H):=bHh C h B (fun I E h=>some (.tuple ⟨[I,E]⟩,h))
def bUe (Q:Orc)(n:Nat)(B:V)(h:H)(q:Q 97 [B]=none):=(tq q Tryz.func97 (bQm _ n h _ B) (by kernel_rfl) (by kernel_rfl):_=F97 (aA prog 2 Q n) n B h)
noncomputable def xW:Code:=(Tryz.f98.body).getD .skip
noncomputable def bDh (kn:K2 β):=kn D B h
noncomputable def bDg (kn:K3 β):=bI .leq 21 (.int .i32 0) D
 (bB .lss 21 D (.int .i32 128) fun i=>kn (.bool i) D B h)
 (kn (.bool false) D B h)
noncomputable def cDl (kr:K1 β):=bnd (A.conv prog 21 5 D) fun c=>aE (C 106 [B,c] h) fun d e=>kr d e
noncomputable def aUu (kn:K3 β):=bB .eql 21 D (.int .i32 65533) fun c=>kn (.bool c) D B h
noncomputable def cDm (kn:K1 β):=aE (A.zU B h) fun b c=>kn b c
noncomputable def bDd (kr:K1 β)(kx9:K0 β)(kn:K1 β):=aE (A.zY xl h) fun a b=>bnd (A.z 0 a) fun c=>iK c
 (bnd (A.z 1 a) fun e=>bnd (A.z 2 a) fun f=>bI .eql 21 f (.int .i32 65533)
 (kr e b)
 (kn xl b))
 (kx9 b)
noncomputable def aKx (C:CF)(L:Nat){β:Type}(kr:K1 β)(kx9:K0 β):Nat→K1 β
 |0,_,_=>none
 |n+1,xl,h=>bDd h xl kr kx9 (fun xl h=>aKx C L kr kx9 n xl h)
theorem bJv (C:CF)(L:Nat){β:Type}(K:KK β):∀n,M (fun fr h=>Lw prog C L 2 187 [4] (g xW 1764) [175] [(9,[]),(0,[4])] n fr h K) [175]=aKx C L (R K [4]) (X K 9 []) n:=by refine lw [175] [175] (F:=fun kn xl h=>bDd h xl (R K [4]) (X K 9 []) kn) ?_ ?_ ?_<;>intros<;>kernel_rfl
noncomputable def aYj (kr:K1 β)(kn:K0 β):=cDm h B (fun xl h=>aKx C L kr kn L xl h)
theorem bMx:aC prog C L 2 187 [4] (g xW 220) [] [(0,[4])] (r3 171 1 0 xs D B) h K=aYj C L h B (R K [4]) (N K []):=by unfold aYj;refine(y 1 [175] ?_ (w1 fun xl h=>(bk 9 (lp (c1 (bJv C L _ L) xl h) ?_) ?_)) ?_)<;>intros<;>kernel_rfl
noncomputable def cFz (kr:K1 β):=kr (.int .i64 (-1)) h
noncomputable def bDf (kn:K3 β):=aE (C 107 [D] h) fun b c=>aP b fun d=>aP (.bool !d) fun f=>kn (.bool f) D B c
noncomputable def cDn (kr:K1 β):=kr (.int .i64 (-1)) h
noncomputable def cDt (kn:K2 β):=bnd (A.conv prog 21 9 D) fun b=>kn B b h
noncomputable def bDe (kn:K4 β):=bnd (A.zC J) fun b=>bnd (A.zA prog .sub 3 b (.int .i64 1)) fun c=>kn c c B J h
noncomputable def aUt (kx1:K0 β)(kn:K4 β):=bnd (A.zC B) fun c=>bI .lss 3 U c
 (kn J B U P h)
 (kx1 h)
noncomputable def cDs (kn:K5 β):=bnd (A.zB B U) fun c=>bnd (A.zB J P) fun f=>bB .neq 5 c f fun j=>kn (.bool j) J B U P h
noncomputable def cDr (kr:K1 β)(kn:K4 β):=aL xy (bnd (A.zA prog .add 3 U (.int .i64 1)) fun c=>bnd (A.zE B (some c) none) fun d=>bnd (A.zB J P) fun i=>aE (C 106 [d,i] h) fun j k=>bI .lss 3 j (.int .i64 0)
 (kr (.int .i64 (-1)) k)
 (bnd (A.zA prog .add 3 j (.int .i64 1)) fun s=>bnd (A.zA prog .add 3 U s) fun t=>kn J B t P k)) (kn J B U P h)
noncomputable def aSi (kr:K1 β)(kn:K4 β):=cDs h B J P U (fun xy J B U P h=>cDr C h B J P U xy kr kn)
theorem bLo:aC prog C L 2 187 [4] (g xW 1832840) [7,0,9,8] [(2,[8,9,0,7]),(1,[]),(0,[4])] (r4 7 0 9 8 J B U P) h K=aSi C h B J P U (R K [4]) (N K [7,0,9,8]):=by unfold aSi;refine(y 1 [33,7,0,9,8] ?_ ?_ ?_)<;>intros<;>kernel_rfl
noncomputable def cGa (kn:K5 β):=kn (.int .i64 1) J B U P h
noncomputable def cDq (kx3:K2 β)(kn:K5 β):=bnd (A.zC J) fun c=>bI .lss 3 xj c
 (bnd (A.zA prog .sub 3 U xj) fun k=>bnd (A.zB B k) fun l=>bnd (A.zA prog .sub 3 P xj) fun p=>bnd (A.zB J p) fun q=>bI .neq 5 l q
 none
 (bnd (A.zA prog .add 3 xj (.int .i64 1)) fun u=>kn u J B U P h))
 (kx3 U P h)
noncomputable def bHc (C:CF)(L:Nat){β:Type}(kx3:K2 β):Nat→K5 β
 |0,_,_,_,_,_,_=>none
 |n+1,xj,J,B,U,P,h=>cDq h B J P U xj kx3 (fun xj J B U P h=>bHc C L kx3 n xj J B U P h)
theorem bJr (C:CF)(L:Nat){β:Type}(K:KK β):∀n,M (fun fr h=>Lw prog C L 2 187 [4] (g xW 29325460) [12,7,0,9,8] [(3,[9,8]),(2,[8,9,0,7]),(1,[]),(0,[4])] n fr h K) [12,7,0,9,8]=bHc C L (X K 3 [9,8]) n:=by refine lw [12,7,0,9,8] [12,7,0,9,8] (F:=fun kn xj J B U P h=>cDq h B J P U xj (X K 3 [9,8]) kn) ?_ ?_ ?_<;>intros<;>kernel_rfl
noncomputable def aYi (kn:K2 β):=cGa h B J P U (fun xj J B U P h=>bHc C L kn L xj J B U P h)
theorem bMi:aC prog C L 2 187 [4] (g xW 3665682) [9,8] [(2,[8,9,0,7]),(1,[]),(0,[4])] (r4 7 0 9 8 J B U P) h K=aYi C L h B J P U (N K [9,8]):=by unfold aYi;refine(y 1 [12,7,0,9,8] ?_ (w5 fun xj J B U P h=>(bk 3 (lp (c5 (bJr C L _ L) xj J B U P h) ?_) ?_)) ?_)<;>intros<;>kernel_rfl
noncomputable def cDp (kr:K1 β):=bnd (A.zA prog .sub 3 U P) fun c=>kr c h
noncomputable def aAw (C:CF)(L:Nat){β:Type}(kr:K1 β)(kx1:K0 β):Nat→K4 β
 |0,_,_,_,_,_=>none
 |n+1,P,U,B,J,h=>aUt h B J P U kx1 (fun J B U P h=>aSi C h B J P U kr (fun J B U P h=>aYi C L h B J P U (fun U P h=>cDp h P U kr)))
theorem bLb (C:CF)(L:Nat){β:Type}(K:KK β):∀n,M (fun fr h=>Lw prog C L 2 187 [4] (g xW 114552) [8,9,0,7] [(1,[]),(0,[4])] n fr h K) [8,9,0,7]=aAw C L (R K [4]) (X K 1 []) n:=by refine lw [8,9,0,7] [8,9,0,7] (F:=fun kn P U B J h=>aUt h B J P U (X K 1 []) (fun J B U P h=>aSi C h B J P U (R K [4]) (fun J B U P h=>aYi C L h B J P U (fun U P h=>cDp h P U (R K [4]))))) ?_ ?_ (fun kn=>w4 fun P U B J h=>(y 1 [7,0,9,8] ?_ (w4 fun J B U P h=>(bk 2 (sc (q [7,0,9,8] (fun k=>(bLo C L h _ B J P U)) (w4 fun J B U P h=>(q [9,8] (fun k=>(bMi C L h _ B J P U)) ?_ ?_)) ?_) ?_) ?_)) ?_))<;>intros<;>kernel_rfl
noncomputable def cDo (kr:K1 β):=kr (.int .i64 (-1)) h
noncomputable def aLp (C:CF)(L:Nat){β:Type}(B J:V)(h:H)(kr:K1 β):=bDe h B J (fun P U B J h=>aAw C L kr (fun h=>cDo h kr) L P U B J h)
theorem bPp:aC prog C L 2 187 [4] (g xW 1789) [4] [(0,[4])] (r2 0 7 B J) h K=aLp C L B J h (R K [4]):=by unfold aLp;refine(y 3 [8,9,0,7] ?_ (w4 fun P U B J h=>(q [] (A:=fun z=>aAw C L (R K [4]) z L P U B J h) (fun k=>(bk 1 (lp (c4 (bLb C L _ L) P U B J h) ?_) ?_)) (w0 fun h=>(s0 [1,9,7,0,8] ?_ ?_)) ?_)) ?_)<;>intros<;>kernel_rfl
noncomputable def aFc (C:CF)(L:Nat){β:Type}(xo D B:V)(h:H)(kr:K1 β):=aUu h B D (fun xs D B h=>aL xs (aYj C L h B kr (fun h=>cFz h kr)) (bDf C h B D (fun yk D B h=>aL yk (cDn h kr) (cDt h B D (fun B J h=>aLp C L B J h kr)))))
theorem bQc:aC prog C L 2 187 [4] (g xW 27) [4] [(0,[4])] (r3 160 1 0 xo D B) h K=aFc C L xo D B h (R K [4]):=by unfold aFc;refine(y 1 [171,1,0] ?_ (w3 fun xs D B h=>(cd (q [] (fun k=>(bMx C L h _ B D xs)) ?_ ?_) (y 1 [183,1,0] ?_ (w3 fun yk D B h=>(cd ?_ (sc (y 1 [0,7] ?_ (w2 fun B J h=>(bPp C L h _ B J)) ?_) ?_) ?_)) ?_) ?_)) ?_)<;>intros<;>kernel_rfl
noncomputable def aLs (C:CF)(L:Nat){β:Type}(D B:V)(h:H)(kr:K1 β):=bDg h B D (fun xo D B h=>aL xo (cDl C h B D kr) (aFc C L xo D B h kr))
theorem bQg:aC prog C L 2 187 [4] (g xW 3) [4] [] (r2 1 0 D B) h K=aLs C L D B h (R K [4]):=by unfold aLs;refine(bk 0 (y 1 [160,1,0] ?_ (w3 fun xo D B h=>(cd ?_ (bQc C L h _ B D xo) ?_)) ?_) ?_)<;>intros<;>kernel_rfl
noncomputable def aTf (kr:K1 β):=bDh h B D (fun D B h=>aLs C L D B h kr)
theorem bQl:aC prog C L 2 187 [4] (g xW 1) [4] [] (r2 0 1 B D) h K=aTf C L h B D (R K [4]):=by unfold aTf;refine(y 1 [1,0] ?_ (w2 fun D B h=>(bQg C L h _ B D)) ?_)<;>intros<;>kernel_rfl
noncomputable def F98 (C:CF)(L:Nat)(B D:V)(h:H):O (V×H):=aTf C L h B D (fun S h=>some (S,h))
def bUd (Q:Orc)(n:Nat)(B D:V)(h:H)(q:Q 98 [B,D]=none):=(tq q Tryz.func98 (bQl _ n h _ B D) (by kernel_rfl) (by kernel_rfl):_=F98 (aA prog 2 Q n) n B D h)
noncomputable def cHg:Code:=(Tryz.f99.body).getD .skip
noncomputable def bHg (kr:K1 β):=bB .gtr 3 B (.int .i64 8) fun d=>kr (.bool d) h
theorem bQk:aC prog C L 2 5 [2] (g cHg 1) [2] [] (r1 0 B) h K=bHg h B (R K [2]):=by kernel_rfl
noncomputable def F99 (C:CF)(L:Nat)(B:V)(h:H):O (V×H):=bHg h B (fun I h=>some (I,h))
def bUc (Q:Orc)(n:Nat)(B:V)(h:H)(q:Q 99 [B]=none):=(tq q Tryz.func99 (bQk _ n h _ B) (by kernel_rfl) (by kernel_rfl):_=F99 (aA prog 2 Q n) n B h)
noncomputable def bTw:Code:=(Tryz.f101.body).getD .skip
noncomputable def aNa (kr:K1 β):=bnd (A.zN B) fun d=>bnd (A.yG 256 1 d D) fun e=>bnd (A.load false 1 e h) fun f=>aP f fun i=>kr (.bool i) h
theorem bCj:aC prog C L 2 10 [4] (g bTw 1) [4] [] (r2 0 1 B D) h K=aNa h B D (R K [4]):=by kernel_rfl
noncomputable def cFi (C:CF)(L:Nat)(B D:V)(h:H):O (V×H):=aNa h B D (fun S h=>some (S,h))
def bCw (Q:Orc)(n:Nat)(B D:V)(h:H)(q:Q 101 [B,D]=none):=(tq q Tryz.func101 (bCj _ n h _ B D) (by kernel_rfl) (by kernel_rfl):_=cFi (aA prog 2 Q n) n B D h)
noncomputable def aUo:Code:=(Tryz.f103.body).getD .skip
noncomputable def cDa (kr:K1 β)(kn:K3 β):=bnd (A.zC D) fun c=>bI .eql 3 c (.int .i64 0)
 (aE (C 110 [B] h) fun i j=>bnd (A.zA prog .add 3 i (.int .i64 1)) fun k=>kr k j)
 (bnd (A.zC D) fun n=>bI .eql 3 n (.int .i64 1)
 (bnd (A.zB D (.int .i64 0)) fun s=>aE (C 111 [B,s] h) fun t u=>kr t u)
 (kn (.int .i64 0) B D h))
noncomputable def cCz (kr:K1 β)(kn:K3 β):=aE (C 104 [B,D] h) fun c d=>bI .eql 3 c (.int .i64 (-1))
 (kr G d)
 (bnd (A.zA prog .add 3 G (.int .i64 1)) fun n=>bnd (A.zC D) fun s=>bnd (A.zA prog .add 3 c s) fun t=>bnd (A.zE B (some t) none) fun u=>kn n u D d)
noncomputable def bHd (C:CF)(L:Nat){β:Type}(kr:K1 β):Nat→K3 β
 |0,_,_,_,_=>none
 |n+1,G,B,D,h=>cCz C h B D G kr (fun G B D h=>bHd C L kr n G B D h)
theorem bJs (C:CF)(L:Nat){β:Type}(K:KK β):∀n,M (fun fr h=>Lw prog C L 2 34 [4] (g aUo 124) [5,0,1] [(0,[4])] n fr h K) [5,0,1]=bHd C L (R K [4]) n:=by refine lw [5,0,1] [5,0,1] (F:=fun kn G B D h=>cCz C h B D G (R K [4]) kn) ?_ ?_ ?_<;>intros<;>kernel_rfl
noncomputable def aFj (kr:K1 β):=cDa C h B D kr (fun G B D h=>bHd C L kr L G B D h)
theorem bCi:aC prog C L 2 34 [4] (g aUo 1) [4] [] (r2 0 1 B D) h K=aFj C L h B D (R K [4]):=by unfold aFj;refine(y 4 [5,0,1] ?_ (w3 fun G B D h=>(bk 0 (lp (c3 (bJs C L _ L) G B D h) ?_) ?_)) ?_)<;>intros<;>kernel_rfl
noncomputable def cFh (C:CF)(L:Nat)(B D:V)(h:H):O (V×H):=aFj C L h B D (fun S h=>some (S,h))
def bCv (Q:Orc)(n:Nat)(B D:V)(h:H)(q:Q 103 [B,D]=none):=(tq q Tryz.func103 (bCi _ n h _ B D) (by kernel_rfl) (by kernel_rfl):_=cFh (aA prog 2 Q n) n B D h)
noncomputable def bTv:Code:=(Tryz.f104.body).getD .skip
noncomputable def aMz (kr:K1 β):=aE (C 112 [B,D] h) fun d e=>kr d e
theorem bCh:aC prog C L 2 8 [4] (g bTv 1) [4] [] (r2 0 1 B D) h K=aMz C h B D (R K [4]):=by kernel_rfl
noncomputable def cFg (C:CF)(L:Nat)(B D:V)(h:H):O (V×H):=aMz C h B D (fun S h=>some (S,h))
def bCu (Q:Orc)(n:Nat)(B D:V)(h:H)(q:Q 104 [B,D]=none):=(tq q Tryz.func104 (bCh _ n h _ B D) (by kernel_rfl) (by kernel_rfl):_=cFg (aA prog 2 Q n) n B D h)
noncomputable def aNh:Code:=(Tryz.f105.body).getD .skip
noncomputable def bHb (kr:K2 β)(kn:K4 β):=bnd (A.zC B) fun d=>bI .lss 3 d (.int .i64 1)
 (kr (.int .i32 65533) (.int .i64 0) h)
 (bnd (A.zB B (.int .i64 0)) fun n=>bnd (A.yG 256 1 (.pointer (some ⟨0,0,none⟩)) n) fun q=>bnd (A.load false 1 q h) fun r=>kn r d B n h)
noncomputable def bHa (kr:K2 β)(kn:K5 β):=bI .geq 5 W (.int .u8 240)
 (bnd (A.conv prog 5 21 W) fun e=>bnd (A.zA prog .shl 21 e (.int .u64 31)) fun f=>bnd (A.zA prog .shr 21 f (.int .u64 31)) fun i=>bnd (A.zB B (.int .i64 0)) fun l=>bnd (A.conv prog 5 21 l) fun m=>bnd (A.zA prog .andNot 21 m i) fun o=>bnd (A.zA prog .and 21 (.int .i32 65533) i) fun q=>bnd (A.zA prog .or 21 o q) fun r=>kr r (.int .i64 1) h)
 (bnd (A.zA prog .and 5 W (.int .u8 7)) fun v=>bnd (A.conv prog 5 3 v) fun w=>bnd (A.zA prog .shr 5 W (.int .u64 4)) fun a1=>bnd (A.yG 16 2 (.pointer (some ⟨1,0,none⟩)) a1) fun b1=>bnd (A.load true 2 b1 h) fun c1=>aE (A.zJ 2 Z135 h) fun d1 e1=>bnd (A.store 2 d1 c1 e1) fun i1=>kn S d1 w B G i1)
noncomputable def aKv (kr:K2 β)(kn:K4 β):=bI .lss 3 S P
 (kr (.int .i32 65533) (.int .i64 1) h)
 (bnd (A.zB B (.int .i64 1)) fun j=>lf 0 1 U h fun n=>bI .lss 5 j n
 (kr (.int .i32 65533) (.int .i64 1) h)
 (lf 1 1 U h fun v=>bI .lss 5 v j
 (kr (.int .i32 65533) (.int .i64 1) h)
 (kn P B G j h)))
noncomputable def bGz (kr:K2 β)(kn:K5 β):=bI .leq 3 P (.int .i64 2)
 (bnd (A.zA prog .and 5 G (.int .u8 31)) fun e=>bnd (A.conv prog 5 21 e) fun f=>bnd (A.zA prog .shl 21 f (.int .u64 6)) fun i=>bnd (A.zA prog .and 5 Y (.int .u8 63)) fun k=>bnd (A.conv prog 5 21 k) fun l=>bnd (A.zA prog .or 21 i l) fun m=>kr m (.int .i64 2) h)
 (bnd (A.zB B (.int .i64 2)) fun q=>kn P B G Y q h)
noncomputable def aFw (kr:K2 β)(kn:K5 β):=bI .lss 5 xg (.int .u8 128)
 (kr (.int .i32 65533) (.int .i64 1) h)
 (bI .lss 5 (.int .u8 191) xg
 (kr (.int .i32 65533) (.int .i64 1) h)
 (kn P B G Y xg h))
noncomputable def aSf (kr:K2 β)(kn:K4 β):=bI .leq 3 P (.int .i64 3)
 (bnd (A.zA prog .and 5 G (.int .u8 15)) fun e=>bnd (A.conv prog 5 21 e) fun f=>bnd (A.zA prog .shl 21 f (.int .u64 12)) fun i=>bnd (A.zA prog .and 5 Y (.int .u8 63)) fun k=>bnd (A.conv prog 5 21 k) fun l=>bnd (A.zA prog .shl 21 l (.int .u64 6)) fun m=>bnd (A.zA prog .or 21 i m) fun n=>bnd (A.zA prog .and 5 xg (.int .u8 63)) fun p=>bnd (A.conv prog 5 21 p) fun q=>bnd (A.zA prog .or 21 n q) fun r=>kr r (.int .i64 3) h)
 (kn B G Y xg h)
noncomputable def aYd (kr:K2 β):=bnd (A.zB B (.int .i64 3)) fun b=>bI .lss 5 b (.int .u8 128)
 (kr (.int .i32 65533) (.int .i64 1) h)
 (bI .lss 5 (.int .u8 191) b
 (kr (.int .i32 65533) (.int .i64 1) h)
 (bnd (A.zA prog .and 5 G (.int .u8 7)) fun t=>bnd (A.conv prog 5 21 t) fun u=>bnd (A.zA prog .shl 21 u (.int .u64 18)) fun v=>bnd (A.zA prog .and 5 Y (.int .u8 63)) fun y=>bnd (A.conv prog 5 21 y) fun z=>bnd (A.zA prog .shl 21 z (.int .u64 12)) fun a1=>bnd (A.zA prog .or 21 v a1) fun b1=>bnd (A.zA prog .and 5 xg (.int .u8 63)) fun d1=>bnd (A.conv prog 5 21 d1) fun e1=>bnd (A.zA prog .shl 21 e1 (.int .u64 6)) fun f1=>bnd (A.zA prog .or 21 b1 f1) fun i1=>bnd (A.zA prog .and 5 b (.int .u8 63)) fun k1=>bnd (A.conv prog 5 21 k1) fun l1=>bnd (A.zA prog .or 21 i1 l1) fun m1=>kr m1 (.int .i64 4) h))
noncomputable def xQ (C:CF)(L:Nat){β:Type}(P B G Y xg:V)(h:H)(kr:K2 β):=aFw h B G P Y xg kr (fun P B G Y xg h=>aSf h B G P Y xg kr (fun B G Y xg h=>aYd h B G Y xg kr))
theorem bOe:aC prog C L 2 117 [2,3] (g aNh 16383) [2,3] [] (r5 8 0 5 10 11 P B G Y xg) h K=xQ C L P B G Y xg h (R K [2,3]):=by unfold xQ;refine(y 1 [8,0,5,10,11] ?_ (w5 fun P B G Y xg h=>(y 1 [0,5,10,11] ?_ ?_ ?_)) ?_)<;>intros<;>kernel_rfl
noncomputable def vV (C:CF)(L:Nat){β:Type}(S U P B G:V)(h:H)(kr:K2 β):=aKv h B S G P U kr (fun P B G Y h=>bGz h B G P Y kr (fun P B G Y xg h=>xQ C L P B G Y xg h kr))
theorem bPh:aC prog C L 2 117 [2,3] (g aNh 511) [2,3] [] (r5 4 9 8 0 5 S U P B G) h K=vV C L S U P B G h (R K [2,3]):=by unfold vV;refine(y 3 [8,0,5,10] ?_ (w4 fun P B G Y h=>(y 2 [8,0,5,10,11] ?_ (w5 fun P B G Y xg h=>(bOe C L h _ B G P Y xg)) ?_)) ?_)<;>intros<;>kernel_rfl
noncomputable def uS (C:CF)(L:Nat){β:Type}(B:V)(h:H)(kr:K2 β):=bHb h B kr (fun W S B G h=>bHa h B S G W kr (fun S U P B G h=>vV C L S U P B G h kr))
theorem bCg:aC prog C L 2 117 [2,3] (g aNh 1) [2,3] [] (r1 0 B) h K=uS C L B h (R K [2,3]):=by unfold uS;refine(y 5 [6,4,0,5] ?_ (w4 fun W S B G h=>(y 3 [4,9,8,0,5] ?_ (w5 fun S U P B G h=>(bPh C L h _ B S G P U)) ?_)) ?_)<;>intros<;>kernel_rfl
noncomputable def bIl (C:CF)(L:Nat)(B:V)(h:H):O (V×H):=uS C L B h (fun I E h=>some (.tuple ⟨[I,E]⟩,h))
def bCt (Q:Orc)(n:Nat)(B:V)(h:H)(q:Q 105 [B]=none):=(tq q Tryz.func105 (bCg _ n h _ B) (by kernel_rfl) (by kernel_rfl):_=bIl (aA prog 2 Q n) n B h)
noncomputable def bTu:Code:=(Tryz.f106.body).getD .skip
noncomputable def aMy (kr:K1 β):=aE (C 113 [B,D] h) fun d e=>kr d e
theorem bCf:aC prog C L 2 8 [4] (g bTu 1) [4] [] (r2 0 1 B D) h K=aMy C h B D (R K [4]):=by kernel_rfl
noncomputable def cFf (C:CF)(L:Nat)(B D:V)(h:H):O (V×H):=aMy C h B D (fun S h=>some (S,h))
def bCs (Q:Orc)(n:Nat)(B D:V)(h:H)(q:Q 106 [B,D]=none):=(tq q Tryz.func106 (bCf _ n h _ B D) (by kernel_rfl) (by kernel_rfl):_=cFf (aA prog 2 Q n) n B D h)
noncomputable def aUn:Code:=(Tryz.f107.body).getD .skip
noncomputable def aSe (kn:K1 β):=kn B h
noncomputable def aSd (kn:K2 β):=bI .leq 21 (.int .i32 0) B
 (bB .lss 21 B (.int .i32 55296) fun i=>kn (.bool i) B h)
 (kn (.bool false) B h)
noncomputable def cCy (kr:K1 β):=kr (.bool true) h
noncomputable def aYc (kr:K1 β)(kn:K0 β):=bI .lss 21 (.int .i32 57343) B
 (bI .leq 21 B (.int .i32 1114111)
 (kr (.bool true) h)
 (kn h))
 (kn h)
noncomputable def aGv (kr:K1 β)(kn:K0 β):=aSd h B (fun E B h=>aL E (cCy h kr) (aYc h B kr kn))
theorem bNd:aC prog C L 2 17 [2] (g aUn 12) [] [(0,[])] (r1 0 B) h K=aGv h B (R K [2]) (N K []):=by unfold aGv;refine(y 1 [3,0] ?_ (w2 fun E B h=>(cd ?_ ?_ ?_)) ?_)<;>intros<;>kernel_rfl
noncomputable def bGy (kr:K1 β):=kr (.bool false) h
noncomputable def tD (kr:K1 β):=aSe h B (fun B h=>aGv h B kr (fun h=>bGy h kr))
theorem bCe:aC prog C L 2 17 [2] (g aUn 1) [2] [] (r1 0 B) h K=tD h B (R K [2]):=by unfold tD;refine(y 1 [0] ?_ (w1 fun B h=>(q [] (fun k=>(bk 0 (bNd C L h _ B) ?_)) ?_ ?_)) ?_)<;>intros<;>kernel_rfl
noncomputable def aUc (C:CF)(L:Nat)(B:V)(h:H):O (V×H):=tD h B (fun I h=>some (I,h))
def bCr (Q:Orc)(n:Nat)(B:V)(h:H)(q:Q 107 [B]=none):=(tq q Tryz.func107 (bCe _ n h _ B) (by kernel_rfl) (by kernel_rfl):_=aUc (aA prog 2 Q n) n B h)
noncomputable def aNg:Code:=(Tryz.f112.body).getD .skip
noncomputable def bGx (kn:K3 β):=bnd (A.zC D) fun c=>kn B D c h
noncomputable def bGw (kn:K4 β):=bI .eql 3 G (.int .i64 0)
 (kn (.bool true) B D G h)
 (bB .eql 9 D B fun l=>kn (.bool l) B D G h)
noncomputable def cCs (kr:K1 β):=kr (.int .i64 0) h
noncomputable def cCu (kn:K4 β):=bB .eql 3 G (.int .i64 1) fun c=>kn (.bool c) B D G h
noncomputable def cCt (kr:K1 β):=bnd (A.zB D (.int .i64 0)) fun c=>aE (C 113 [B,c] h) fun d e=>kr d e
noncomputable def cGg (kn:K4 β):=bnd (A.zC B) fun c=>bB .geq 3 G c fun e=>kn (.bool e) B D G h
noncomputable def cGe (kr:K1 β):=kr (.int .i64 (-1)) h
noncomputable def cGf (kr:K1 β)(kn:K3 β):=bnd (none) fun b=>bI .leq 3 G b
 (bnd (A.zC B) fun i=>bI .leq 3 i (.int .i64 64)
 (aE (C 109 [B,D] h) fun p q=>kr p q)
 (kn B D G h))
 (kn B D G h)
noncomputable def aSt (kr:K1 β)(kn:K3 β):=bGw h B D G (fun xb B D G h=>aL xb (cCs h kr) (cCu h B D G (fun xa B D G h=>aL xa (cCt C h B D kr) (cGg h B D G (fun xx B D G h=>aL xx (cGe h kr) (cGf C h B D G kr kn))))))
theorem bNt:aC prog C L 2 143 [4] (g aNg 28) [0,1,5] [(0,[0,1,5])] (r3 0 1 5 B D G) h K=aSt C h B D G (R K [4]) (N K [0,1,5]):=by unfold aSt;refine(y 1 [16,0,1,5] ?_ (w4 fun xb B D G h=>(cd ?_ (y 1 [24,0,1,5] ?_ (w4 fun xa B D G h=>(cd ?_ (y 1 [31,0,1,5] ?_ (w4 fun xx B D G h=>(cd ?_ ?_ ?_)) ?_) ?_)) ?_) ?_)) ?_)<;>intros<;>kernel_rfl
noncomputable def cGd (kn:K8 β):=bnd (A.zB D (.int .i64 0)) fun b=>bnd (A.zB D (.int .i64 1)) fun e=>bnd (A.zC B) fun k=>bnd (A.zA prog .sub 3 k G) fun m=>bnd (A.zA prog .add 3 m (.int .i64 1)) fun n=>kn B D n G (.int .i64 0) (.int .i64 0) e b h
noncomputable def cCr (kx1:K0 β)(kn:K8 β):=bI .lss 3 P U
 (kn P Y B D U G J W h)
 (kx1 h)
noncomputable def cCq (kr:K1 β)(kn:K8 β):=bnd (A.zB B P) fun c=>bI .neq 5 c W
 (bnd (A.zA prog .add 3 P (.int .i64 1)) fun k=>bnd (A.zE B (some k) (some U)) fun m=>aE (C 113 [m,W] h) fun o p=>bI .lss 3 o (.int .i64 0)
 (kr (.int .i64 (-1)) p)
 (bnd (A.zA prog .add 3 o (.int .i64 1)) fun y=>bnd (A.zA prog .add 3 P y) fun z=>kn z Y B D U G J W p))
 (kn P Y B D U G J W h)
noncomputable def cCp (kr:K1 β)(kn:K8 β):=bnd (A.zA prog .add 3 P (.int .i64 1)) fun c=>bnd (A.zB B c) fun d=>bI .eql 5 d J
 (bnd (A.zA prog .add 3 P G) fun o=>bnd (A.zE B (some P) (some o)) fun p=>bI .eql 9 p D
 (kr P h)
 (kn P Y B D U G J W h))
 (kn P Y B D U G J W h)
noncomputable def cCo (kn:K9 β):=bnd (A.zA prog .add 3 P (.int .i64 1)) fun b=>bnd (A.zA prog .add 3 Y (.int .i64 1)) fun e=>bnd (none) fun j=>bI .leq 3 G j
 (aE (C 108 [b] h) fun p q=>bB .gtr 3 e p fun s=>kn (.bool s) B D U G e b J W q)
 (kn (.bool false) B D U G e b J W h)
noncomputable def cCl (kr:K1 β):=bnd (A.zE B (some P) none) fun c=>aE (C 109 [c,D] h) fun e f=>bI .geq 3 e (.int .i64 0)
 (bnd (A.zA prog .add 3 e P) fun o=>kr o f)
 (kr (.int .i64 (-1)) f)
noncomputable def cCn (kn:K9 β):=bnd (none) fun b=>bI .gtr 3 G b
 (bnd (A.zA prog .shr 3 P (.int .u64 4)) fun j=>bnd (A.zA prog .add 3 (.int .i64 4) j) fun k=>bI .geq 3 Y k
 (bnd (A.zA prog .lss 3 P U) fun r=>aP r fun s=>kn (.bool s) B D U G Y P J W h)
 (kn (.bool false) B D U G Y P J W h))
 (kn (.bool false) B D U G Y P J W h)
noncomputable def cCm (kr:K1 β)(kn:K8 β):=aL xr (bnd (A.zE B (some P) none) fun c=>aE (C 114 [c,D] h) fun e f=>bI .lss 3 e (.int .i64 0)
 (kr (.int .i64 (-1)) f)
 (bnd (A.zA prog .add 3 P e) fun p=>kr p f)) (kn B D U G Y P J W h)
noncomputable def aYe (C:CF)(L:Nat){β:Type}(kr:K1 β)(kx1:K0 β):Nat→K8 β
 |0,_,_,_,_,_,_,_,_,_=>none
 |n+1,B,D,U,G,Y,P,J,W,h=>cCr h B D G W J P U Y kx1 (fun P Y B D U G J W h=>cCq C h B D G W J P U Y kr (fun P Y B D U G J W h=>cCp h B D G W J P U Y kr (fun P Y B D U G J W h=>cCo C h B D G W J P U Y (fun xq B D U G Y P J W h=>aL xq (cCl C h B D P kr) (cCn h B D G W J P U Y (fun xr B D U G Y P J W h=>cCm C h B D G W J P U Y xr kr (fun B D U G Y P J W h=>aYe C L kr kx1 n B D U G Y P J W h)))))))
theorem bJt (C:CF)(L:Nat){β:Type}(K:KK β):∀n,M (fun fr h=>Lw prog C L 2 143 [4] (g aNg 4088) [0,1,9,5,10,8,7,6] [(1,[])] n fr h K) [0,1,9,5,10,8,7,6]=aYe C L (R K [4]) (X K 1 []) n:=by refine lw [0,1,9,5,10,8,7,6] [0,1,9,5,10,8,7,6] (F:=fun kn B D U G Y P J W h=>cCr h B D G W J P U Y (X K 1 []) (fun P Y B D U G J W h=>cCq C h B D G W J P U Y (R K [4]) (fun P Y B D U G J W h=>cCp h B D G W J P U Y (R K [4]) (fun P Y B D U G J W h=>cCo C h B D G W J P U Y (fun xq B D U G Y P J W h=>aL xq (cCl C h B D P (R K [4])) (cCn h B D G W J P U Y (fun xr B D U G Y P J W h=>cCm C h B D G W J P U Y xr (R K [4]) kn))))))) ?_ ?_ (fun kn=>w8 fun B D U G Y P J W h=>(y 1 [8,10,0,1,9,5,7,6] ?_ (w8 fun P Y B D U G J W h=>(bk 2 (y 1 [8,10,0,1,9,5,7,6] ?_ (w8 fun P Y B D U G J W h=>(y 1 [8,10,0,1,9,5,7,6] ?_ (w8 fun P Y B D U G J W h=>(y 3 [107,0,1,9,5,10,8,7,6] ?_ (w9 fun xq B D U G Y P J W h=>(cd ?_ (y 1 [132,0,1,9,5,10,8,7,6] ?_ ?_ ?_) ?_)) ?_)) ?_)) ?_) ?_)) ?_))<;>intros<;>kernel_rfl
noncomputable def cGc (kr:K1 β):=kr (.int .i64 (-1)) h
noncomputable def aAj (kr:K1 β):=bGx h B D (fun B D G h=>aSt C h B D G kr (fun B D G h=>cGd h B D G (fun B D U G Y P J W h=>aYe C L kr (fun h=>cGc h kr) L B D U G Y P J W h)))
theorem bCd:aC prog C L 2 143 [4] (g aNg 1) [4] [] (r2 0 1 B D) h K=aAj C L h B D (R K [4]):=by unfold aAj;refine(y 2 [0,1,5] ?_ (w3 fun B D G h=>(q [0,1,5] (fun k=>(bk 0 (bNt C L h _ B D G) ?_)) (w3 fun B D G h=>(y 5 [0,1,9,5,10,8,7,6] ?_ (w8 fun B D U G Y P J W h=>(q [] (A:=fun z=>aYe C L (R K [4]) z L B D U G Y P J W h) (fun k=>(bk 1 (lp (c8 (bJt C L _ L) B D U G Y P J W h) ?_) ?_)) ?_ ?_)) ?_)) ?_)) ?_)<;>intros<;>kernel_rfl
noncomputable def bIk (C:CF)(L:Nat)(B D:V)(h:H):O (V×H):=aAj C L h B D (fun S h=>some (S,h))
def bCq (Q:Orc)(n:Nat)(B D:V)(h:H)(q:Q 112 [B,D]=none):=(tq q Tryz.func112 (bCd _ n h _ B D) (by kernel_rfl) (by kernel_rfl):_=bIk (aA prog 2 Q n) n B D h)
noncomputable def bTt:Code:=(Tryz.f113.body).getD .skip
noncomputable def aMx (kr:K1 β):=aE (C 115 [B,D] h) fun d e=>kr d e
theorem bCc:aC prog C L 2 8 [4] (g bTt 1) [4] [] (r2 0 1 B D) h K=aMx C h B D (R K [4]):=by kernel_rfl
noncomputable def cFe (C:CF)(L:Nat)(B D:V)(h:H):O (V×H):=aMx C h B D (fun S h=>some (S,h))
def bCp (Q:Orc)(n:Nat)(B D:V)(h:H)(q:Q 113 [B,D]=none):=(tq q Tryz.func113 (bCc _ n h _ B D) (by kernel_rfl) (by kernel_rfl):_=cFe (aA prog 2 Q n) n B D h)
end Go.Proofs.YtohapjojkjjflaaGreatDoor.WzA
