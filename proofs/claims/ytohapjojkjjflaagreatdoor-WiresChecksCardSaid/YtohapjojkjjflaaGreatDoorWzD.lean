import Derived.Test.YtohapjojkjjflaaGreatDoorProg
import Derived.Test.YtohapjojkjjflaaGreatDoorRq
import Derived.Test.YtohapjojkjjflaaGreatDoorWzO
set_option linter.unusedVariables false
set_option linter.defProp false
set_option maxRecDepth 100000
namespace Go.Proofs.YtohapjojkjjflaaGreatDoor.WzD
open Tryz (prog)
open Go Go.AM Go.AM.Pk WzO
noncomputable def Z38L:List V:=[(.int .u8 0),(.bool false),(.int .u8 0),(.bool false),(.int .u16 0),(.string ⟨⟨[]⟩⟩),(.string ⟨⟨[]⟩⟩),(.int .u8 0),(.bool false),(.int .u16 0),(.string ⟨⟨[]⟩⟩),(.bool false),(.string ⟨⟨[]⟩⟩),(.string ⟨⟨[]⟩⟩),(.int .u8 0),(.bool false),(.bool false),(.bool false),(.string ⟨⟨[]⟩⟩),(.string ⟨⟨[]⟩⟩),(.bool false),(.int .u8 0),(.slice none 0 0),(.string ⟨⟨[]⟩⟩)]
noncomputable def Z38:V:=.agg ⟨Z38L⟩
noncomputable def Z51L:List V:=[(.bool false),(.slice none 0 0),(.slice none 0 0),(.int .i64 0),(.int .i64 0),(.int .u8 0),(.bool false),(.int .u8 0),(.bool false),(.int .u16 0),(.string ⟨⟨[]⟩⟩),(.string ⟨⟨[]⟩⟩),(.int .u8 0),(.bool false),(.int .u16 0),(.string ⟨⟨[]⟩⟩),(.bool false),(.string ⟨⟨[]⟩⟩),(.string ⟨⟨[]⟩⟩),(.int .u8 0),(.bool false),(.bool false),(.bool false),(.string ⟨⟨[]⟩⟩),(.string ⟨⟨[]⟩⟩),(.bool false),(.int .u8 0),(.slice none 0 0),(.string ⟨⟨[]⟩⟩),(.bool false),(.bool false),.nilFunc]
noncomputable def Z40L:List V:=[(.int .u8 0),(.int .i64 0),(.int .i64 0),(.string ⟨⟨[]⟩⟩),(.int .u8 0),(.bool false),(.int .u8 0),(.bool false),(.int .u16 0),(.string ⟨⟨[]⟩⟩),(.string ⟨⟨[]⟩⟩),(.int .u8 0),(.bool false),(.int .u16 0),(.string ⟨⟨[]⟩⟩),(.bool false),(.string ⟨⟨[]⟩⟩),(.string ⟨⟨[]⟩⟩),(.int .u8 0),(.bool false),(.bool false),(.bool false),(.string ⟨⟨[]⟩⟩),(.string ⟨⟨[]⟩⟩),(.bool false),(.int .u8 0),(.slice none 0 0),(.string ⟨⟨[]⟩⟩),(.string ⟨⟨[]⟩⟩),(.string ⟨⟨[]⟩⟩),(.int .u8 0),(.bool false),(.string ⟨⟨[]⟩⟩),(.bool false),(.int .u8 0)]
noncomputable def Z40:V:=.agg ⟨Z40L⟩
noncomputable def Z35L:List V:=[(.string ⟨⟨[]⟩⟩),(.string ⟨⟨[]⟩⟩),(.int .u8 0),(.bool false)]
noncomputable def Z35:V:=.agg ⟨Z35L⟩
noncomputable def Z84:V:=(.slice none 0 0)
noncomputable def Z3L:List V:=[(.int .i64 0)]
variable (C:CF)(L:Nat){β:Type}(h:H)(K:KK β)(B D G S x4 E W I J P U xa Y xk xc Z xb xg xh xj xi xr xs xp xl xt xu xm xo xn xv xw xx xy xz ya yb yc yd xq xe xf xd ye yf yg yh yi yj yk yl ym:V)
noncomputable def c3a:Code:=(Tryz.f3.body).getD .skip
noncomputable def aYp (kr:K1 β)(kn:K3 β):=aE (C 4 [B] h) fun c d=>iK c
 (aE (C 5 [] d) fun j k=>aP j fun l=>kr (.bool l) k)
 (bnd (A.zC G) fun o=>bI .gtr 3 o (.int .i64 3000)
 (aE (C 5 [] d) fun s t=>aP s fun u=>kr (.bool u) t)
 (kn B D G d))
noncomputable def cDi (kn:K7 β):=aE (C 6 [B,D,G] h) fun d e=>bnd (A.z 0 d) fun i=>bnd (A.z 1 d) fun j=>aP j fun k=>aE (C 7 [B,D,G] e) fun q r=>bnd (A.z 0 q) fun t=>bnd (A.z 1 q) fun u=>aP u fun v=>aE (C 8 [G] r) fun a1 b1=>bnd (A.z 0 a1) fun d1=>bnd (A.z 1 a1) fun e1=>kn G i t (.bool k) (.bool v) e1 d1 b1
noncomputable def cDd (kr:K1 β):=aE (C 9 [G] h) fun b c=>bnd (A.z 0 b) fun e=>bnd (A.z 1 b) fun f=>bI .eql 3 I P
 (aP J fun q=>aP U fun s=>bI .eql 4 (.bool q) (.bool s)
 (bI .eql 3 Y f
 (aE (C 10 [xa,e] c) fun i1 j1=>iK i1
 (aE (C 5 [] j1) fun n1 o1=>aP n1 fun p1=>kr (.bool p1) o1)
 (kr (.bool false) j1))
 (kr (.bool false) c))
 (kr (.bool false) c))
 (kr (.bool false) c)
noncomputable def p3a (kr:K1 β):=aYp C h B D G kr (fun B D G h=>cDi C h B D G (fun G I P J U Y xa h=>cDd C h G I J P U xa Y kr))
theorem cHf:aC prog C L 2 68 [6] (g c3a 1) [6] [] (r3 0 1 2 B D G) h K=p3a C h B D G (R K [6]):=by unfold p3a;refine(y 2 [0,1,2] ?_ (w3 fun B D G h=>(y 3 [2,7,9,8,10,12,11] ?_ ?_ ?_)) ?_)<;>intros<;>kernel_rfl
noncomputable def F3 (C:CF)(L:Nat)(B D G:V)(h:H):O (V×H):=p3a C h B D G (fun W h=>some (W,h))
def cKs (Q:Orc)(n:Nat)(B D G:V)(h:H)(q:Q 3 [B,D,G]=none):=(tq q Tryz.func3 (cHf _ n h _ B D G) (by kernel_rfl) (by kernel_rfl):_=F3 (aA prog 2 Q n) n B D G h)
noncomputable def c4a:Code:=(Tryz.f4.body).getD .skip
noncomputable def bHe (kr kn:K1 β):=bnd (A.zG B) fun c=>bI .gtr 3 c (.int .i64 200)
 (kr (.bool true) h)
 (kn B h)
noncomputable def cDb (kn:K2 β):=kn (.int .i64 0) B h
noncomputable def aQn (kx0:K0 β)(kn:K2 β):=bnd (A.zG B) fun c=>bI .lss 3 S c
 (kn S B h)
 (kx0 h)
noncomputable def bEq (kn:K3 β):=bnd (A.zH 35 B S) fun c=>lg 4 24 c h fun e=>aE (C 11 [e] h) fun f i=>iK f
 (kn (.bool true) S B i)
 (bnd (A.zH 35 B S) fun q=>lf 3 1 q i fun s=>bnd (A.zC s) fun t=>bI .gtr 3 t (.int .i64 300)
 (kn (.bool true) S B i)
 (bnd (A.zH 35 B S) fun c1=>bnd (A.u 28 c1) fun d1=>lf 0 1 d1 i fun f1=>bnd (A.zC f1) fun i1=>bnd (A.zH 35 B S) fun l1=>bnd (A.u 28 l1) fun m1=>lf 1 1 m1 i fun o1=>bnd (A.zC o1) fun p1=>bnd (A.zA prog .add 3 i1 p1) fun q1=>bB .gtr 3 q1 (.int .i64 300) fun s1=>kn (.bool s1) S B i))
noncomputable def bEp (kr:K1 β)(kn:K2 β):=aL xv (kr (.bool true) h) (kn S B h)
noncomputable def aLe (kr:K1 β)(kn:K2 β):=bEq C h B S (fun xv S B h=>bEp h B S xv kr kn)
theorem bMe:aC prog C L 2 46 [2] (g c4a 932) [3,0] [(1,[3,0]),(0,[])] (r2 3 0 S B) h K=aLe C h B S (R K [2]) (N K [3,0]):=by unfold aLe;refine(q [45,3,0] ?_ ?_ ?_)<;>intros<;>kernel_rfl
noncomputable def bEo (kn:K2 β):=bnd (A.zA prog .add 3 S (.int .i64 1)) fun b=>kn b B h
noncomputable def aEo (C:CF)(L:Nat){β:Type}(kr:K1 β)(kx0:K0 β):Nat→K2 β
 |0,_,_,_=>none
 |n+1,S,B,h=>aQn h B S kx0 (fun S B h=>aLe C h B S kr (fun S B h=>bEo h B S (fun S B h=>aEo C L kr kx0 n S B h)))
theorem bMo (C:CF)(L:Nat){β:Type}(K:KK β):∀n,M (fun fr h=>Lw prog C L 2 46 [2] (g c4a 116) [3,0] [(0,[])] n fr h K) [3,0]=aEo C L (R K [2]) (X K 0 []) n:=by refine lw [3,0] [3,0] (F:=fun kn S B h=>aQn h B S (X K 0 []) (fun S B h=>aLe C h B S (R K [2]) (fun S B h=>bEo h B S kn))) ?_ ?_ (fun kn=>w2 fun S B h=>(y 1 [3,0] ?_ (w2 fun S B h=>(q [3,0] (fun k=>(bk 1 (bMe C L h _ B S) ?_)) ?_ ?_)) ?_))<;>intros<;>kernel_rfl
noncomputable def aZl (kr:K1 β)(kn:K0 β):=cDb h B (fun S B h=>aEo C L kr kn L S B h)
theorem bPu:aC prog C L 2 46 [2] (g c4a 14) [] [] (r1 0 B) h K=aZl C L h B (R K [2]) (N K []):=by unfold aZl;refine(y 1 [3,0] ?_ (w2 fun S B h=>(bk 0 (lp (c2 (bMo C L _ L) S B h) ?_) ?_)) ?_)<;>intros<;>kernel_rfl
noncomputable def cDj (kr:K1 β):=kr (.bool false) h
noncomputable def p4a (kr:K1 β):=bHe h B kr (fun B h=>aZl C L h B kr (fun h=>cDj h kr))
theorem cHe:aC prog C L 2 46 [2] (g c4a 1) [2] [] (r1 0 B) h K=p4a C L h B (R K [2]):=by unfold p4a;refine(y 2 [0] ?_ (w1 fun B h=>(q [] (fun k=>(bPu C L h _ B)) ?_ ?_)) ?_)<;>intros<;>kernel_rfl
noncomputable def F4 (C:CF)(L:Nat)(B:V)(h:H):O (V×H):=p4a C L h B (fun G h=>some (G,h))
def cKr (Q:Orc)(n:Nat)(B:V)(h:H)(q:Q 4 [B]=none):=(tq q Tryz.func4 (cHe _ n h _ B) (by kernel_rfl) (by kernel_rfl):_=F4 (aA prog 2 Q n) n B h)
noncomputable def c6a:Code:=(Tryz.f6.body).getD .skip
noncomputable def cDf (kn:K3 β):=aE (C 14 [B,D] h) fun e f=>kn e G (.int .i64 0) f
noncomputable def aLb (kx0:K1 β)(kn:K3 β):=bnd (A.zC G) fun c=>bI .lss 3 W c
 (kn W J G h)
 (kx0 W h)
noncomputable def aSh (kr:K2 β)(kn:K3 β):=bnd (A.zE G (some W) none) fun c=>aE (C 15 [c] h) fun d e=>bnd (A.z 0 d) fun i=>bnd (A.z 1 d) fun j=>bnd (A.z 2 d) fun k=>aE (A.zJ 24 Z38 e) fun l m=>bnd (A.store 24 l i m) fun o=>bI .neq 45 k (.int .i64 0)
 (kr W (.bool false) o)
 (bnd (A.load true 24 l o) fun b1=>aE (C 16 [J,b1] o) fun c1 d1=>aP c1 fun e1=>iK (.bool !e1)
 (kr W (.bool false) d1)
 (nl 3 1 J d1 fun q1=>bnd (A.zA prog .add 3 q1 (.int .i64 1)) fun r1=>nf 3 J fun t1=>bnd (A.store 1 t1 r1 d1) fun v1=>bnd (A.zA prog .add 3 W j) fun z1=>kn J G z1 v1))
noncomputable def xO (C:CF)(L:Nat){β:Type}(kr:K2 β)(kx0:K1 β):Nat→K3 β
 |0,_,_,_,_=>none
 |n+1,J,G,W,h=>aLb h G W J kx0 (fun W J G h=>aSh C h G W J kr (fun J G W h=>xO C L kr kx0 n J G W h))
theorem bNi (C:CF)(L:Nat){β:Type}(K:KK β):∀n,M (fun fr h=>Lw prog C L 2 47 [6,7] (g c6a 56) [8,2,6] [(0,[6])] n fr h K) [8,2,6]=xO C L (R K [6,7]) (X K 0 [6]) n:=by refine lw [8,2,6] [8,2,6] (F:=fun kn J G W h=>aLb h G W J (X K 0 [6]) (fun W J G h=>aSh C h G W J (R K [6,7]) kn)) ?_ ?_ (fun kn=>w3 fun J G W h=>(y 1 [6,8,2] ?_ (w3 fun W J G h=>(bk 1 ?_ ?_)) ?_))<;>intros<;>kernel_rfl
noncomputable def bHf (kr:K2 β):=kr W (.bool true) h
noncomputable def p6a (kr:K2 β):=cDf C h B D G (fun J G W h=>xO C L kr (fun W h=>bHf h W kr) L J G W h)
theorem cHd:aC prog C L 2 47 [6,7] (g c6a 1) [6,7] [] (r3 0 1 2 B D G) h K=p6a C L h B D G (R K [6,7]):=by unfold p6a;refine(y 2 [8,2,6] ?_ (w3 fun J G W h=>(q [6] (A:=fun z=>xO C L (R K [6,7]) z L J G W h) (fun k=>(bk 0 (lp (c3 (bNi C L _ L) J G W h) ?_) ?_)) ?_ ?_)) ?_)<;>intros<;>kernel_rfl
noncomputable def F6 (C:CF)(L:Nat)(B D G:V)(h:H):O (V×H):=p6a C L h B D G (fun W I h=>some (.tuple ⟨[W,I]⟩,h))
def cKq (Q:Orc)(n:Nat)(B D G:V)(h:H)(q:Q 6 [B,D,G]=none):=(tq q Tryz.func6 (cHd _ n h _ B D G) (by kernel_rfl) (by kernel_rfl):_=F6 (aA prog 2 Q n) n B D G h)
noncomputable def c7a:Code:=(Tryz.f7.body).getD .skip
noncomputable def cDh (kn:K6 β):=aE (C 9 [G] h) fun d e=>bnd (A.z 0 d) fun i=>bnd (A.z 1 d) fun j=>kn (.int .i64 0) i D B j G e
noncomputable def cDc (kn:K7 β):=kn (.int .i64 0) U J D B P G h
noncomputable def aSg (kr kx0:K2 β)(kn:K7 β):=bnd (A.zG J) fun c=>bI .lss 3 xa c
 (bnd (A.zA prog .add 3 xa (.int .i64 1)) fun l=>bnd (A.zQ 24 J none (some l) none h) fun m=>aE (C 17 [B,D,m] h) fun n o=>aP n fun p=>iK (.bool !p)
 (kr U (.bool false) o)
 (bnd (A.zE G (some U) none) fun y=>aE (C 18 [y] o) fun z a1=>bnd (A.z 0 z) fun c1=>bnd (A.z 1 z) fun d1=>bnd (A.z 2 z) fun e1=>aE (A.zJ 24 Z38 a1) fun f1 i1=>bnd (A.store 24 f1 c1 i1) fun k1=>bnd (A.zA prog .add 3 U d1) fun p1=>bnd (A.zA prog .add 3 xa (.int .i64 1)) fun s1=>kn s1 p1 J D B P G k1))
 (kx0 P G h)
noncomputable def aEn (C:CF)(L:Nat){β:Type}(kr kx0:K2 β):Nat→K7 β
 |0,_,_,_,_,_,_,_,_=>none
 |n+1,xa,U,J,D,B,P,G,h=>aSg C h B D G J P U xa kr kx0 (fun xa U J D B P G h=>aEn C L kr kx0 n xa U J D B P G h)
theorem bMm (C:CF)(L:Nat){β:Type}(K:KK β):∀n,M (fun fr h=>Lw prog C L 2 51 [6,7] (g c7a 244) [11,10,8,1,0,9,2] [(0,[9,2])] n fr h K) [11,10,8,1,0,9,2]=aEn C L (R K [6,7]) (X K 0 [9,2]) n:=by refine lw [11,10,8,1,0,9,2] [11,10,8,1,0,9,2] (F:=fun kn xa U J D B P G h=>aSg C h B D G J P U xa (R K [6,7]) (X K 0 [9,2]) kn) ?_ ?_ ?_<;>intros<;>kernel_rfl
noncomputable def aZq (kr kn:K2 β):=cDc h B D G J P U (fun xa U J D B P G h=>aEn C L kr kn L xa U J D B P G h)
theorem bQh:aC prog C L 2 51 [6,7] (g c7a 30) [9,2] [] (r6 10 8 1 0 9 2 U J D B P G) h K=aZq C L h B D G J P U (R K [6,7]) (N K [9,2]):=by unfold aZq;refine(y 1 [11,10,8,1,0,9,2] ?_ (w7 fun xa U J D B P G h=>(bk 0 (lp (c7 (bMm C L _ L) xa U J D B P G h) ?_) ?_)) ?_)<;>intros<;>kernel_rfl
noncomputable def aZs (kr:K2 β):=bnd (A.zC G) fun d=>bB .eql 3 P d fun f=>kr P (.bool f) h
noncomputable def p7a (kr:K2 β):=cDh C h B D G (fun U J D B P G h=>aZq C L h B D G J P U kr (fun P G h=>aZs h G P kr))
theorem cHc:aC prog C L 2 51 [6,7] (g c7a 1) [6,7] [] (r3 0 1 2 B D G) h K=p7a C L h B D G (R K [6,7]):=by unfold p7a;refine(y 3 [10,8,1,0,9,2] ?_ (w6 fun U J D B P G h=>(q [9,2] (fun k=>(bQh C L h _ B D G J P U)) ?_ ?_)) ?_)<;>intros<;>kernel_rfl
noncomputable def F7 (C:CF)(L:Nat)(B D G:V)(h:H):O (V×H):=p7a C L h B D G (fun W I h=>some (.tuple ⟨[W,I]⟩,h))
def cKp (Q:Orc)(n:Nat)(B D G:V)(h:H)(q:Q 7 [B,D,G]=none):=(tq q Tryz.func7 (cHc _ n h _ B D G) (by kernel_rfl) (by kernel_rfl):_=F7 (aA prog 2 Q n) n B D G h)
noncomputable def c9a:Code:=(Tryz.f9.body).getD .skip
noncomputable def cDe (kn:K3 β):=kn B (.slice none 0 0) (.int .i64 0) h
noncomputable def cDk (kr:K2 β)(kn:K3 β):=bnd (A.zE B (some E) none) fun c=>aE (C 18 [c] h) fun d e=>bnd (A.z 0 d) fun i=>bnd (A.z 1 d) fun j=>bnd (A.z 2 d) fun k=>aE (A.zJ 24 Z38 e) fun l m=>bnd (A.store 24 l i m) fun o=>bI .neq 45 k (.int .i64 0)
 (kr x4 E o)
 (bnd (A.load true 24 l o) fun a1=>aE (A.zD 24 1 Z38L [(0,24,a1)] o) fun b1 c1=>aE (A.zK 24 200 x4 b1 c1) fun d1 e1=>bnd (A.zA prog .add 3 E j) fun k1=>kn B d1 k1 e1)
noncomputable def aKw (C:CF)(L:Nat){β:Type}(kr:K2 β):Nat→K3 β
 |0,_,_,_,_=>none
 |n+1,B,x4,E,h=>cDk C h B x4 E kr (fun B x4 E h=>aKw C L kr n B x4 E h)
theorem bJu (C:CF)(L:Nat){β:Type}(K:KK β):∀n,M (fun fr h=>Lw prog C L 2 28 [2,3] (g c9a 60) [0,4,5] [(0,[2,3])] n fr h K) [0,4,5]=aKw C L (R K [2,3]) n:=by refine lw [0,4,5] [0,4,5] (F:=fun kn B x4 E h=>cDk C h B x4 E (R K [2,3]) kn) ?_ ?_ ?_<;>intros<;>kernel_rfl
noncomputable def p9a (kr:K2 β):=cDe h B (fun B x4 E h=>aKw C L kr L B x4 E h)
theorem cHa:aC prog C L 2 28 [2,3] (g c9a 1) [2,3] [] (r1 0 B) h K=p9a C L h B (R K [2,3]):=by unfold p9a;refine(y 3 [0,4,5] ?_ (w3 fun B x4 E h=>(bk 0 (lp (c3 (bJu C L _ L) B x4 E h) ?_) ?_)) ?_)<;>intros<;>kernel_rfl
noncomputable def F9 (C:CF)(L:Nat)(B:V)(h:H):O (V×H):=p9a C L h B (fun G S h=>some (.tuple ⟨[G,S]⟩,h))
def cKn (Q:Orc)(n:Nat)(B:V)(h:H)(q:Q 9 [B]=none):=(tq q Tryz.func9 (cHa _ n h _ B) (by kernel_rfl) (by kernel_rfl):_=F9 (aA prog 2 Q n) n B h)
noncomputable def bIh:Code:=(Tryz.f10.body).getD .skip
noncomputable def cCx (kr:K1 β)(kn:K2 β):=bnd (A.zG B) fun c=>bnd (A.zG D) fun e=>bI .neq 3 c e
 (kr (.bool false) h)
 (kn D B h)
noncomputable def cCw (kn:K3 β):=kn (.int .i64 0) D B h
noncomputable def aYb (kr:K1 β)(kx0:K0 β)(kn:K3 β):=bnd (A.zG B) fun c=>bI .lss 3 E c
 (bnd (A.zH 24 B E) fun j=>bnd (A.load true 24 j h) fun k=>bnd (A.zH 24 D E) fun n=>bnd (A.load true 24 n h) fun o=>aE (C 19 [k,o] h) fun p q=>aP p fun r=>iK (.bool !r)
 (kr (.bool false) q)
 (bnd (A.zA prog .add 3 E (.int .i64 1)) fun w=>kn w D B q))
 (kx0 h)
noncomputable def aGo (C:CF)(L:Nat){β:Type}(kr:K1 β)(kx0:K0 β):Nat→K3 β
 |0,_,_,_,_=>none
 |n+1,E,D,B,h=>aYb C h B D E kr kx0 (fun E D B h=>aGo C L kr kx0 n E D B h)
theorem bKq (C:CF)(L:Nat){β:Type}(K:KK β):∀n,M (fun fr h=>Lw prog C L 2 27 [4] (g bIh 116) [5,1,0] [(0,[])] n fr h K) [5,1,0]=aGo C L (R K [4]) (X K 0 []) n:=by refine lw [5,1,0] [5,1,0] (F:=fun kn E D B h=>aYb C h B D E (R K [4]) (X K 0 []) kn) ?_ ?_ ?_<;>intros<;>kernel_rfl
noncomputable def aYm (kr:K1 β)(kn:K0 β):=cCw h B D (fun E D B h=>aGo C L kr kn L E D B h)
theorem bNh:aC prog C L 2 27 [4] (g bIh 14) [] [] (r2 1 0 D B) h K=aYm C L h B D (R K [4]) (N K []):=by unfold aYm;refine(y 1 [5,1,0] ?_ (w3 fun E D B h=>(bk 0 (lp (c3 (bKq C L _ L) E D B h) ?_) ?_)) ?_)<;>intros<;>kernel_rfl
noncomputable def cCv (kr:K1 β):=kr (.bool true) h
noncomputable def bAq (kr:K1 β):=cCx h B D kr (fun D B h=>aYm C L h B D kr (fun h=>cCv h kr))
theorem bTk:aC prog C L 2 27 [4] (g bIh 1) [4] [] (r2 0 1 B D) h K=bAq C L h B D (R K [4]):=by unfold bAq;refine(y 2 [1,0] ?_ (w2 fun D B h=>(q [] (fun k=>(bNh C L h _ B D)) ?_ ?_)) ?_)<;>intros<;>kernel_rfl
noncomputable def F10 (C:CF)(L:Nat)(B D:V)(h:H):O (V×H):=bAq C L h B D (fun x4 h=>some (x4,h))
def bXc (Q:Orc)(n:Nat)(B D:V)(h:H)(q:Q 10 [B,D]=none):=(tq q Tryz.func10 (bTk _ n h _ B D) (by kernel_rfl) (by kernel_rfl):_=F10 (aA prog 2 Q n) n B D h)
noncomputable def vY:Code:=(Tryz.f14.body).getD .skip
noncomputable def cCh (kn:K8 β):=bnd (A.zF Z51L []) fun b=>aE (A.zJ 32 b h) fun c d=>aE (A.yB d) fun f i=>bnd (A.zG B) fun m=>kn f D (.int .i64 (-1)) (.string ⟨⟨[]⟩⟩) m (.int .i64 0) B c i
noncomputable def cCg (kn:K11 β):=bnd (A.zG B) fun b=>kn b (.int .i64 0) W B D J I U P B E h
noncomputable def aXz (kx0:K7 β)(kn:K11 β):=bnd (A.zA prog .lss 3 xi xj) fun a=>aL a (kn xi xj W xh D J I U P B E h) (kx0 D J I U P B E h)
noncomputable def cCf (kn:K12 β):=bnd (A.zH 35 xh xi) fun a=>bnd (A.load true 35 a h) fun b=>aE (A.zJ 35 Z40 h) fun c d=>bnd (A.store 35 c b d) fun f=>kn c xi xj W xh D J I U P B E f
noncomputable def bGu (kn:K13 β):=lf 0 1 Y h fun b=>bI .eql 5 b (.int .u8 1)
 (lf 2 1 Y h fun i=>bB .eql 3 i D fun l=>kn (.bool l) Y xi xj W xh D J I U P B E h)
 (kn (.bool false) Y xi xj W xh D J I U P B E h)
noncomputable def cCe (kn:K12 β):=lf 1 1 Y h fun c=>bnd (A.zT false Z38 true c W h) fun d=>bnd (A.z 0 d) fun f=>bnd (A.z 1 d) fun i=>aP i fun j=>aE (A.zJ 24 Z38 h) fun k l=>bnd (A.store 24 k f l) fun n=>iK (.bool !j)
 (lf 1 1 Y n fun u=>lg 4 24 Y n fun w=>bnd (A.yA false u w W n) fun z=>kn Y xi xj W xh D J I U P B E z)
 (kn Y xi xj W xh D J I U P B E n)
noncomputable def aSb (kn:K12 β):=nl 0 1 E h fun d=>aP d fun e=>iK (.bool !e)
 (bnd (A.u 4 Y) fun k=>lf 0 1 k h fun m=>bI .eql 5 m (.int .u8 1)
 (nf 0 E fun s=>bnd (A.store 1 s (.bool true) h) fun u=>lf 3 1 Y u fun w=>kn Y xi xj W xh D J w U P B E u)
 (kn Y xi xj W xh D J I U P B E h))
 (kn Y xi xj W xh D J I U P B E h)
noncomputable def bGt (kn:K12 β):=kn Y xi xj W xh D J I U P B E h
noncomputable def aGx (kn:K12 β):=bGu h B D E W I J P U Y xh xj xi (fun xm Y xi xj W xh D J I U P B E h=>aL xm (cCe h B D E W I J P U Y xh xj xi (fun Y xi xj W xh D J I U P B E h=>aSb h B D E W I J P U Y xh xj xi kn)) (bGt h B D E W I J P U Y xh xj xi kn))
theorem bNr:aC prog C L 2 194 [4] (g vY 64818) [12,25,24,6,23,1,8,7,10,9,0,5] [(1,[25,24,6,23,1,8,7,10,9,0,5]),(0,[1,8,7,10,9,0,5])] (r12 12 25 24 6 23 1 8 7 10 9 0 5 Y xi xj W xh D J I U P B E) h K=aGx h B D E W I J P U Y xh xj xi (N K [12,25,24,6,23,1,8,7,10,9,0,5]):=by unfold aGx;refine(y 1 [37,12,25,24,6,23,1,8,7,10,9,0,5] ?_ (w13 fun xm Y xi xj W xh D J I U P B E h=>(cd (y 1 [12,25,24,6,23,1,8,7,10,9,0,5] ?_ ?_ ?_) ?_ ?_)) ?_)<;>intros<;>kernel_rfl
noncomputable def aXy (kn:K13 β):=lf 0 1 Y h fun b=>bI .eql 5 b (.int .u8 3)
 (lf 2 1 Y h fun i=>bB .eql 3 i D fun l=>kn (.bool l) Y xi xj W xh D J I U P B E h)
 (kn (.bool false) Y xi xj W xh D J I U P B E h)
noncomputable def aSa (kn:K11 β):=aL yb (nf 1 E fun d=>bnd (A.load false 1 d h) fun e=>lf 1 1 Y h fun j=>bnd (A.zT false Z38 false j W h) fun k=>bnd (A.load true 35 Y h) fun l=>aE (C 22 [k,l] h) fun m n=>bif (chk (bnd (A.load false 1 d n) fun v=>some v) e&&true)then
 aE (A.zK 24 200 e m n) fun o p=>nf 1 E fun r=>bnd (A.store 1 r o p) fun t=>kn xi xj W xh D J I U P B E t
 else none) (kn xi xj W xh D J I U P B E h)
noncomputable def aTc (kn:K11 β):=cCf h B D E W I J P U xh xj xi (fun Y xi xj W xh D J I U P B E h=>aGx h B D E W I J P U Y xh xj xi (fun Y xi xj W xh D J I U P B E h=>aXy h B D E W I J P U Y xh xj xi (fun yb Y xi xj W xh D J I U P B E h=>aSa C h B D E W I J P U Y xh xj xi yb kn)))
theorem bPa:aC prog C L 2 194 [4] (g vY 16204) [25,24,6,23,1,8,7,10,9,0,5] [(1,[25,24,6,23,1,8,7,10,9,0,5]),(0,[1,8,7,10,9,0,5])] (r11 25 24 6 23 1 8 7 10 9 0 5 xi xj W xh D J I U P B E) h K=aTc C h B D E W I J P U xh xj xi (N K [25,24,6,23,1,8,7,10,9,0,5]):=by unfold aTc;refine(y 1 [12,25,24,6,23,1,8,7,10,9,0,5] ?_ (w12 fun Y xi xj W xh D J I U P B E h=>(q [12,25,24,6,23,1,8,7,10,9,0,5] (fun k=>(bNr C L h _ B D E W I J P U Y xh xj xi)) (w12 fun Y xi xj W xh D J I U P B E h=>(q [76,12,25,24,6,23,1,8,7,10,9,0,5] ?_ ?_ ?_)) ?_)) ?_)<;>intros<;>kernel_rfl
noncomputable def bGs (kn:K11 β):=bnd (A.zA prog .add 3 xi (.int .i64 1)) fun a=>kn xj a W xh D J I U P B E h
noncomputable def aGm (C:CF)(L:Nat){β:Type}(kx0:K7 β):Nat→K11 β
 |0,_,_,_,_,_,_,_,_,_,_,_,_=>none
 |n+1,xj,xi,W,xh,D,J,I,U,P,B,E,h=>aXz h B D E W I J P U xh xj xi kx0 (fun xi xj W xh D J I U P B E h=>aTc C h B D E W I J P U xh xj xi (fun xi xj W xh D J I U P B E h=>bGs h B D E W I J P U xh xj xi (fun xj xi W xh D J I U P B E h=>aGm C L kx0 n xj xi W xh D J I U P B E h)))
theorem bKo (C:CF)(L:Nat){β:Type}(K:KK β):∀n,M (fun fr h=>Lw prog C L 2 194 [4] (g vY 1012) [24,25,6,23,1,8,7,10,9,0,5] [(0,[1,8,7,10,9,0,5])] n fr h K) [24,25,6,23,1,8,7,10,9,0,5]=aGm C L (X K 0 [1,8,7,10,9,0,5]) n:=by refine lw [24,25,6,23,1,8,7,10,9,0,5] [24,25,6,23,1,8,7,10,9,0,5] (F:=fun kn xj xi W xh D J I U P B E h=>aXz h B D E W I J P U xh xj xi (X K 0 [1,8,7,10,9,0,5]) (fun xi xj W xh D J I U P B E h=>aTc C h B D E W I J P U xh xj xi (fun xi xj W xh D J I U P B E h=>bGs h B D E W I J P U xh xj xi kn))) ?_ ?_ (fun kn=>w11 fun xj xi W xh D J I U P B E h=>(y 2 [25,24,6,23,1,8,7,10,9,0,5] ?_ (w11 fun xi xj W xh D J I U P B E h=>(q [25,24,6,23,1,8,7,10,9,0,5] (fun k=>(bk 1 (bPa C L h _ B D E W I J P U xh xj xi) ?_)) ?_ ?_)) ?_))<;>intros<;>kernel_rfl
noncomputable def aZn (kn:K7 β):=cCg h B D E W I J P U (fun xj xi W xh D J I U P B E h=>aGm C L kn L xj xi W xh D J I U P B E h)
theorem bPx:aC prog C L 2 194 [4] (g vY 126) [1,8,7,10,9,0,5] [] (r8 6 1 8 7 10 9 0 5 W D J I U P B E) h K=aZn C L h B D E W I J P U (N K [1,8,7,10,9,0,5]):=by unfold aZn;refine(y 1 [24,25,6,23,1,8,7,10,9,0,5] ?_ (w11 fun xj xi W xh D J I U P B E h=>(bk 0 (lp (c11 (bKo C L _ L) xj xi W xh D J I U P B E h) ?_) ?_)) ?_)<;>intros<;>kernel_rfl
noncomputable def cCd (kn:K10 β):=bnd (A.zG B) fun b=>kn b (.int .i64 0) D B J I U P B E h
noncomputable def aKu (kx2:K6 β)(kn:K10 β):=bnd (A.zA prog .lss 3 xd xf) fun a=>aL a (kn xd xf D xe J I U P B E h) (kx2 J I U P B E h)
noncomputable def aXx (kn:K12 β):=bnd (A.zH 35 xe xd) fun b=>bnd (A.load true 35 b h) fun c=>aE (A.zJ 35 Z40 h) fun d e=>bnd (A.store 35 d c e) fun j=>kn d xd xd xf D xe J I U P B E j
noncomputable def cCc (kn:K13 β):=nl 0 1 E h fun d=>aP d fun e=>iK (.bool !e)
 (kn (.bool true) xb Z xd xf D xe J I U P B E h)
 (lf 0 1 xb h fun o=>bI .neq 5 o (.int .u8 2)
 (kn (.bool true) xb Z xd xf D xe J I U P B E h)
 (lf 3 1 xb h fun v=>bB .neq 9 v I fun z=>kn (.bool z) xb Z xd xf D xe J I U P B E h))
noncomputable def cCb (kx3:K10 β)(kn:K12 β):=aL yg (kx3 xd xf D xe J I U P B E h) (kn xb Z xd xf D xe J I U P B E h)
noncomputable def aSn (kx3:K10 β)(kn:K12 β):=cCc h B D E I J P U Z xb xe xf xd (fun yg xb Z xd xf D xe J I U P B E h=>cCb h B D E I J P U Z xb xe xf xd yg kx3 kn)
theorem bLw:aC prog C L 2 194 [4] (g vY 130354) [16,15,94,93,1,92,8,7,10,9,0,5] [(3,[94,93,1,92,8,7,10,9,0,5]),(2,[8,7,10,9,0,5])] (r12 16 15 94 93 1 92 8 7 10 9 0 5 xb Z xd xf D xe J I U P B E) h K=aSn h B D E I J P U Z xb xe xf xd (X K 3 [94,93,1,92,8,7,10,9,0,5]) (N K [16,15,94,93,1,92,8,7,10,9,0,5]):=by unfold aSn;refine(y 1 [114,16,15,94,93,1,92,8,7,10,9,0,5] ?_ ?_ ?_)<;>intros<;>kernel_rfl
noncomputable def bGr (kn:K13 β):=bnd (A.u 4 xb) fun a=>lf 0 1 a h fun c=>bB .eql 5 c (.int .u8 1) fun e=>kn (.bool e) xb Z xd xf D xe J I U P B E h
noncomputable def cCa (kn:K14 β):=bI .lss 3 J (.int .i64 0)
 (iK xg
 (lf 2 1 xb h fun l=>bB .eql 3 l D fun o=>kn (.bool o) xg xb Z xd xf D xe J I U P B E h)
 (kn (.bool false) xg xb Z xd xf D xe J I U P B E h))
 (kn (.bool false) xg xb Z xd xf D xe J I U P B E h)
noncomputable def cBz (kn:K13 β):=aL yi (kn xg xb Z xd xf D xe Z I U P B E h) (kn xg xb Z xd xf D xe J I U P B E h)
noncomputable def aSm (kn:K13 β):=cCa h B D E I J P U Z xb xg xe xf xd (fun yi xg xb Z xd xf D xe J I U P B E h=>cBz h B D E I J P U Z xb xg xe xf xd yi kn)
theorem bLv:aC prog C L 2 194 [4] (g vY 521422) [17,16,15,94,93,1,92,8,7,10,9,0,5] [(3,[94,93,1,92,8,7,10,9,0,5]),(2,[8,7,10,9,0,5])] (r13 17 16 15 94 93 1 92 8 7 10 9 0 5 xg xb Z xd xf D xe J I U P B E) h K=aSm h B D E I J P U Z xb xg xe xf xd (N K [17,16,15,94,93,1,92,8,7,10,9,0,5]):=by unfold aSm;refine(y 1 [129,17,16,15,94,93,1,92,8,7,10,9,0,5] ?_ ?_ ?_)<;>intros<;>kernel_rfl
noncomputable def cBy (kn:K13 β):=iK xg
 (lf 33 1 xb h fun e=>aP e fun f=>iK (.bool !f)
 (bI .lss 3 J (.int .i64 0)
 (kn (.bool true) xb Z xd xf D xe J I U P B E h)
 (bB .eql 3 J Z fun v=>kn (.bool v) xb Z xd xf D xe J I U P B E h))
 (kn (.bool false) xb Z xd xf D xe J I U P B E h))
 (kn (.bool false) xb Z xd xf D xe J I U P B E h)
noncomputable def cBx (kn:K12 β):=aL yj (kn xb Z xd xf D xe J I U Z B E h) (kn xb Z xd xf D xe J I U P B E h)
noncomputable def aSl (kn:K12 β):=cBy h B D E I J P U Z xb xg xe xf xd (fun yj xb Z xd xf D xe J I U P B E h=>cBx h B D E I J P U Z xb xe xf xd yj kn)
theorem bLu:aC prog C L 2 194 [4] (g vY 1042846) [16,15,94,93,1,92,8,7,10,9,0,5] [(3,[94,93,1,92,8,7,10,9,0,5]),(2,[8,7,10,9,0,5])] (r13 17 16 15 94 93 1 92 8 7 10 9 0 5 xg xb Z xd xf D xe J I U P B E) h K=aSl h B D E I J P U Z xb xg xe xf xd (N K [16,15,94,93,1,92,8,7,10,9,0,5]):=by unfold aSl;refine(y 1 [145,16,15,94,93,1,92,8,7,10,9,0,5] ?_ ?_ ?_)<;>intros<;>kernel_rfl
noncomputable def bGq (kn:K12 β):=bI .geq 3 J (.int .i64 0)
 (bI .gtr 3 Z J
 (lf 2 1 xb h fun n=>bI .eql 3 n D
 (bnd (A.u 4 xb) fun t=>lf 0 1 t h fun v=>bI .eql 5 v (.int .u8 14)
 (kn (.bool true) Z xd xf D xe J I U P B E h)
 (bnd (A.u 4 xb) fun c1=>lf 0 1 c1 h fun e1=>bB .eql 5 e1 (.int .u8 0) fun i1=>kn (.bool i1) Z xd xf D xe J I U P B E h))
 (kn (.bool false) Z xd xf D xe J I U P B E h))
 (kn (.bool false) Z xd xf D xe J I U P B E h))
 (kn (.bool false) Z xd xf D xe J I U P B E h)
noncomputable def bGp (kx2:K6 β)(kn:K10 β):=aL yl (kx2 J I Z P B E h) (kn xd xf D xe J I U P B E h)
noncomputable def aHc (kx2:K6 β)(kn:K10 β):=aXx h B D E I J P U xe xf xd (fun xb Z xd xf D xe J I U P B E h=>aSn h B D E I J P U Z xb xe xf xd kn (fun xb Z xd xf D xe J I U P B E h=>bGr h B D E I J P U Z xb xe xf xd (fun xg xb Z xd xf D xe J I U P B E h=>aSm h B D E I J P U Z xb xg xe xf xd (fun xg xb Z xd xf D xe J I U P B E h=>aSl h B D E I J P U Z xb xg xe xf xd (fun xb Z xd xf D xe J I U P B E h=>bGq h B D E I J P U Z xb xe xf xd (fun yl Z xd xf D xe J I U P B E h=>bGp h B D E I J P U Z xe xf xd yl kx2 kn))))))
theorem bPr:aC prog C L 2 194 [4] (g vY 16294) [94,93,1,92,8,7,10,9,0,5] [(2,[8,7,10,9,0,5])] (r10 94 93 1 92 8 7 10 9 0 5 xd xf D xe J I U P B E) h K=aHc h B D E I J P U xe xf xd (X K 2 [8,7,10,9,0,5]) (N K [94,93,1,92,8,7,10,9,0,5]):=by unfold aHc;refine(bk 3 (y 1 [16,15,94,93,1,92,8,7,10,9,0,5] ?_ (w12 fun xb Z xd xf D xe J I U P B E h=>(q [16,15,94,93,1,92,8,7,10,9,0,5] (fun k=>(bLw C L h _ B D E I J P U Z xb xe xf xd)) (w12 fun xb Z xd xf D xe J I U P B E h=>(y 1 [17,16,15,94,93,1,92,8,7,10,9,0,5] ?_ (w13 fun xg xb Z xd xf D xe J I U P B E h=>(q [17,16,15,94,93,1,92,8,7,10,9,0,5] (fun k=>(bLv C L h _ B D E I J P U Z xb xg xe xf xd)) (w13 fun xg xb Z xd xf D xe J I U P B E h=>(q [16,15,94,93,1,92,8,7,10,9,0,5] (fun k=>(bLu C L h _ B D E I J P U Z xb xg xe xf xd)) (w12 fun xb Z xd xf D xe J I U P B E h=>(q [171,15,94,93,1,92,8,7,10,9,0,5] ?_ ?_ ?_)) ?_)) ?_)) ?_)) ?_)) ?_) ?_)<;>intros<;>kernel_rfl
noncomputable def aXw (kn:K10 β):=bnd (A.zA prog .add 3 xd (.int .i64 1)) fun a=>kn xf a D xe J I U P B E h
noncomputable def aBe (C:CF)(L:Nat){β:Type}(kx2:K6 β):Nat→K10 β
 |0,_,_,_,_,_,_,_,_,_,_,_=>none
 |n+1,xf,xd,D,xe,J,I,U,P,B,E,h=>aKu h B D E I J P U xe xf xd kx2 (fun xd xf D xe J I U P B E h=>aHc h B D E I J P U xe xf xd kx2 (fun xd xf D xe J I U P B E h=>aXw h B D E I J P U xe xf xd (fun xf xd D xe J I U P B E h=>aBe C L kx2 n xf xd D xe J I U P B E h)))
theorem bLj (C:CF)(L:Nat){β:Type}(K:KK β):∀n,M (fun fr h=>Lw prog C L 2 194 [4] (g vY 2036) [93,94,1,92,8,7,10,9,0,5] [(2,[8,7,10,9,0,5])] n fr h K) [93,94,1,92,8,7,10,9,0,5]=aBe C L (X K 2 [8,7,10,9,0,5]) n:=by refine lw [93,94,1,92,8,7,10,9,0,5] [93,94,1,92,8,7,10,9,0,5] (F:=fun kn xf xd D xe J I U P B E h=>aKu h B D E I J P U xe xf xd (X K 2 [8,7,10,9,0,5]) (fun xd xf D xe J I U P B E h=>aHc h B D E I J P U xe xf xd (X K 2 [8,7,10,9,0,5]) (fun xd xf D xe J I U P B E h=>aXw h B D E I J P U xe xf xd kn))) ?_ ?_ (fun kn=>w10 fun xf xd D xe J I U P B E h=>(y 2 [94,93,1,92,8,7,10,9,0,5] ?_ (w10 fun xd xf D xe J I U P B E h=>(q [94,93,1,92,8,7,10,9,0,5] (fun k=>(bPr C L h _ B D E I J P U xe xf xd)) ?_ ?_)) ?_))<;>intros<;>kernel_rfl
noncomputable def aZp (kn:K6 β):=cCd h B D E I J P U (fun xf xd D xe J I U P B E h=>aBe C L kn L xf xd D xe J I U P B E h)
theorem bQa:aC prog C L 2 194 [4] (g vY 254) [8,7,10,9,0,5] [] (r7 1 8 7 10 9 0 5 D J I U P B E) h K=aZp C L h B D E I J P U (N K [8,7,10,9,0,5]):=by unfold aZp;refine(y 1 [93,94,1,92,8,7,10,9,0,5] ?_ (w10 fun xf xd D xe J I U P B E h=>(bk 2 (lp (c10 (bLj C L _ L) xf xd D xe J I U P B E h) ?_) ?_)) ?_)<;>intros<;>kernel_rfl
noncomputable def aXv (kr:K1 β):=bI .geq 3 J (.int .i64 0)
 (bnd (A.zQ 35 B (some P) (some U) none h) fun j=>aE (C 23 [j,I] h) fun l m=>nf 2 E fun o=>bnd (A.store 1 o l m) fun q=>nl 2 1 E q fun v=>aE (C 24 [v] q) fun w y=>nf 31 E fun a1=>bnd (A.store 1 a1 w y) fun c1=>kr E c1)
 (nl 2 1 E h fun l1=>aE (C 24 [l1] h) fun m1 n1=>nf 31 E fun p1=>bnd (A.store 1 p1 m1 n1) fun r1=>kr E r1)
noncomputable def aTv (kr:K1 β):=cCh h B D (fun W D J I U P B E h=>aZn C L h B D E W I J P U (fun D J I U P B E h=>aZp C L h B D E I J P U (fun J I U P B E h=>aXv C h B E I J P U kr)))
theorem bTi:aC prog C L 2 194 [4] (g vY 1) [4] [] (r2 0 1 B D) h K=aTv C L h B D (R K [4]):=by unfold aTv;refine(y 5 [6,1,8,7,10,9,0,5] ?_ (w8 fun W D J I U P B E h=>(q [1,8,7,10,9,0,5] (fun k=>(bPx C L h _ B D E W I J P U)) (w7 fun D J I U P B E h=>(q [8,7,10,9,0,5] (fun k=>(bQa C L h _ B D E I J P U)) ?_ ?_)) ?_)) ?_)<;>intros<;>kernel_rfl
noncomputable def F14 (C:CF)(L:Nat)(B D:V)(h:H):O (V×H):=aTv C L h B D (fun x4 h=>some (x4,h))
def bXa (Q:Orc)(n:Nat)(B D:V)(h:H)(q:Q 14 [B,D]=none):=(tq q Tryz.func14 (bTi _ n h _ B D) (by kernel_rfl) (by kernel_rfl):_=F14 (aA prog 2 Q n) n B D h)
noncomputable def bBb:Code:=(Tryz.f16.body).getD .skip
noncomputable def aAv (kn:K2 β):=aE (A.zJ 24 D h) fun a b=>kn a B b
noncomputable def cBv (kn:K3 β):=lf 0 1 S h fun b=>kn b S B h
noncomputable def cBu (kn:K4 β):=bB .eql 5 W (.int .u8 2) fun b=>kn (.bool b) W S B h
noncomputable def cBs (kn:K3 β):=kn I S B h
noncomputable def cBt (kn:K3 β):=bB .eql 5 W (.int .u8 9) fun b=>(bif b then
 kn (.bool b) S B h
 else
 bB .eql 5 W (.int .u8 11) fun e=>(bif e then
 kn (.bool e) S B h
 else
 bB .eql 5 W (.int .u8 4) fun j=>(bif j then
 kn (.bool j) S B h
 else
 bB .eql 5 W (.int .u8 5) fun m=>kn (.bool m) S B h)))
noncomputable def aYh (kn:K3 β):=cBu h B S W (fun I W S B h=>aL I (cBs h B S I kn) (cBt h B S W kn))
theorem bMb:aC prog C L 2 44 [4] (g bBb 52) [7,3,0] [(0,[3,0])] (r3 6 3 0 W S B) h K=aYh h B S W (N K [7,3,0]):=by unfold aYh;refine(y 1 [7,6,3,0] ?_ (w4 fun I W S B h=>(cd ?_ ?_ ?_)) ?_)<;>intros<;>kernel_rfl
noncomputable def cBr (kr:K1 β)(kn:K2 β):=aL I (bnd (A.load true 24 S h) fun b=>aE (C 29 [B,b] h) fun c d=>aP c fun e=>kr (.bool e) d) (kn S B h)
noncomputable def aSw (kr:K1 β)(kn:K2 β):=cBv h B S (fun W S B h=>aYh h B S W (fun I S B h=>cBr C h B S I kr kn))
theorem bOa:aC prog C L 2 44 [4] (g bBb 6) [3,0] [] (r2 3 0 S B) h K=aSw C h B S (R K [4]) (N K [3,0]):=by unfold aSw;refine(y 1 [6,3,0] ?_ (w3 fun W S B h=>(bk 0 (q [7,3,0] (fun k=>(bMb C L h _ B S W)) ?_ ?_) ?_)) ?_)<;>intros<;>kernel_rfl
noncomputable def aFv (kr:K1 β)(kn:K2 β):=nl 29 1 B h fun d=>aP d fun e=>iK (.bool !e)
 (kr (.bool false) h)
 (nf 5 B fun o=>lf 21 1 o h fun q=>bI .gtr 5 q (.int .u8 0)
 (kr (.bool false) h)
 (kn S B h))
noncomputable def aKr (kn:K3 β):=lf 0 1 S h fun b=>kn S b B h
noncomputable def aKq (kn:K4 β):=bB .eql 5 xl (.int .u8 3) fun b=>kn (.bool b) S xl B h
noncomputable def cBp (kr:K1 β):=bnd (A.load true 24 S h) fun b=>aE (C 30 [B,b] h) fun c d=>aP c fun e=>kr (.bool e) d
noncomputable def aRx (kn:K3 β):=bB .eql 5 xl (.int .u8 6) fun b=>kn (.bool b) xl B h
noncomputable def cBq (kr:K1 β):=kr (.bool true) h
noncomputable def aXs (kr:K1 β)(kn:K0 β):=bB .eql 5 xl (.int .u8 7) fun b=>(bif b then
 (bif b then
 nf 30 B fun f=>bnd (A.store 1 f (.bool false) h) fun j=>kr (.bool true) j
 else
 kn h)
 else
 bI .eql 5 xl (.int .u8 13)
 (nf 30 B fun q=>bnd (A.store 1 q (.bool false) h) fun s=>kr (.bool true) s)
 (kn h))
noncomputable def aEy (kr:K1 β)(kn:K0 β):=aKr h B S (fun S xl B h=>aKq h B S xl (fun xt S xl B h=>aL xt (cBp C h B S kr) (aRx h B xl (fun xu xl B h=>aL xu (cBq h kr) (aXs h B xl kr kn)))))
theorem bOp:aC prog C L 2 44 [4] (g bBb 30) [] [] (r2 3 0 S B) h K=aEy C h B S (R K [4]) (N K []):=by unfold aEy;refine(y 1 [3,30,0] ?_ (w3 fun S xl B h=>(bk 1 (y 1 [31,3,30,0] ?_ (w4 fun xt S xl B h=>(cd ?_ (y 1 [36,30,0] ?_ (w3 fun xu xl B h=>(cd ?_ ?_ ?_)) ?_) ?_)) ?_) ?_)) ?_)<;>intros<;>kernel_rfl
noncomputable def cBo (kr:K1 β):=kr (.bool false) h
noncomputable def vW (kr:K1 β):=aAv h B D (fun S B h=>aSw C h B S kr (fun S B h=>aFv h B S kr (fun S B h=>aEy C h B S kr (fun h=>cBo h kr))))
theorem bTg:aC prog C L 2 44 [4] (g bBb 1) [4] [] (r2 0 1 B D) h K=vW C h B D (R K [4]):=by unfold vW;refine(y 1 [3,0] ?_ (w2 fun S B h=>(q [3,0] (fun k=>(bOa C L h _ B S)) (w2 fun S B h=>(y 1 [3,0] ?_ (w2 fun S B h=>(q [] (fun k=>(bOp C L h _ B S)) ?_ ?_)) ?_)) ?_)) ?_)<;>intros<;>kernel_rfl
noncomputable def F16 (C:CF)(L:Nat)(B D:V)(h:H):O (V×H):=vW C h B D (fun x4 h=>some (x4,h))
def bWy (Q:Orc)(n:Nat)(B D:V)(h:H)(q:Q 16 [B,D]=none):=(tq q Tryz.func16 (bTg _ n h _ B D) (by kernel_rfl) (by kernel_rfl):_=F16 (aA prog 2 Q n) n B D h)
noncomputable def rQ:Code:=(Tryz.f17.body).getD .skip
noncomputable def cBn (kn:K5 β):=bnd (A.zG G) fun d=>bnd (A.zA prog .sub 3 d (.int .i64 1)) fun e=>bnd (A.zH 24 G e) fun f=>bnd (A.load true 24 f h) fun i=>aE (A.zJ 24 Z38 h) fun j k=>bnd (A.store 24 j i k) fun m=>aE (C 31 [B,(.int .i64 0),(.int .u8 1),D,(.string ⟨⟨[1]⟩⟩),(.string ⟨⟨[]⟩⟩),(.bool false)] m) fun p q=>bB .geq 3 p (.int .i64 0) fun s=>kn (.bool s) B D G j q
noncomputable def cBm (kn:K6 β):=bnd (A.load true 24 I h) fun a=>aE (C 32 [a] h) fun b c=>aP b fun d=>kn (.bool d) J B D G I c
noncomputable def bGn (kr:K1 β)(kn:K3 β):=aP J fun b=>iK (.bool !b)
 (bnd (A.zG G) fun f=>bI .eql 3 f (.int .i64 1)
 (lf 0 1 I h fun m=>bI .eql 5 m (.int .u8 2)
 (lf 21 1 I h fun s=>bI .eql 5 s (.int .u8 1)
 (kr (.bool true) h)
 (lf 21 1 I h fun b1=>bB .eql 5 b1 (.int .u8 2) fun d1=>kr (.bool d1) h))
 (kr (.bool false) h))
 (kr (.bool false) h))
 (aE (C 33 [B,D] h) fun r1 s1=>kn (.int .i64 0) G r1 s1)
noncomputable def cBk (kn:K4 β):=kn (.int .i64 0) U G P h
noncomputable def aFu (kx0:K0 β)(kn:K4 β):=bnd (A.zG G) fun c=>bI .lss 3 xa c
 (kn U xa G P h)
 (kx0 h)
noncomputable def aRw (kx1 kn:K4 β):=bnd (A.zH 24 G xa) fun c=>bnd (A.load true 24 c h) fun d=>aE (C 32 [d] h) fun e f=>aP e fun i=>iK (.bool !i)
 (kx1 xa U G P f)
 (kn U xa G P f)
noncomputable def aXr (kr:K1 β)(kn:K4 β):=bnd (A.zG P) fun c=>bI .geq 3 U c
 (kr (.bool false) h)
 (bnd (A.zH 24 P U) fun m=>bnd (A.load true 24 m h) fun n=>bnd (A.zH 24 G xa) fun q=>bnd (A.load true 24 q h) fun r=>aE (C 19 [n,r] h) fun s t=>aP s fun u=>iK (.bool !u)
 (kr (.bool false) t)
 (bnd (A.zA prog .add 3 U (.int .i64 1)) fun b1=>kn xa b1 G P t))
noncomputable def aEq (kr:K1 β)(kn:K4 β):=aRw C h G P U xa kn (fun U xa G P h=>aXr C h G P U xa kr kn)
theorem bMv:aC prog C L 2 202 [6] (g rQ 62930) [11,10,2,9] [(0,[])] (r4 10 11 2 9 U xa G P) h K=aEq C h G P U xa (R K [6]) (N K [11,10,2,9]):=by unfold aEq;refine(bk 1 (y 1 [10,11,2,9] ?_ ?_ ?_) ?_)<;>intros<;>kernel_rfl
noncomputable def aXq (kn:K4 β):=bnd (A.zA prog .add 3 xa (.int .i64 1)) fun b=>kn b U G P h
noncomputable def xN (C:CF)(L:Nat){β:Type}(kr:K1 β)(kx0:K0 β):Nat→K4 β
 |0,_,_,_,_,_=>none
 |n+1,xa,U,G,P,h=>aFu h G P U xa kx0 (fun U xa G P h=>aEq C h G P U xa kr (fun xa U G P h=>aXq h G P U xa (fun xa U G P h=>xN C L kr kx0 n xa U G P h)))
theorem bLn (C:CF)(L:Nat){β:Type}(K:KK β):∀n,M (fun fr h=>Lw prog C L 2 202 [6] (g rQ 15732) [11,10,2,9] [(0,[])] n fr h K) [11,10,2,9]=xN C L (R K [6]) (X K 0 []) n:=by refine lw [11,10,2,9] [11,10,2,9] (F:=fun kn xa U G P h=>aFu h G P U xa (X K 0 []) (fun U xa G P h=>aEq C h G P U xa (R K [6]) (fun xa U G P h=>aXq h G P U xa kn))) ?_ ?_ (fun kn=>w4 fun xa U G P h=>(y 1 [10,11,2,9] ?_ (w4 fun U xa G P h=>(q [11,10,2,9] (fun k=>(bMv C L h _ G P U xa)) ?_ ?_)) ?_))<;>intros<;>kernel_rfl
noncomputable def aZg (kr:K1 β)(kn:K0 β):=cBk h G P U (fun xa U G P h=>xN C L kr kn L xa U G P h)
theorem bPi:aC prog C L 2 202 [6] (g rQ 1966) [] [] (r3 10 2 9 U G P) h K=aZg C L h G P U (R K [6]) (N K []):=by unfold aZg;refine(y 1 [11,10,2,9] ?_ (w4 fun xa U G P h=>(bk 0 (lp (c4 (bLn C L _ L) xa U G P h) ?_) ?_)) ?_)<;>intros<;>kernel_rfl
noncomputable def bGm (kr:K1 β):=kr (.bool true) h
noncomputable def aLq (kr:K1 β):=bGn C h B D G I J kr (fun U G P h=>aZg C L h G P U kr (fun h=>bGm h kr))
theorem bPv:aC prog C L 2 202 [6] (g rQ 122) [0,1,2,7] [] (r6 29 8 0 1 2 7 xp J B D G I) h K=aLq C L h B D G I J (R K [6]):=by unfold aLq;refine(y 3 [10,2,9] ?_ (w3 fun U G P h=>(q [] (fun k=>(bPi C L h _ G P U)) ?_ ?_)) ?_)<;>intros<;>kernel_rfl
noncomputable def cBl (kn:K4 β):=kn B D G I h
noncomputable def aZo (kr:K1 β)(kn:K4 β):=cBm C h B D G I J (fun xp J B D G I h=>aL xp (aLq C L h B D G I J kr) (cBl h B D G I kn))
theorem bPz:aC prog C L 2 202 [6] (g rQ 30) [0,1,2,7] [] (r5 8 0 1 2 7 J B D G I) h K=aZo C L h B D G I J (R K [6]) (N K [0,1,2,7]):=by unfold aZo;refine(y 1 [29,8,0,1,2,7] ?_ (w6 fun xp J B D G I h=>(cd (bPv C L h _ B D G I J xp) ?_ ?_)) ?_)<;>intros<;>kernel_rfl
noncomputable def bGl (kn:K5 β):=kn B D G (.int .i64 (-1)) I h
noncomputable def cBj (kn:K6 β):=bnd (A.zG G) fun b=>bnd (A.zA prog .sub 3 b (.int .i64 1)) fun c=>kn c B D G Y I h
noncomputable def aRv (kx2:K5 β)(kn:K6 β):=bI .geq 3 xk (.int .i64 0)
 (bnd (A.zH 24 G xk) fun f=>lf 0 1 f h fun j=>bI .eql 5 j (.int .u8 2)
 (bnd (A.zA prog .sub 3 xk (.int .i64 1)) fun p=>kn p B D G xk I h)
 (bnd (A.zA prog .sub 3 xk (.int .i64 1)) fun s=>kn s B D G Y I h))
 (kx2 B D G Y I h)
noncomputable def aEl (C:CF)(L:Nat){β:Type}(kx2:K5 β):Nat→K6 β
 |0,_,_,_,_,_,_,_=>none
 |n+1,xk,B,D,G,Y,I,h=>aRv h B D G I Y xk kx2 (fun xk B D G Y I h=>aEl C L kx2 n xk B D G Y I h)
theorem bKz (C:CF)(L:Nat){β:Type}(K:KK β):∀n,M (fun fr h=>Lw prog C L 2 202 [6] (g rQ 1012) [13,0,1,2,12,7] [(2,[0,1,2,12,7])] n fr h K) [13,0,1,2,12,7]=aEl C L (X K 2 [0,1,2,12,7]) n:=by refine lw [13,0,1,2,12,7] [13,0,1,2,12,7] (F:=fun kn xk B D G Y I h=>aRv h B D G I Y xk (X K 2 [0,1,2,12,7]) kn) ?_ ?_ ?_<;>intros<;>kernel_rfl
noncomputable def aSv (kn:K5 β):=cBj h B D G I Y (fun xk B D G Y I h=>aEl C L kn L xk B D G Y I h)
theorem bNx:aC prog C L 2 202 [6] (g rQ 126) [0,1,2,12,7] [] (r5 0 1 2 12 7 B D G Y I) h K=aSv C L h B D G I Y (N K [0,1,2,12,7]):=by unfold aSv;refine(y 1 [13,0,1,2,12,7] ?_ (w6 fun xk B D G Y I h=>(bk 2 (lp (c6 (bKz C L _ L) xk B D G Y I h) ?_) ?_)) ?_)<;>intros<;>kernel_rfl
noncomputable def aAu (kr:K1 β)(kn:K5 β):=bI .lss 3 Y (.int .i64 0)
 (kr (.bool false) h)
 (bnd (A.zH 24 G Y) fun k=>lf 21 1 k h fun m=>bI .gtr 5 m (.int .u8 0)
 (kr (.bool false) h)
 (kn B D G Y I h))
noncomputable def aFt (kr:K1 β)(kn:K5 β):=lf 0 1 I h fun b=>bI .neq 5 b (.int .u8 3)
 (lf 0 1 I h fun f=>bI .eql 5 f (.int .u8 6)
 (kr (.bool true) h)
 (lf 0 1 I h fun q=>bI .eql 5 q (.int .u8 7)
 (kr (.bool true) h)
 (lf 0 1 I h fun z=>bB .eql 5 z (.int .u8 13) fun b1=>kr (.bool b1) h)))
 (kn B D G Y I h)
noncomputable def aKp (kn:K4 β):=aE (C 34 [B,D] h) fun c d=>kn G Y I c d
noncomputable def aRu (kn:K5 β):=lf 1 1 I h fun b=>aP b fun c=>aP (.bool !c) fun e=>kn (.bool e) G Y I xc h
noncomputable def cBi (kn:K3 β):=kn G (.slice none 0 0) xc h
noncomputable def cBh (kn:K4 β):=kn (.int .i64 0) G Z xc h
noncomputable def aRt (kx4:K2 β)(kn:K4 β):=bnd (A.zG G) fun c=>bI .lss 3 xb c
 (kn xb G Z xc h)
 (kx4 Z xc h)
noncomputable def aXo (kn:K4 β):=bnd (A.zH 24 G xb) fun c=>lf 0 1 c h fun e=>bI .eql 5 e (.int .u8 3)
 (bnd (A.zH 24 G xb) fun m=>lf 1 1 m h fun o=>aP o fun p=>iK (.bool !p)
 (bnd (A.zH 24 G xb) fun w=>bnd (A.load true 24 w h) fun y=>aE (C 35 [y] h) fun z a1=>aE (A.zD 4 1 Z35L [(0,4,z)] a1) fun b1 c1=>aE (A.zK 4 40 Z b1 c1) fun d1 e1=>bnd (A.zA prog .add 3 xb (.int .i64 1)) fun j1=>kn j1 G d1 xc e1)
 (bnd (A.zA prog .add 3 xb (.int .i64 1)) fun m1=>kn m1 G Z xc h))
 (bnd (A.zA prog .add 3 xb (.int .i64 1)) fun q1=>kn q1 G Z xc h)
noncomputable def aEk (C:CF)(L:Nat){β:Type}(kx4:K2 β):Nat→K4 β
 |0,_,_,_,_,_=>none
 |n+1,xb,G,Z,xc,h=>aRt h G xc Z xb kx4 (fun xb G Z xc h=>aXo C h G xc Z xb (fun xb G Z xc h=>aEk C L kx4 n xb G Z xc h))
theorem bKy (C:CF)(L:Nat){β:Type}(K:KK β):∀n,M (fun fr h=>Lw prog C L 2 202 [6] (g rQ 261972) [16,2,15,14] [(4,[15,14])] n fr h K) [16,2,15,14]=aEk C L (X K 4 [15,14]) n:=by refine lw [16,2,15,14] [16,2,15,14] (F:=fun kn xb G Z xc h=>aRt h G xc Z xb (X K 4 [15,14]) (fun xb G Z xc h=>aXo C h G xc Z xb kn)) ?_ ?_ (fun kn=>w4 fun xb G Z xc h=>(y 1 [16,2,15,14] ?_ ?_ ?_))<;>intros<;>kernel_rfl
noncomputable def aYx (kn:K2 β):=cBh h G xc Z (fun xb G Z xc h=>aEk C L kn L xb G Z xc h)
theorem bOd:aC prog C L 2 202 [6] (g rQ 32746) [15,14] [] (r3 2 15 14 G Z xc) h K=aYx C L h G xc Z (N K [15,14]):=by unfold aYx;refine(y 1 [16,2,15,14] ?_ (w4 fun xb G Z xc h=>(bk 4 (lp (c4 (bKy C L _ L) xb G Z xc h) ?_) ?_)) ?_)<;>intros<;>kernel_rfl
noncomputable def cBg (kr:K1 β):=aE (C 36 [Z,xc] h) fun c d=>aP c fun e=>kr (.bool e) d
noncomputable def aXp (kn:K4 β):=kn G Y I xc h
noncomputable def aFb (kr:K1 β)(kn:K4 β):=aRu h G I Y xc (fun yh G Y I xc h=>aL yh (cBi h G xc (fun G Z xc h=>aYx C L h G xc Z (fun Z xc h=>cBg C h xc Z kr))) (aXp h G I Y xc kn))
theorem bPk:aC prog C L 2 202 [6] (g rQ 2046) [2,12,7,14] [] (r4 2 12 7 14 G Y I xc) h K=aFb C L h G I Y xc (R K [6]) (N K [2,12,7,14]):=by unfold aFb;refine(y 1 [128,2,12,7,14] ?_ (w5 fun yh G Y I xc h=>(cd (y 1 [2,15,14] ?_ (w3 fun G Z xc h=>(q [15,14] (fun k=>(bOd C L h _ G xc Z)) ?_ ?_)) ?_) ?_ ?_)) ?_)<;>intros<;>kernel_rfl
noncomputable def aXn (kn:K5 β):=bnd (A.zA prog .add 3 Y (.int .i64 1)) fun b=>kn b G Y I xc h
noncomputable def aXm (kx6:K4 β)(kn:K5 β):=bnd (A.zG G) fun c=>bI .lss 3 xg c
 (kn xg G Y I xc h)
 (kx6 G Y I xc h)
noncomputable def bGk (kn:K6 β):=bnd (A.zH 24 G xg) fun c=>lf 0 1 c h fun e=>bI .neq 5 e (.int .u8 6)
 (bnd (A.zH 24 G xg) fun m=>lf 0 1 m h fun o=>bI .eql 5 o (.int .u8 3)
 (bnd (A.zH 24 G xg) fun u=>lf 1 1 u h fun w=>aP w fun y=>aP (.bool !y) fun b1=>kn (.bool b1) xg G Y I xc h)
 (aP (.bool !false) fun f1=>kn (.bool f1) xg G Y I xc h))
 (kn (.bool false) xg G Y I xc h)
noncomputable def cBf (kr:K1 β)(kn:K5 β):=aL ym (kr (.bool false) h) (kn xg G Y I xc h)
noncomputable def aSq (kr:K1 β)(kn:K5 β):=bGk h G I Y xc xg (fun ym xg G Y I xc h=>cBf h G I Y xc xg ym kr kn)
theorem bMa:aC prog C L 2 202 [6] (g rQ 262052) [17,2,12,7,14] [(7,[17,2,12,7,14]),(6,[2,12,7,14])] (r5 17 2 12 7 14 xg G Y I xc) h K=aSq h G I Y xc xg (R K [6]) (N K [17,2,12,7,14]):=by unfold aSq;refine(q [189,17,2,12,7,14] ?_ ?_ ?_)<;>intros<;>kernel_rfl
noncomputable def bGj (kn:K5 β):=bnd (A.zA prog .add 3 xg (.int .i64 1)) fun b=>kn b G Y I xc h
noncomputable def aLa (C:CF)(L:Nat){β:Type}(kr:K1 β)(kx6:K4 β):Nat→K5 β
 |0,_,_,_,_,_,_=>none
 |n+1,xg,G,Y,I,xc,h=>aXm h G I Y xc xg kx6 (fun xg G Y I xc h=>aSq h G I Y xc xg kr (fun xg G Y I xc h=>bGj h G I Y xc xg (fun xg G Y I xc h=>aLa C L kr kx6 n xg G Y I xc h)))
theorem bJy (C:CF)(L:Nat){β:Type}(K:KK β):∀n,M (fun fr h=>Lw prog C L 2 202 [6] (g rQ 32756) [17,2,12,7,14] [(6,[2,12,7,14])] n fr h K) [17,2,12,7,14]=aLa C L (R K [6]) (X K 6 [2,12,7,14]) n:=by refine lw [17,2,12,7,14] [17,2,12,7,14] (F:=fun kn xg G Y I xc h=>aXm h G I Y xc xg (X K 6 [2,12,7,14]) (fun xg G Y I xc h=>aSq h G I Y xc xg (R K [6]) (fun xg G Y I xc h=>bGj h G I Y xc xg kn))) ?_ ?_ (fun kn=>w5 fun xg G Y I xc h=>(y 1 [17,2,12,7,14] ?_ (w5 fun xg G Y I xc h=>(q [17,2,12,7,14] (fun k=>(bk 7 (bMa C L h _ G I Y xc xg) ?_)) ?_ ?_)) ?_))<;>intros<;>kernel_rfl
noncomputable def aGz (kr:K1 β)(kn:K4 β):=aXn h G I Y xc (fun xg G Y I xc h=>aLa C L kr kn L xg G Y I xc h)
theorem bOx:aC prog C L 2 202 [6] (g rQ 4094) [2,12,7,14] [] (r4 2 12 7 14 G Y I xc) h K=aGz C L h G I Y xc (R K [6]) (N K [2,12,7,14]):=by unfold aGz;refine(y 1 [17,2,12,7,14] ?_ (w5 fun xg G Y I xc h=>(bk 6 (lp (c5 (bJy C L _ L) xg G Y I xc h) ?_) ?_)) ?_)<;>intros<;>kernel_rfl
noncomputable def aXl (kr:K1 β):=bnd (A.zH 24 G Y) fun c=>lf 20 1 c h fun e=>iK e
 (bnd (A.load true 24 I h) fun j=>aE (C 35 [j] h) fun k l=>aE (A.zD 4 1 Z35L [(0,4,k)] l) fun m n=>aE (C 36 [m,xc] n) fun p q=>aP p fun r=>kr (.bool r) q)
 (kr (.bool false) h)
noncomputable def aTu (kr:K1 β):=cBn C h B D G (fun J B D G I h=>aZo C L h B D G I J kr (fun B D G I h=>bGl h B D G I (fun B D G Y I h=>aSv C L h B D G I Y (fun B D G Y I h=>aAu h B D G I Y kr (fun B D G Y I h=>aFt h B D G I Y kr (fun B D G Y I h=>aKp C h B D G I Y (fun G Y I xc h=>aFb C L h G I Y xc kr (fun G Y I xc h=>aGz C L h G I Y xc kr (fun G Y I xc h=>aXl C h G I Y xc kr)))))))))
theorem bTf:aC prog C L 2 202 [6] (g rQ 1) [6] [] (r3 0 1 2 B D G) h K=aTu C L h B D G (R K [6]):=by unfold aTu;refine(y 3 [8,0,1,2,7] ?_ (w5 fun J B D G I h=>(q [0,1,2,7] (fun k=>(bPz C L h _ B D G I J)) (w4 fun B D G I h=>(q [0,1,2,12,7] ?_ (w5 fun B D G Y I h=>(q [0,1,2,12,7] (fun k=>(bNx C L h _ B D G I Y)) (w5 fun B D G Y I h=>(q [0,1,2,12,7] ?_ (w5 fun B D G Y I h=>(q [0,1,2,12,7] ?_ (w5 fun B D G Y I h=>(q [2,12,7,14] ?_ (w4 fun G Y I xc h=>(q [2,12,7,14] (fun k=>(bPk C L h _ G I Y xc)) (w4 fun G Y I xc h=>(q [2,12,7,14] (fun k=>(bOx C L h _ G I Y xc)) ?_ ?_)) ?_)) ?_)) ?_)) ?_)) ?_)) ?_)) ?_)) ?_)<;>intros<;>kernel_rfl
noncomputable def F17 (C:CF)(L:Nat)(B D G:V)(h:H):O (V×H):=aTu C L h B D G (fun W h=>some (W,h))
def bWx (Q:Orc)(n:Nat)(B D G:V)(h:H)(q:Q 17 [B,D,G]=none):=(tq q Tryz.func17 (bTf _ n h _ B D G) (by kernel_rfl) (by kernel_rfl):_=F17 (aA prog 2 Q n) n B D G h)
noncomputable def aHj:Code:=(Tryz.f19.body).getD .skip
noncomputable def cBd (kn:K2 β):=aE (A.zJ 24 B h) fun a b=>aE (A.zJ 24 D b) fun c d=>kn c a d
noncomputable def bGg (kn:K3 β):=lf 0 1 G h fun b=>lf 0 1 S h fun d=>bI .neq 5 b d
 (kn (.bool true) S G h)
 (lf 1 1 G h fun e1=>aP e1 fun f1=>lf 1 1 S h fun j1=>aP j1 fun k1=>bI .neq 4 (.bool f1) (.bool k1)
 (kn (.bool true) S G h)
 (lf 2 1 G h fun k2=>lf 2 1 S h fun m2=>bI .neq 5 k2 m2
 (kn (.bool true) S G h)
 (lf 3 1 G h fun k3=>aP k3 fun l3=>lf 3 1 S h fun n3=>aP n3 fun o3=>bI .neq 4 (.bool l3) (.bool o3)
 (kn (.bool true) S G h)
 (lf 4 1 G h fun k4=>lf 4 1 S h fun m4=>bI .neq 33 k4 m4
 (kn (.bool true) S G h)
 (lf 5 1 G h fun e5=>lf 5 1 S h fun i5=>bI .neq 9 e5 i5
 (kn (.bool true) S G h)
 (lf 6 1 G h fun y5=>lf 6 1 S h fun a6=>bI .neq 9 y5 a6
 (kn (.bool true) S G h)
 (lf 7 1 G h fun p6=>lf 7 1 S h fun r6=>bI .neq 5 p6 r6
 (kn (.bool true) S G h)
 (lf 8 1 G h fun d7=>aP d7 fun e7=>lf 8 1 S h fun i7=>aP i7 fun j7=>bI .neq 4 (.bool e7) (.bool j7)
 (kn (.bool true) S G h)
 (lf 9 1 G h fun s7=>lf 9 1 S h fun u7=>bI .neq 33 s7 u7
 (kn (.bool true) S G h)
 (lf 10 1 G h fun c8=>lf 10 1 S h fun e8=>bB .neq 9 c8 e8 fun i8=>kn (.bool i8) S G h))))))))))
noncomputable def cBc (kr:K1 β)(kn:K2 β):=aL yd (kr (.bool false) h) (kn S G h)
noncomputable def aYg (kr:K1 β)(kn:K2 β):=bGg h G S (fun yd S G h=>cBc h G S yd kr kn)
theorem bLt:aC prog C L 2 169 [4] (g aHj 6) [3,2] [] (r2 3 2 S G) h K=aYg h G S (R K [4]) (N K [3,2]):=by unfold aYg;refine(q [80,3,2] ?_ ?_ ?_)<;>intros<;>kernel_rfl
noncomputable def bGf (kn:K3 β):=lf 11 1 G h fun b=>aP b fun c=>lf 11 1 S h fun e=>aP e fun f=>bI .neq 4 (.bool c) (.bool f)
 (kn (.bool true) S G h)
 (lg 12 4 G h fun e1=>lg 12 4 S h fun i1=>bI .neq 35 e1 i1
 (kn (.bool true) S G h)
 (lf 16 1 G h fun e2=>aP e2 fun f2=>lf 16 1 S h fun j2=>aP j2 fun k2=>bI .neq 4 (.bool f2) (.bool k2)
 (kn (.bool true) S G h)
 (lf 17 1 G h fun e3=>aP e3 fun f3=>lf 17 1 S h fun j3=>aP j3 fun k3=>bI .neq 4 (.bool f3) (.bool k3)
 (kn (.bool true) S G h)
 (lf 18 1 G h fun c4=>lf 18 1 S h fun e4=>bI .neq 9 c4 e4
 (kn (.bool true) S G h)
 (lf 19 1 G h fun v4=>lf 19 1 S h fun y4=>bI .neq 9 v4 y4
 (kn (.bool true) S G h)
 (lf 20 1 G h fun n5=>aP n5 fun o5=>lf 20 1 S h fun q5=>aP q5 fun r5=>bI .neq 4 (.bool o5) (.bool r5)
 (kn (.bool true) S G h)
 (lf 21 1 G h fun d6=>lf 21 1 S h fun f6=>bI .neq 5 d6 f6
 (kn (.bool true) S G h)
 (lf 23 1 G h fun q6=>lf 23 1 S h fun s6=>bI .neq 9 q6 s6
 (kn (.bool true) S G h)
 (lf 22 1 G h fun a7=>bnd (A.zG a7) fun b7=>lf 22 1 S h fun d7=>bnd (A.zG d7) fun e7=>bB .neq 3 b7 e7 fun i7=>kn (.bool i7) S G h)))))))))
noncomputable def cBb (kr:K1 β)(kn:K2 β):=aL yk (kr (.bool false) h) (kn S G h)
noncomputable def aYf (kr:K1 β)(kn:K2 β):=bGf h G S (fun yk S G h=>cBb h G S yk kr kn)
theorem bLs:aC prog C L 2 169 [4] (g aHj 14) [3,2] [] (r2 3 2 S G) h K=aYf h G S (R K [4]) (N K [3,2]):=by unfold aYf;refine(q [150,3,2] ?_ ?_ ?_)<;>intros<;>kernel_rfl
noncomputable def cBa (kn:K3 β):=kn (.int .i64 0) S G h
noncomputable def aRq (kr:K1 β)(kx0:K0 β)(kn:K3 β):=lf 22 1 G h fun c=>bnd (A.zG c) fun d=>bI .lss 3 E d
 (lf 22 1 G h fun j=>bnd (A.zH 2 j E) fun l=>bnd (A.load true 2 l h) fun m=>lf 22 1 S h fun o=>bnd (A.zH 2 o E) fun q=>bnd (A.load true 2 q h) fun r=>bI .neq 56 m r
 (kr (.bool false) h)
 (bnd (A.zA prog .add 3 E (.int .i64 1)) fun w=>kn w S G h))
 (kx0 h)
noncomputable def aGl (C:CF)(L:Nat){β:Type}(kr:K1 β)(kx0:K0 β):Nat→K3 β
 |0,_,_,_,_=>none
 |n+1,E,S,G,h=>aRq h G S E kr kx0 (fun E S G h=>aGl C L kr kx0 n E S G h)
theorem bKn (C:CF)(L:Nat){β:Type}(K:KK β):∀n,M (fun fr h=>Lw prog C L 2 169 [4] (g aHj 244) [5,3,2] [(0,[])] n fr h K) [5,3,2]=aGl C L (R K [4]) (X K 0 []) n:=by refine lw [5,3,2] [5,3,2] (F:=fun kn E S G h=>aRq h G S E (R K [4]) (X K 0 []) kn) ?_ ?_ ?_<;>intros<;>kernel_rfl
noncomputable def aYq (kr:K1 β)(kn:K0 β):=cBa h G S (fun E S G h=>aGl C L kr kn L E S G h)
theorem bNm:aC prog C L 2 169 [4] (g aHj 30) [] [] (r2 3 2 S G) h K=aYq C L h G S (R K [4]) (N K []):=by unfold aYq;refine(y 1 [5,3,2] ?_ (w3 fun E S G h=>(bk 0 (lp (c3 (bKn C L _ L) E S G h) ?_) ?_)) ?_)<;>intros<;>kernel_rfl
noncomputable def cAz (kr:K1 β):=kr (.bool true) h
noncomputable def bAp (kr:K1 β):=cBd h B D (fun S G h=>aYg h G S kr (fun S G h=>aYf h G S kr (fun S G h=>aYq C L h G S kr (fun h=>cAz h kr))))
theorem bTd:aC prog C L 2 169 [4] (g aHj 1) [4] [] (r2 0 1 B D) h K=bAp C L h B D (R K [4]):=by unfold bAp;refine(y 1 [3,2] ?_ (w2 fun S G h=>(q [3,2] (fun k=>(bLt C L h _ G S)) (w2 fun S G h=>(q [3,2] (fun k=>(bLs C L h _ G S)) (w2 fun S G h=>(q [] (fun k=>(bNm C L h _ G S)) ?_ ?_)) ?_)) ?_)) ?_)<;>intros<;>kernel_rfl
noncomputable def F19 (C:CF)(L:Nat)(B D:V)(h:H):O (V×H):=bAp C L h B D (fun x4 h=>some (x4,h))
def bWv (Q:Orc)(n:Nat)(B D:V)(h:H)(q:Q 19 [B,D]=none):=(tq q Tryz.func19 (bTd _ n h _ B D) (by kernel_rfl) (by kernel_rfl):_=F19 (aA prog 2 Q n) n B D h)
noncomputable def cEz:Code:=(Tryz.f22.body).getD .skip
noncomputable def aEa (kn:K3 β):=aE (A.zJ 24 B h) fun a b=>aE (A.zJ 35 D b) fun c d=>lf 4 1 a d fun i=>bnd (A.zF Z38L [(4,1,i)]) fun j=>aE (A.zJ 24 Z38 d) fun k l=>bnd (A.store 24 k j l) fun n=>kn c k a n
noncomputable def aRp (kn:K4 β):=lf 0 1 G h fun b=>kn S b E G h
noncomputable def aRo (kn:K5 β):=bB .eql 5 U (.int .u8 1) fun b=>kn (.bool b) S U E G h
noncomputable def cAu (kr:K1 β):=lf 33 1 S h fun b=>aP b fun c=>bnd (A.zF Z38L [(0,1,(.int .u8 2)),(20,1,(.bool c))]) fun d=>aE (A.zD 24 1 Z38L [(0,24,d)] h) fun e f=>kr e f
noncomputable def aXj (kn:K5 β):=bB .eql 5 U (.int .u8 8) fun b=>kn (.bool b) S U E G h
noncomputable def cAv (kn:K1 β):=bnd (A.u 0 E) fun a=>bnd (A.store 1 a (.int .u8 9) h) fun c=>lf 32 1 S c fun e=>bnd (A.u 23 E) fun f=>bnd (A.store 1 f e c) fun j=>kn E j
noncomputable def bGe (kn:K4 β):=bB .eql 5 U (.int .u8 10) fun b=>kn (.bool b) U E G h
noncomputable def cAw (kn:K1 β):=bnd (A.u 0 E) fun a=>bnd (A.store 1 a (.int .u8 11) h) fun c=>kn E c
noncomputable def cAy (kn:K3 β):=bB .eql 5 U (.int .u8 3) fun b=>kn (.bool b) E G h
noncomputable def aRn (kr kn:K1 β):=lf 2 1 G h fun b=>bI .neq 5 b (.int .u8 1)
 (lf 2 1 G h fun i=>bI .neq 5 i (.int .u8 2)
 (kr (.slice none 0 0) h)
 (lf 2 1 G h fun o=>bnd (A.zA prog .add 5 (.int .u8 4) o) fun p=>bnd (A.zA prog .sub 5 p (.int .u8 1)) fun q=>bnd (A.u 0 E) fun r=>bnd (A.store 1 r q h) fun t=>kn E t))
 (lf 2 1 G h fun w=>bnd (A.zA prog .add 5 (.int .u8 4) w) fun y=>bnd (A.zA prog .sub 5 y (.int .u8 1)) fun z=>bnd (A.u 0 E) fun a1=>bnd (A.store 1 a1 z h) fun c1=>kn E c1)
noncomputable def cAx (kr:K1 β):=kr (.slice none 0 0) h
noncomputable def aEz (kr kn:K1 β):=aRp h G S E (fun S U E G h=>aRo h G S E U (fun xa S U E G h=>aL xa (cAu h S kr) (aXj h G S E U (fun xg S U E G h=>aL xg (cAv h S E kn) (bGe h G E U (fun xh U E G h=>aL xh (cAw h E kn) (cAy h G E U (fun xr E G h=>aL xr (aRn h G E kr kn) (cAx h kr)))))))))
theorem bPd:aC prog C L 2 43 [4] (g cEz 14) [5] [] (r3 3 5 2 S E G) h K=aEz h G S E (R K [4]) (N K [5]):=by unfold aEz;refine(y 1 [3,10,5,2] ?_ (w4 fun S U E G h=>(bk 0 (y 1 [11,3,10,5,2] ?_ (w5 fun xa S U E G h=>(cd ?_ (y 1 [17,3,10,5,2] ?_ (w5 fun xg S U E G h=>(cd ?_ (y 1 [23,10,5,2] ?_ (w4 fun xh U E G h=>(cd ?_ (y 1 [26,5,2] ?_ (w3 fun xr E G h=>(cd ?_ ?_ ?_)) ?_) ?_)) ?_) ?_)) ?_) ?_)) ?_) ?_)) ?_)<;>intros<;>kernel_rfl
noncomputable def bGd (kr:K1 β):=bnd (A.load true 24 E h) fun a=>aE (A.zD 24 1 Z38L [(0,24,a)] h) fun b c=>kr b c
noncomputable def xT (kr:K1 β):=aEa h B D (fun S E G h=>aEz h G S E kr (fun E h=>bGd h E kr))
theorem bTc:aC prog C L 2 43 [4] (g cEz 1) [4] [] (r2 0 1 B D) h K=xT h B D (R K [4]):=by unfold xT;refine(y 2 [3,5,2] ?_ (w3 fun S E G h=>(q [5] (fun k=>(bPd C L h _ G S E)) ?_ ?_)) ?_)<;>intros<;>kernel_rfl
noncomputable def F22 (C:CF)(L:Nat)(B D:V)(h:H):O (V×H):=xT h B D (fun x4 h=>some (x4,h))
def bWu (Q:Orc)(n:Nat)(B D:V)(h:H)(q:Q 22 [B,D]=none):=(tq q Tryz.func22 (bTc _ n h _ B D) (by kernel_rfl) (by kernel_rfl):_=F22 (aA prog 2 Q n) n B D h)
noncomputable def bBa:Code:=(Tryz.f23.body).getD .skip
noncomputable def cAt (kn:K3 β):=kn B D (.slice none 0 0) h
noncomputable def cAs (kn:K5 β):=bnd (A.zG B) fun b=>kn b (.int .i64 0) D B E h
noncomputable def aRm (kx0:K1 β)(kn:K5 β):=bnd (A.zA prog .lss 3 U P) fun a=>aL a (kn U P D J E h) (kx0 E h)
noncomputable def bGc (kn:K6 β):=bnd (A.zH 35 J U) fun a=>bnd (A.load true 35 a h) fun b=>aE (A.zJ 35 Z40 h) fun c d=>bnd (A.store 35 c b d) fun f=>kn c U P D J E f
noncomputable def bGb (kn:K7 β):=lf 3 1 I h fun b=>bI .eql 9 b D
 (lf 0 1 I h fun j=>bI .eql 5 j (.int .u8 6)
 (kn (.bool true) I U P D J E h)
 (lf 0 1 I h fun q=>bB .eql 5 q (.int .u8 8) fun s=>kn (.bool s) I U P D J E h))
 (kn (.bool false) I U P D J E h)
noncomputable def bGa (kn:K5 β):=aL xs (lg 28 4 I h fun c=>aE (A.zD 4 1 Z35L [(0,4,c)] h) fun d e=>aE (A.zK 4 40 E d e) fun f i=>kn U P D J f i) (kn U P D J E h)
noncomputable def aLk (kn:K5 β):=bGc h D E J P U (fun I U P D J E h=>bGb h D E I J P U (fun xs I U P D J E h=>bGa h D E I J P U xs kn))
theorem bMq:aC prog C L 2 35 [4] (g bBa 1868) [10,9,1,8,5] [(1,[10,9,1,8,5]),(0,[5])] (r5 10 9 1 8 5 U P D J E) h K=aLk h D E J P U (N K [10,9,1,8,5]):=by unfold aLk;refine(y 1 [7,10,9,1,8,5] ?_ (w6 fun I U P D J E h=>(q [27,7,10,9,1,8,5] ?_ ?_ ?_)) ?_)<;>intros<;>kernel_rfl
noncomputable def aXi (kn:K5 β):=bnd (A.zA prog .add 3 U (.int .i64 1)) fun a=>kn P a D J E h
noncomputable def aGk (C:CF)(L:Nat){β:Type}(kx0:K1 β):Nat→K5 β
 |0,_,_,_,_,_,_=>none
 |n+1,P,U,D,J,E,h=>aRm h D E J P U kx0 (fun U P D J E h=>aLk h D E J P U (fun U P D J E h=>aXi h D E J P U (fun P U D J E h=>aGk C L kx0 n P U D J E h)))
theorem bKm (C:CF)(L:Nat){β:Type}(K:KK β):∀n,M (fun fr h=>Lw prog C L 2 35 [4] (g bBa 116) [9,10,1,8,5] [(0,[5])] n fr h K) [9,10,1,8,5]=aGk C L (X K 0 [5]) n:=by refine lw [9,10,1,8,5] [9,10,1,8,5] (F:=fun kn P U D J E h=>aRm h D E J P U (X K 0 [5]) (fun U P D J E h=>aLk h D E J P U (fun U P D J E h=>aXi h D E J P U kn))) ?_ ?_ (fun kn=>w5 fun P U D J E h=>(y 2 [10,9,1,8,5] ?_ (w5 fun U P D J E h=>(q [10,9,1,8,5] (fun k=>(bk 1 (bMq C L h _ D E J P U) ?_)) ?_ ?_)) ?_))<;>intros<;>kernel_rfl
noncomputable def aZe (kn:K1 β):=cAs h B D E (fun P U D J E h=>aGk C L kn L P U D J E h)
theorem bPc:aC prog C L 2 35 [4] (g bBa 14) [5] [] (r3 0 1 5 B D E) h K=aZe C L h B D E (N K [5]):=by unfold aZe;refine(y 1 [9,10,1,8,5] ?_ (w5 fun P U D J E h=>(bk 0 (lp (c5 (bKm C L _ L) P U D J E h) ?_) ?_)) ?_)<;>intros<;>kernel_rfl
noncomputable def cAr (kr:K1 β):=kr E h
noncomputable def bAo (kr:K1 β):=cAt h B D (fun B D E h=>aZe C L h B D E (fun E h=>cAr h E kr))
theorem bTb:aC prog C L 2 35 [4] (g bBa 1) [4] [] (r2 0 1 B D) h K=bAo C L h B D (R K [4]):=by unfold bAo;refine(y 2 [0,1,5] ?_ (w3 fun B D E h=>(q [5] (fun k=>(bPc C L h _ B D E)) ?_ ?_)) ?_)<;>intros<;>kernel_rfl
noncomputable def F23 (C:CF)(L:Nat)(B D:V)(h:H):O (V×H):=bAo C L h B D (fun x4 h=>some (x4,h))
def bWt (Q:Orc)(n:Nat)(B D:V)(h:H)(q:Q 23 [B,D]=none):=(tq q Tryz.func23 (bTb _ n h _ B D) (by kernel_rfl) (by kernel_rfl):_=F23 (aA prog 2 Q n) n B D h)
noncomputable def bIf:Code:=(Tryz.f24.body).getD .skip
noncomputable def cAq (kn:K2 β):=aE (A.zJ 1 B h) fun a b=>aE (A.zJ 1 Z84 b) fun d e=>kn a d e
noncomputable def cAp (kn:K4 β):=bnd (A.load false 1 D h) fun a=>bnd (A.zG a) fun b=>kn b (.int .i64 0) D S h
noncomputable def aXh (kx0:K2 β)(kn:K4 β):=bnd (A.zA prog .lss 3 I W) fun a=>aL a (bnd (A.load false 1 S h) fun d=>aE (A.zD 1 1 Z3L [(0,1,I)] h) fun f i=>aE (A.zK 1 8 d f i) fun j k=>bnd (A.store 1 S j k) fun m=>bnd (A.zA prog .add 3 I (.int .i64 1)) fun n=>kn W n D S m) (kx0 D S h)
noncomputable def aGj (C:CF)(L:Nat){β:Type}(kx0:K2 β):Nat→K4 β
 |0,_,_,_,_,_=>none
 |n+1,W,I,D,S,h=>aXh h D S W I kx0 (fun W I D S h=>aGj C L kx0 n W I D S h)
theorem bKl (C:CF)(L:Nat){β:Type}(K:KK β):∀n,M (fun fr h=>Lw prog C L 2 16 [2] (g bIf 116) [6,7,1,3] [(0,[1,3])] n fr h K) [6,7,1,3]=aGj C L (X K 0 [1,3]) n:=by refine lw [6,7,1,3] [6,7,1,3] (F:=fun kn W I D S h=>aXh h D S W I (X K 0 [1,3]) kn) ?_ ?_ ?_<;>intros<;>kernel_rfl
noncomputable def aYk (kn:K2 β):=cAp h D S (fun W I D S h=>aGj C L kn L W I D S h)
theorem bNf:aC prog C L 2 16 [2] (g bIf 14) [1,3] [] (r2 1 3 D S) h K=aYk C L h D S (N K [1,3]):=by unfold aYk;refine(y 1 [6,7,1,3] ?_ (w4 fun W I D S h=>(bk 0 (lp (c4 (bKl C L _ L) W I D S h) ?_) ?_)) ?_)<;>intros<;>kernel_rfl
noncomputable def cAo (kr:K1 β):=kr (.func (.func 43) ⟨[]⟩ ⟨[S,D]⟩) h
noncomputable def bAn (kr:K1 β):=cAq h B (fun D S h=>aYk C L h D S (fun D S h=>cAo h D S kr))
theorem bTa:aC prog C L 2 16 [2] (g bIf 1) [2] [] (r1 0 B) h K=bAn C L h B (R K [2]):=by unfold bAn;refine(y 2 [1,3] ?_ (w2 fun D S h=>(q [1,3] (fun k=>(bNf C L h _ D S)) ?_ ?_)) ?_)<;>intros<;>kernel_rfl
noncomputable def F24 (C:CF)(L:Nat)(B:V)(h:H):O (V×H):=bAn C L h B (fun G h=>some (G,h))
def bWs (Q:Orc)(n:Nat)(B:V)(h:H)(q:Q 24 [B]=none):=(tq q Tryz.func24 (bTa _ n h _ B) (by kernel_rfl) (by kernel_rfl):_=F24 (aA prog 2 Q n) n B h)
noncomputable def cEx:Code:=(Tryz.f29.body).getD .skip
noncomputable def aXg (kn:K2 β):=aE (A.zJ 24 D h) fun a b=>kn a B b
noncomputable def aXf (kn:K3 β):=nl 0 1 B h fun d=>aP d fun e=>aP (.bool !e) fun i=>kn (.bool i) S B h
noncomputable def cAl (kn:K3 β):=nl 3 1 B h fun d=>bI .gtr 3 d (.int .i64 0)
 (kn (.bool true) S B h)
 (lf 0 1 S h fun n=>bI .neq 5 n (.int .u8 2)
 (kn (.bool true) S B h)
 (lf 21 1 S h fun u=>bI .neq 5 u (.int .u8 1)
 (lf 21 1 S h fun a1=>bB .neq 5 a1 (.int .u8 2) fun c1=>kn (.bool c1) S B h)
 (kn (.bool false) S B h)))
noncomputable def cAk (kr:K1 β)(kn:K2 β):=aL xp (kr (.bool false) h) (kn S B h)
noncomputable def bFv (kn:K3 β):=nl 4 1 B h fun d=>nl 1 1 B h fun j=>bnd (A.zG j) fun k=>bI .geq 3 d k
 (kn (.bool true) S B h)
 (nl 1 1 B h fun s=>nl 4 1 B h fun w=>bnd (A.zH 24 s w) fun y=>bnd (A.load true 24 y h) fun z=>bnd (A.load true 24 S h) fun a1=>aE (C 51 [z,a1] h) fun b1 c1=>aP b1 fun d1=>aP (.bool !d1) fun f1=>kn (.bool f1) S B c1)
noncomputable def bFu (kr:K1 β)(kn:K2 β):=aL xx (kr (.bool false) h) (kn S B h)
noncomputable def aGy (kr:K1 β)(kn:K2 β):=aXf h B S (fun P S B h=>aL P (cAl h B S (fun xp S B h=>cAk h B S xp kr kn)) (bFv C h B S (fun xx S B h=>bFu h B S xx kr kn)))
theorem bNz:aC prog C L 2 87 [4] (g cEx 6) [3,0] [] (r2 3 0 S B) h K=aGy C h B S (R K [4]) (N K [3,0]):=by unfold aGy;refine(y 1 [9,3,0] ?_ (w3 fun P S B h=>(cd (y 1 [29,3,0] ?_ ?_ ?_) (y 1 [54,3,0] ?_ ?_ ?_) ?_)) ?_)<;>intros<;>kernel_rfl
noncomputable def bFt (kr:K1 β):=nl 4 1 B h fun d=>bnd (A.zA prog .add 3 d (.int .i64 1)) fun e=>nf 4 B fun i=>bnd (A.store 1 i e h) fun k=>nf 30 B fun n=>bnd (A.store 1 n (.bool false) k) fun p=>lf 0 1 S p fun r=>bI .eql 5 r (.int .u8 2)
 (nl 29 1 B p fun z=>aP z fun a1=>iK (.bool !a1)
 (nf 29 B fun i1=>bnd (A.store 1 i1 (.bool true) p) fun k1=>bnd (A.load true 24 S k1) fun m1=>nf 5 B fun o1=>bnd (A.store 24 o1 m1 k1) fun q1=>lf 20 1 S q1 fun t1=>aP t1 fun u1=>nf 30 B fun w1=>bnd (A.store 1 w1 (.bool u1) q1) fun z1=>kr (.bool true) z1)
 (kr (.bool true) p))
 (kr (.bool true) p)
noncomputable def aMg (kr:K1 β):=aXg h B D (fun S B h=>aGy C h B S kr (fun S B h=>bFt h B S kr))
theorem bSw:aC prog C L 2 87 [4] (g cEx 1) [4] [] (r2 0 1 B D) h K=aMg C h B D (R K [4]):=by unfold aMg;refine(y 1 [3,0] ?_ (w2 fun S B h=>(q [3,0] (fun k=>(bNz C L h _ B S)) ?_ ?_)) ?_)<;>intros<;>kernel_rfl
noncomputable def F29 (C:CF)(L:Nat)(B D:V)(h:H):O (V×H):=aMg C h B D (fun x4 h=>some (x4,h))
def bWo (Q:Orc)(n:Nat)(B D:V)(h:H)(q:Q 29 [B,D]=none):=(tq q Tryz.func29 (bSw _ n h _ B D) (by kernel_rfl) (by kernel_rfl):_=F29 (aA prog 2 Q n) n B D h)
noncomputable def bIe:Code:=(Tryz.f30.body).getD .skip
noncomputable def aXe (kn:K3 β):=aE (A.zJ 24 D h) fun a b=>lf 5 1 a b fun e=>lf 6 1 a b fun i=>lf 2 1 a b fun k=>lf 3 1 a b fun m=>aP m fun n=>bnd (A.zF Z35L [(0,1,e),(1,1,i),(2,1,k),(3,1,(.bool n))]) fun o=>aE (A.zJ 4 Z35 b) fun p q=>bnd (A.store 4 p o q) fun s=>kn a B p s
noncomputable def aXd (kr:K1 β)(kn:K2 β):=lf 1 1 S h fun b=>aP b fun c=>iK (.bool !c)
 (nf 30 B fun j=>bnd (A.store 1 j (.bool false) h) fun l=>nl 31 1 B l fun p=>bnd (A.load true 4 E l) fun q=>aE (aAk prog C p [q] l) fun r s=>aP r fun t=>kr (.bool t) s)
 (kn B E h)
noncomputable def bFs (kr:K1 β)(kn:K2 β):=nl 30 1 B h fun d=>aP d fun e=>iK (.bool !e)
 (kr (.bool false) h)
 (kn B E h)
noncomputable def cAj (kn:K4 β):=nl 2 1 B h fun d=>bnd (A.zG d) fun e=>kn e (.int .i64 0) E d h
noncomputable def aRi (kr:K1 β)(kx0:K0 β)(kn:K4 β):=bnd (A.zA prog .lss 3 xn xo) fun a=>aL a (bnd (A.zH 4 xm xn) fun b=>bnd (A.load true 4 b h) fun c=>aE (A.zJ 4 Z35 h) fun d e=>bnd (A.store 4 d c e) fun i=>bnd (A.load true 4 d i) fun j=>bnd (A.load true 4 E i) fun k=>bI .eql 35 j k
 (kr (.bool true) i)
 (bnd (A.zA prog .add 3 xn (.int .i64 1)) fun o=>kn xo o E xm i)) (kx0 h)
noncomputable def aBd (C:CF)(L:Nat){β:Type}(kr:K1 β)(kx0:K0 β):Nat→K4 β
 |0,_,_,_,_,_=>none
 |n+1,xo,xn,E,xm,h=>aRi h E xm xo xn kr kx0 (fun xo xn E xm h=>aBd C L kr kx0 n xo xn E xm h)
theorem bLi (C:CF)(L:Nat){β:Type}(K:KK β):∀n,M (fun fr h=>Lw prog C L 2 47 [4] (g bIe 500) [38,39,5,37] [(0,[])] n fr h K) [38,39,5,37]=aBd C L (R K [4]) (X K 0 []) n:=by refine lw [38,39,5,37] [38,39,5,37] (F:=fun kn xo xn E xm h=>aRi h E xm xo xn (R K [4]) (X K 0 []) kn) ?_ ?_ ?_<;>intros<;>kernel_rfl
noncomputable def aYu (kr:K1 β)(kn:K0 β):=cAj h B E (fun xo xn E xm h=>aBd C L kr kn L xo xn E xm h)
theorem bNw:aC prog C L 2 47 [4] (g bIe 62) [] [] (r2 0 5 B E) h K=aYu C L h B E (R K [4]) (N K []):=by unfold aYu;refine(y 1 [38,39,5,37] ?_ (w4 fun xo xn E xm h=>(bk 0 (lp (c4 (bLi C L _ L) xo xn E xm h) ?_) ?_)) ?_)<;>intros<;>kernel_rfl
noncomputable def cAi (kr:K1 β):=kr (.bool false) h
noncomputable def aMf (kr:K1 β):=aXe h B D (fun S B E h=>aXd C h B S E kr (fun B E h=>bFs h B E kr (fun B E h=>aYu C L h B E kr (fun h=>cAi h kr))))
theorem bSv:aC prog C L 2 47 [4] (g bIe 1) [4] [] (r2 0 1 B D) h K=aMf C L h B D (R K [4]):=by unfold aMf;refine(y 2 [3,0,5] ?_ (w3 fun S B E h=>(y 1 [0,5] ?_ (w2 fun B E h=>(y 1 [0,5] ?_ (w2 fun B E h=>(q [] (fun k=>(bNw C L h _ B E)) ?_ ?_)) ?_)) ?_)) ?_)<;>intros<;>kernel_rfl
noncomputable def F30 (C:CF)(L:Nat)(B D:V)(h:H):O (V×H):=aMf C L h B D (fun x4 h=>some (x4,h))
def bWn (Q:Orc)(n:Nat)(B D:V)(h:H)(q:Q 30 [B,D]=none):=(tq q Tryz.func30 (bSv _ n h _ B D) (by kernel_rfl) (by kernel_rfl):_=F30 (aA prog 2 Q n) n B D h)
noncomputable def aMr:Code:=(Tryz.f31.body).getD .skip
noncomputable def cAh (kn:K7 β):=kn D x4 B E W S G h
noncomputable def cAg (kn:K7 β):=kn D x4 B E W S G h
noncomputable def aXc (kx0:K0 β)(kn:K7 β):=bnd (A.zG B) fun c=>bI .lss 3 Z c
 (kn Z x4 B E W S G h)
 (kx0 h)
noncomputable def cAf (kn:K8 β):=bnd (A.zH 35 B Z) fun c=>lf 0 1 c h fun e=>bI .neq 5 e G
 (kn (.bool true) Z x4 B E W S G h)
 (bnd (A.zH 35 B Z) fun q=>lf 2 1 q h fun s=>bI .neq 3 s S
 (kn (.bool true) Z x4 B E W S G h)
 (iK W
 (bnd (A.zH 35 B Z) fun f1=>lf 3 1 f1 h fun j1=>bB .neq 9 j1 E fun m1=>kn (.bool m1) Z x4 B E W S G h)
 (kn (.bool false) Z x4 B E W S G h)))
noncomputable def cAe (kx1 kn:K7 β):=aL xw (kx1 Z x4 B E W S G h) (kn Z x4 B E W S G h)
noncomputable def aSk (kx1 kn:K7 β):=cAf h B G S x4 E W Z (fun xw Z x4 B E W S G h=>cAe h B G S x4 E W Z xw kx1 kn)
theorem bLr:aC prog C L 2 69 [14] (g aMr 840) [15,4,0,5,6,3,2] [(1,[15,4,0,5,6,3,2]),(0,[])] (r7 15 4 0 5 6 3 2 Z x4 B E W S G) h K=aSk h B G S x4 E W Z (X K 1 [15,4,0,5,6,3,2]) (N K [15,4,0,5,6,3,2]):=by unfold aSk;refine(y 1 [51,15,4,0,5,6,3,2] ?_ ?_ ?_)<;>intros<;>kernel_rfl
noncomputable def cAd (kn:K8 β):=kn (.int .i64 0) Z x4 B E W S G h
noncomputable def aRh (kr:K1 β)(kx2:K7 β)(kn:K8 β):=bnd (A.zC x4) fun c=>bI .lss 3 xb c
 (bnd (A.zB x4 xb) fun j=>bnd (A.zH 35 B Z) fun m=>bnd (A.u 4 m) fun n=>lf 0 1 n h fun p=>bI .eql 5 j p
 (kr Z h)
 (bnd (A.zA prog .add 3 xb (.int .i64 1)) fun v=>kn v Z x4 B E W S G h))
 (kx2 Z x4 B E W S G h)
noncomputable def aEj (C:CF)(L:Nat){β:Type}(kr:K1 β)(kx2:K7 β):Nat→K8 β
 |0,_,_,_,_,_,_,_,_,_=>none
 |n+1,xb,Z,x4,B,E,W,S,G,h=>aRh h B G S x4 E W Z xb kr kx2 (fun xb Z x4 B E W S G h=>aEj C L kr kx2 n xb Z x4 B E W S G h)
theorem bKx (C:CF)(L:Nat){β:Type}(K:KK β):∀n,M (fun fr h=>Lw prog C L 2 69 [14] (g aMr 6732) [16,15,4,0,5,6,3,2] [(2,[15,4,0,5,6,3,2]),(1,[15,4,0,5,6,3,2]),(0,[])] n fr h K) [16,15,4,0,5,6,3,2]=aEj C L (R K [14]) (X K 2 [15,4,0,5,6,3,2]) n:=by refine lw [16,15,4,0,5,6,3,2] [16,15,4,0,5,6,3,2] (F:=fun kn xb Z x4 B E W S G h=>aRh h B G S x4 E W Z xb (R K [14]) (X K 2 [15,4,0,5,6,3,2]) kn) ?_ ?_ ?_<;>intros<;>kernel_rfl
noncomputable def aTa (kr:K1 β)(kn:K7 β):=aSk h B G S x4 E W Z kn (fun Z x4 B E W S G h=>cAd h B G S x4 E W Z (fun xb Z x4 B E W S G h=>aEj C L kr kn L xb Z x4 B E W S G h))
theorem bOo:aC prog C L 2 69 [14] (g aMr 210) [15,4,0,5,6,3,2] [(0,[])] (r7 15 4 0 5 6 3 2 Z x4 B E W S G) h K=aTa C L h B G S x4 E W Z (R K [14]) (N K [15,4,0,5,6,3,2]):=by unfold aTa;refine(bk 1 (q [15,4,0,5,6,3,2] (fun k=>(bLr C L h _ B G S x4 E W Z)) (w7 fun Z x4 B E W S G h=>(y 1 [16,15,4,0,5,6,3,2] ?_ (w8 fun xb Z x4 B E W S G h=>(bk 2 (lp (c8 (bKx C L _ L) xb Z x4 B E W S G h) ?_) ?_)) ?_)) ?_) ?_)<;>intros<;>kernel_rfl
noncomputable def bFr (kn:K7 β):=bnd (A.zA prog .add 3 Z (.int .i64 1)) fun b=>kn b x4 B E W S G h
noncomputable def aKz (C:CF)(L:Nat){β:Type}(kr:K1 β)(kx0:K0 β):Nat→K7 β
 |0,_,_,_,_,_,_,_,_=>none
 |n+1,Z,x4,B,E,W,S,G,h=>aXc h B G S x4 E W Z kx0 (fun Z x4 B E W S G h=>aTa C L h B G S x4 E W Z kr (fun Z x4 B E W S G h=>bFr h B G S x4 E W Z (fun Z x4 B E W S G h=>aKz C L kr kx0 n Z x4 B E W S G h)))
theorem bJx (C:CF)(L:Nat){β:Type}(K:KK β):∀n,M (fun fr h=>Lw prog C L 2 69 [14] (g aMr 52) [15,4,0,5,6,3,2] [(0,[])] n fr h K) [15,4,0,5,6,3,2]=aKz C L (R K [14]) (X K 0 []) n:=by refine lw [15,4,0,5,6,3,2] [15,4,0,5,6,3,2] (F:=fun kn Z x4 B E W S G h=>aXc h B G S x4 E W Z (X K 0 []) (fun Z x4 B E W S G h=>aTa C L h B G S x4 E W Z (R K [14]) (fun Z x4 B E W S G h=>bFr h B G S x4 E W Z kn))) ?_ ?_ (fun kn=>w7 fun Z x4 B E W S G h=>(y 1 [15,4,0,5,6,3,2] ?_ (w7 fun Z x4 B E W S G h=>(q [15,4,0,5,6,3,2] (fun k=>(bOo C L h _ B G S x4 E W Z)) ?_ ?_)) ?_))<;>intros<;>kernel_rfl
noncomputable def aZk (kr:K1 β)(kn:K0 β):=cAg h B D G S x4 E W (fun Z x4 B E W S G h=>aKz C L kr kn L Z x4 B E W S G h)
theorem bPt:aC prog C L 2 69 [14] (g aMr 6) [] [] (r7 1 4 0 5 6 3 2 D x4 B E W S G) h K=aZk C L h B D G S x4 E W (R K [14]) (N K []):=by unfold aZk;refine(y 1 [15,4,0,5,6,3,2] ?_ (w7 fun Z x4 B E W S G h=>(bk 0 (lp (c7 (bJx C L _ L) Z x4 B E W S G h) ?_) ?_)) ?_)<;>intros<;>kernel_rfl
noncomputable def cAc (kr:K1 β):=kr (.int .i64 (-1)) h
noncomputable def bAk (kr:K1 β):=cAh h B D G S x4 E W (fun D x4 B E W S G h=>aZk C L h B D G S x4 E W kr (fun h=>cAc h kr))
theorem bSu:aC prog C L 2 69 [14] (g aMr 1) [14] [] (r7 0 1 2 3 4 5 6 B D G S x4 E W) h K=bAk C L h B D G S x4 E W (R K [14]):=by unfold bAk;refine(y 1 [1,4,0,5,6,3,2] ?_ (w7 fun D x4 B E W S G h=>(q [] (fun k=>(bPt C L h _ B D G S x4 E W)) ?_ ?_)) ?_)<;>intros<;>kernel_rfl
noncomputable def F31 (C:CF)(L:Nat)(B D G S x4 E W:V)(h:H):O (V×H):=bAk C L h B D G S x4 E W (fun xc h=>some (xc,h))
def bWm (Q:Orc)(n:Nat)(B D G S x4 E W:V)(h:H)(q:Q 31 [B,D,G,S,x4,E,W]=none):=(tq q Tryz.func31 (bSu _ n h _ B D G S x4 E W) (by kernel_rfl) (by kernel_rfl):_=F31 (aA prog 2 Q n) n B D G S x4 E W h)
noncomputable def cJk:Code:=(Tryz.f32.body).getD .skip
noncomputable def bHt (kr:K1 β):=aE (A.zJ 24 B h) fun a b=>lf 0 1 a b fun e=>bI .eql 5 e (.int .u8 2)
 (kr (.bool true) b)
 (lf 0 1 a b fun t=>bI .eql 5 t (.int .u8 9)
 (kr (.bool true) b)
 (lf 0 1 a b fun i1=>bI .eql 5 i1 (.int .u8 11)
 (kr (.bool true) b)
 (lf 0 1 a b fun s1=>bI .eql 5 s1 (.int .u8 4)
 (kr (.bool true) b)
 (lf 0 1 a b fun b2=>bB .eql 5 b2 (.int .u8 5) fun d2=>kr (.bool d2) b))))
theorem bSt:aC prog C L 2 26 [2] (g cJk 1) [2] [] (r1 0 B) h K=bHt h B (R K [2]):=by kernel_rfl
noncomputable def F32 (C:CF)(L:Nat)(B:V)(h:H):O (V×H):=bHt h B (fun G h=>some (G,h))
def bWl (Q:Orc)(n:Nat)(B:V)(h:H)(q:Q 32 [B]=none):=(tq q Tryz.func32 (bSt _ n h _ B) (by kernel_rfl) (by kernel_rfl):_=F32 (aA prog 2 Q n) n B h)
noncomputable def aBn:Code:=(Tryz.f33.body).getD .skip
noncomputable def cAb (kn:K3 β):=kn D B (.slice none 0 0) h
noncomputable def cAa (kn:K4 β):=kn (.int .i64 0) D B E h
noncomputable def aRg (kx0:K1 β)(kn:K4 β):=bnd (A.zG B) fun c=>bI .lss 3 W c
 (kn W D B E h)
 (kx0 E h)
noncomputable def bFq (kx1:K4 β)(kn:K5 β):=bnd (A.zH 35 B W) fun c=>bnd (A.load true 35 c h) fun d=>aE (A.zJ 35 Z40 h) fun e f=>bnd (A.store 35 e d f) fun j=>lf 0 1 e j fun l=>bI .neq 5 l (.int .u8 3)
 (kx1 W D B E j)
 (lf 2 1 e j fun r=>bI .neq 3 r D
 (kx1 W D B E j)
 (kn e W D B E j))
noncomputable def bZz (kn:K6 β):=aE (A.zJ 24 Z38 h) fun a b=>kn I a W D B E b
noncomputable def bZy (kn:K7 β):=bnd (A.zA prog .sub 3 W (.int .i64 1)) fun b=>kn b I J W D B E h
noncomputable def aRf (kx2:K6 β)(kn:K7 β):=bI .geq 3 P (.int .i64 0)
 (kn P I J W D B E h)
 (kx2 I J W D B E h)
noncomputable def bFp (kn:K8 β):=bnd (A.zH 35 B P) fun c=>lf 0 1 c h fun e=>bI .eql 5 e (.int .u8 1)
 (bnd (A.zH 35 B P) fun m=>lf 2 1 m h fun o=>bI .eql 3 o D
 (bnd (A.zH 35 B P) fun w=>lf 1 1 w h fun z=>lf 1 1 I h fun b1=>bB .eql 3 z b1 fun d1=>kn (.bool d1) P I J W D B E h)
 (kn (.bool false) P I J W D B E h))
 (kn (.bool false) P I J W D B E h)
noncomputable def bFo (kn:K7 β):=aL xy (bnd (A.zH 35 B P) fun c=>lg 4 24 c h fun e=>bnd (A.store 24 J e h) fun i=>kn P I J W D B E i) (kn P I J W D B E h)
noncomputable def aLh (kn:K7 β):=bFp h B D E W I J P (fun xy P I J W D B E h=>bFo h B D E W I J P xy kn)
theorem bMh:aC prog C L 2 128 [4] (g aBn 955300) [9,7,8,6,1,0,5] [(3,[9,7,8,6,1,0,5]),(2,[7,8,6,1,0,5]),(1,[6,1,0,5]),(0,[5])] (r7 9 7 8 6 1 0 5 P I J W D B E) h K=aLh h B D E W I J P (N K [9,7,8,6,1,0,5]):=by unfold aLh;refine(q [59,9,7,8,6,1,0,5] ?_ ?_ ?_)<;>intros<;>kernel_rfl
noncomputable def aXb (kn:K7 β):=bnd (A.zA prog .sub 3 P (.int .i64 1)) fun b=>kn b I J W D B E h
noncomputable def aGi (C:CF)(L:Nat){β:Type}(kx2:K6 β):Nat→K7 β
 |0,_,_,_,_,_,_,_,_=>none
 |n+1,P,I,J,W,D,B,E,h=>aRf h B D E W I J P kx2 (fun P I J W D B E h=>aLh h B D E W I J P (fun P I J W D B E h=>aXb h B D E W I J P (fun P I J W D B E h=>aGi C L kx2 n P I J W D B E h)))
theorem bKk (C:CF)(L:Nat){β:Type}(K:KK β):∀n,M (fun fr h=>Lw prog C L 2 128 [4] (g aBn 119412) [9,7,8,6,1,0,5] [(2,[7,8,6,1,0,5]),(1,[6,1,0,5]),(0,[5])] n fr h K) [9,7,8,6,1,0,5]=aGi C L (X K 2 [7,8,6,1,0,5]) n:=by refine lw [9,7,8,6,1,0,5] [9,7,8,6,1,0,5] (F:=fun kn P I J W D B E h=>aRf h B D E W I J P (X K 2 [7,8,6,1,0,5]) (fun P I J W D B E h=>aLh h B D E W I J P (fun P I J W D B E h=>aXb h B D E W I J P kn))) ?_ ?_ (fun kn=>w7 fun P I J W D B E h=>(y 1 [9,7,8,6,1,0,5] ?_ (w7 fun P I J W D B E h=>(q [9,7,8,6,1,0,5] (fun k=>(bk 3 (bMh C L h _ B D E W I J P) ?_)) ?_ ?_)) ?_))<;>intros<;>kernel_rfl
noncomputable def aZd (kn:K6 β):=bZy h B D E W I J (fun P I J W D B E h=>aGi C L kn L P I J W D B E h)
theorem bOw:aC prog C L 2 128 [4] (g aBn 14926) [7,8,6,1,0,5] [(1,[6,1,0,5]),(0,[5])] (r6 7 8 6 1 0 5 I J W D B E) h K=aZd C L h B D E W I J (N K [7,8,6,1,0,5]):=by unfold aZd;refine(y 1 [9,7,8,6,1,0,5] ?_ (w7 fun P I J W D B E h=>(bk 2 (lp (c7 (bKk C L _ L) P I J W D B E h) ?_) ?_)) ?_)<;>intros<;>kernel_rfl
noncomputable def aRe (kn:K7 β):=lf 0 1 J h fun b=>bB .eql 5 b (.int .u8 1) fun d=>kn (.bool d) I J W D B E h
noncomputable def bZu (kn:K4 β):=lf 33 1 I h fun c=>aP c fun d=>bnd (A.zF Z38L [(0,1,(.int .u8 2)),(20,1,(.bool d))]) fun e=>aE (A.zD 24 1 Z38L [(0,24,e)] h) fun f i=>aE (A.zK 24 200 E f i) fun j k=>kn W D B j k
noncomputable def aXa (kn:K7 β):=lf 0 1 J h fun b=>bB .eql 5 b (.int .u8 8) fun d=>kn (.bool d) I J W D B E h
noncomputable def bZv (kn:K4 β):=lf 4 1 J h fun c=>lf 32 1 I h fun e=>bnd (A.zF Z38L [(0,1,(.int .u8 9)),(4,1,c),(23,1,e)]) fun f=>aE (A.zD 24 1 Z38L [(0,24,f)] h) fun i j=>aE (A.zK 24 200 E i j) fun k l=>kn W D B k l
noncomputable def bFn (kn:K6 β):=lf 0 1 J h fun b=>bB .eql 5 b (.int .u8 10) fun d=>kn (.bool d) J W D B E h
noncomputable def bZw (kn:K4 β):=lf 4 1 J h fun c=>bnd (A.zF Z38L [(0,1,(.int .u8 11)),(4,1,c)]) fun d=>aE (A.zD 24 1 Z38L [(0,24,d)] h) fun e f=>aE (A.zK 24 200 E e f) fun i j=>kn W D B i j
noncomputable def aRd (kn:K6 β):=lf 0 1 J h fun b=>bI .eql 5 b (.int .u8 3)
 (lf 2 1 J h fun i=>bB .eql 5 i (.int .u8 1) fun k=>kn (.bool k) J W D B E h)
 (kn (.bool false) J W D B E h)
noncomputable def bZx (kn:K4 β):=lf 4 1 J h fun c=>bnd (A.zF Z38L [(0,1,(.int .u8 4)),(4,1,c)]) fun d=>aE (A.zD 24 1 Z38L [(0,24,d)] h) fun e f=>aE (A.zK 24 200 E e f) fun i j=>kn W D B i j
noncomputable def aWz (kn:K4 β):=lf 0 1 J h fun b=>bI .eql 5 b (.int .u8 3)
 (lf 2 1 J h fun i=>bI .eql 5 i (.int .u8 2)
 (lf 4 1 J h fun p=>bnd (A.zF Z38L [(0,1,(.int .u8 5)),(4,1,p)]) fun q=>aE (A.zD 24 1 Z38L [(0,24,q)] h) fun r s=>aE (A.zK 24 200 E r s) fun t u=>kn W D B t u)
 (kn W D B E h))
 (kn W D B E h)
noncomputable def aEv (kn:K4 β):=aRd h B D E W J (fun ye J W D B E h=>aL ye (bZx h B D E W J kn) (aWz h B D E W J kn))
theorem bNe:aC prog C L 2 128 [4] (g aBn 1910719) [6,1,0,5] [(4,[6,1,0,5]),(1,[6,1,0,5]),(0,[5])] (r6 87 8 6 1 0 5 xq J W D B E) h K=aEv h B D E W J (N K [6,1,0,5]):=by unfold aEv;refine(y 1 [97,8,6,1,0,5] ?_ (w6 fun ye J W D B E h=>(cd ?_ ?_ ?_)) ?_)<;>intros<;>kernel_rfl
noncomputable def aBi (kn:K4 β):=aRe h B D E W I J (fun xz I J W D B E h=>aL xz (bZu h B D E W I kn) (aXa h B D E W I J (fun ya I J W D B E h=>aL ya (bZv h B D E W I J kn) (bFn h B D E W J (fun xq J W D B E h=>aL xq (bZw h B D E W J kn) (aEv h B D E W J kn))))))
theorem bPn:aC prog C L 2 128 [4] (g aBn 29854) [6,1,0,5] [(4,[6,1,0,5]),(1,[6,1,0,5]),(0,[5])] (r6 7 8 6 1 0 5 I J W D B E) h K=aBi h B D E W I J (N K [6,1,0,5]):=by unfold aBi;refine(y 1 [65,7,8,6,1,0,5] ?_ (w7 fun xz I J W D B E h=>(cd ?_ (y 1 [75,7,8,6,1,0,5] ?_ (w7 fun ya I J W D B E h=>(cd ?_ (y 1 [87,8,6,1,0,5] ?_ (w6 fun xq J W D B E h=>(cd ?_ (bNe C L h _ B D E W J xq) ?_)) ?_) ?_)) ?_) ?_)) ?_)<;>intros<;>kernel_rfl
noncomputable def aLr (kn:K4 β):=bFq h B D E W kn (fun I W D B E h=>bZz h B D E W I (fun I J W D B E h=>aZd C L h B D E W I J (fun I J W D B E h=>aBi h B D E W I J kn)))
theorem bQd:aC prog C L 2 128 [4] (g aBn 466) [6,1,0,5] [(0,[5])] (r4 6 1 0 5 W D B E) h K=aLr C L h B D E W (N K [6,1,0,5]):=by unfold aLr;refine(bk 1 (y 2 [7,6,1,0,5] ?_ (w5 fun I W D B E h=>(y 1 [7,8,6,1,0,5] ?_ (w6 fun I J W D B E h=>(q [7,8,6,1,0,5] (fun k=>(bOw C L h _ B D E W I J)) (w6 fun I J W D B E h=>(bk 4 (bPn C L h _ B D E W I J) ?_)) ?_)) ?_)) ?_) ?_)<;>intros<;>kernel_rfl
noncomputable def aRc (kn:K4 β):=bnd (A.zA prog .add 3 W (.int .i64 1)) fun b=>kn b D B E h
noncomputable def aGh (C:CF)(L:Nat){β:Type}(kx0:K1 β):Nat→K4 β
 |0,_,_,_,_,_=>none
 |n+1,W,D,B,E,h=>aRg h B D E W kx0 (fun W D B E h=>aLr C L h B D E W (fun W D B E h=>aRc h B D E W (fun W D B E h=>aGh C L kx0 n W D B E h)))
theorem bKj (C:CF)(L:Nat){β:Type}(K:KK β):∀n,M (fun fr h=>Lw prog C L 2 128 [4] (g aBn 116) [6,1,0,5] [(0,[5])] n fr h K) [6,1,0,5]=aGh C L (X K 0 [5]) n:=by refine lw [6,1,0,5] [6,1,0,5] (F:=fun kn W D B E h=>aRg h B D E W (X K 0 [5]) (fun W D B E h=>aLr C L h B D E W (fun W D B E h=>aRc h B D E W kn))) ?_ ?_ (fun kn=>w4 fun W D B E h=>(y 1 [6,1,0,5] ?_ (w4 fun W D B E h=>(q [6,1,0,5] (fun k=>(bQd C L h _ B D E W)) ?_ ?_)) ?_))<;>intros<;>kernel_rfl
noncomputable def aZr (kn:K1 β):=cAa h B D E (fun W D B E h=>aGh C L kn L W D B E h)
theorem bQi:aC prog C L 2 128 [4] (g aBn 14) [5] [] (r3 1 0 5 D B E) h K=aZr C L h B D E (N K [5]):=by unfold aZr;refine(y 1 [6,1,0,5] ?_ (w4 fun W D B E h=>(bk 0 (lp (c4 (bKj C L _ L) W D B E h) ?_) ?_)) ?_)<;>intros<;>kernel_rfl
noncomputable def bZt (kr:K1 β):=kr E h
noncomputable def bAj (kr:K1 β):=cAb h B D (fun D B E h=>aZr C L h B D E (fun E h=>bZt h E kr))
theorem bSs:aC prog C L 2 128 [4] (g aBn 1) [4] [] (r2 0 1 B D) h K=bAj C L h B D (R K [4]):=by unfold bAj;refine(y 2 [1,0,5] ?_ (w3 fun D B E h=>(q [5] (fun k=>(bQi C L h _ B D E)) ?_ ?_)) ?_)<;>intros<;>kernel_rfl
noncomputable def F33 (C:CF)(L:Nat)(B D:V)(h:H):O (V×H):=bAj C L h B D (fun x4 h=>some (x4,h))
def bWk (Q:Orc)(n:Nat)(B D:V)(h:H)(q:Q 33 [B,D]=none):=(tq q Tryz.func33 (bSs _ n h _ B D) (by kernel_rfl) (by kernel_rfl):_=F33 (aA prog 2 Q n) n B D h)
noncomputable def aHi:Code:=(Tryz.f34.body).getD .skip
noncomputable def aWy (kr:K1 β)(kn:K5 β):=aE (C 31 [B,(.int .i64 0),(.int .u8 1),D,(.string ⟨⟨[1]⟩⟩),(.string ⟨⟨[]⟩⟩),(.bool false)] h) fun e f=>bI .lss 3 e (.int .i64 0)
 (kr (.slice none 0 0) f)
 (bnd (A.zH 35 B e) fun q=>lf 3 1 q f fun s=>aE (C 31 [B,(.int .i64 0),(.int .u8 2),D,(.string ⟨⟨[1]⟩⟩),s,(.bool true)] f) fun y z=>bI .lss 3 y (.int .i64 0)
 (kr (.slice none 0 0) z)
 (bnd (A.zA prog .add 3 y (.int .i64 1)) fun k1=>aE (C 31 [B,k1,(.int .u8 2),D,(.string ⟨⟨[14,0]⟩⟩),s,(.bool true)] z) fun n1 o1=>kn y n1 B s (.slice none 0 0) o1))
noncomputable def bFm (kn:K5 β):=bI .lss 3 P (.int .i64 0)
 (bnd (A.zG B) fun e=>kn J e B I E h)
 (kn J P B I E h)
noncomputable def bZs (kn:K6 β):=kn J (.int .i64 0) P B I E h
noncomputable def bZr (kn:K7 β):=kn J (.int .i64 0) U P B I E h
noncomputable def aWx (kx0:K5 β)(kn:K7 β):=bI .leq 3 xa J
 (kn xa J U P B I E h)
 (kx0 U P B I E h)
noncomputable def bFl (kn:K8 β):=bnd (A.zH 35 B xa) fun c=>lf 0 1 c h fun e=>bI .eql 5 e (.int .u8 2)
 (bnd (A.zH 35 B xa) fun m=>lf 3 1 m h fun o=>bI .eql 9 o I
 (bnd (A.zH 35 B xa) fun w=>bnd (A.u 4 w) fun y=>lf 0 1 y h fun a1=>bI .eql 5 a1 (.int .u8 1)
 (bnd (A.zH 35 B xa) fun j1=>lf 33 1 j1 h fun l1=>aP l1 fun m1=>aP (.bool !m1) fun o1=>kn (.bool o1) xa J U P B I E h)
 (kn (.bool false) xa J U P B I E h))
 (kn (.bool false) xa J U P B I E h))
 (kn (.bool false) xa J U P B I E h)
noncomputable def bZq (kn:K7 β):=aL yc (kn xa J xa P B I E h) (kn xa J U P B I E h)
noncomputable def aSp (kn:K7 β):=bFl h B E I J P U xa (fun yc xa J U P B I E h=>bZq h B E I J P U xa yc kn)
theorem bLz:aC prog C L 2 117 [4] (g aHi 262052) [11,8,10,9,0,7,5] [(1,[11,8,10,9,0,7,5]),(0,[10,9,0,7,5])] (r7 11 8 10 9 0 7 5 xa J U P B I E) h K=aSp h B E I J P U xa (N K [11,8,10,9,0,7,5]):=by unfold aSp;refine(q [77,11,8,10,9,0,7,5] ?_ ?_ ?_)<;>intros<;>kernel_rfl
noncomputable def bFk (kn:K7 β):=bnd (A.zA prog .add 3 xa (.int .i64 1)) fun b=>kn J b U P B I E h
noncomputable def aGg (C:CF)(L:Nat){β:Type}(kx0:K5 β):Nat→K7 β
 |0,_,_,_,_,_,_,_,_=>none
 |n+1,J,xa,U,P,B,I,E,h=>aWx h B E I J P U xa kx0 (fun xa J U P B I E h=>aSp h B E I J P U xa (fun xa J U P B I E h=>bFk h B E I J P U xa (fun J xa U P B I E h=>aGg C L kx0 n J xa U P B I E h)))
theorem bKi (C:CF)(L:Nat){β:Type}(K:KK β):∀n,M (fun fr h=>Lw prog C L 2 117 [4] (g aHi 32756) [8,11,10,9,0,7,5] [(0,[10,9,0,7,5])] n fr h K) [8,11,10,9,0,7,5]=aGg C L (X K 0 [10,9,0,7,5]) n:=by refine lw [8,11,10,9,0,7,5] [8,11,10,9,0,7,5] (F:=fun kn J xa U P B I E h=>aWx h B E I J P U xa (X K 0 [10,9,0,7,5]) (fun xa J U P B I E h=>aSp h B E I J P U xa (fun xa J U P B I E h=>bFk h B E I J P U xa kn))) ?_ ?_ (fun kn=>w7 fun J xa U P B I E h=>(y 1 [11,8,10,9,0,7,5] ?_ (w7 fun xa J U P B I E h=>(q [11,8,10,9,0,7,5] (fun k=>(bk 1 (bLz C L h _ B E I J P U xa) ?_)) ?_ ?_)) ?_))<;>intros<;>kernel_rfl
noncomputable def aZa (kn:K5 β):=bZr h B E I J P U (fun J xa U P B I E h=>aGg C L kn L J xa U P B I E h)
theorem bOq:aC prog C L 2 117 [4] (g aHi 4094) [10,9,0,7,5] [] (r6 8 10 9 0 7 5 J U P B I E) h K=aZa C L h B E I J P U (N K [10,9,0,7,5]):=by unfold aZa;refine(y 1 [8,11,10,9,0,7,5] ?_ (w7 fun J xa U P B I E h=>(bk 0 (lp (c7 (bKi C L _ L) J xa U P B I E h) ?_) ?_)) ?_)<;>intros<;>kernel_rfl
noncomputable def bZp (kn:K5 β):=kn P U B I E h
noncomputable def aRb (kx2:K1 β)(kn:K5 β):=bI .lss 3 Y P
 (kn Y P B I E h)
 (kx2 E h)
noncomputable def bFj (kn:K6 β):=bnd (A.zH 35 B Y) fun c=>lf 3 1 c h fun e=>bI .eql 9 e I
 (bnd (A.zH 35 B Y) fun n=>lf 0 1 n h fun p=>bI .eql 5 p (.int .u8 6)
 (kn (.bool true) Y P B I E h)
 (bnd (A.zH 35 B Y) fun y=>lf 0 1 y h fun a1=>bB .eql 5 a1 (.int .u8 8) fun c1=>kn (.bool c1) Y P B I E h))
 (kn (.bool false) Y P B I E h)
noncomputable def bFi (kn:K5 β):=aL yf (bnd (A.zH 35 B Y) fun d=>lg 28 4 d h fun f=>aE (A.zD 4 1 Z35L [(0,4,f)] h) fun i j=>aE (A.zK 4 40 E i j) fun k l=>kn Y P B I k l) (kn Y P B I E h)
noncomputable def aLg (kn:K5 β):=bFj h B E I P Y (fun yf Y P B I E h=>bFi h B E I P Y yf kn)
theorem bMg:aC prog C L 2 117 [4] (g aHi 524196) [12,9,0,7,5] [(3,[12,9,0,7,5]),(2,[5])] (r5 12 9 0 7 5 Y P B I E) h K=aLg h B E I P Y (N K [12,9,0,7,5]):=by unfold aLg;refine(q [107,12,9,0,7,5] ?_ ?_ ?_)<;>intros<;>kernel_rfl
noncomputable def aWw (kn:K5 β):=bnd (A.zA prog .add 3 Y (.int .i64 1)) fun b=>kn P b B I E h
noncomputable def aGf (C:CF)(L:Nat){β:Type}(kx2:K1 β):Nat→K5 β
 |0,_,_,_,_,_,_=>none
 |n+1,P,Y,B,I,E,h=>aRb h B E I P Y kx2 (fun Y P B I E h=>aLg h B E I P Y (fun Y P B I E h=>aWw h B E I P Y (fun P Y B I E h=>aGf C L kx2 n P Y B I E h)))
theorem bKh (C:CF)(L:Nat){β:Type}(K:KK β):∀n,M (fun fr h=>Lw prog C L 2 117 [4] (g aHi 65524) [9,12,0,7,5] [(2,[5])] n fr h K) [9,12,0,7,5]=aGf C L (X K 2 [5]) n:=by refine lw [9,12,0,7,5] [9,12,0,7,5] (F:=fun kn P Y B I E h=>aRb h B E I P Y (X K 2 [5]) (fun Y P B I E h=>aLg h B E I P Y (fun Y P B I E h=>aWw h B E I P Y kn))) ?_ ?_ (fun kn=>w5 fun P Y B I E h=>(y 1 [12,9,0,7,5] ?_ (w5 fun Y P B I E h=>(q [12,9,0,7,5] (fun k=>(bk 3 (bMg C L h _ B E I P Y) ?_)) ?_ ?_)) ?_))<;>intros<;>kernel_rfl
noncomputable def aZc (kn:K1 β):=bZp h B E I P U (fun P Y B I E h=>aGf C L kn L P Y B I E h)
theorem bOv:aC prog C L 2 117 [4] (g aHi 8190) [5] [] (r5 10 9 0 7 5 U P B I E) h K=aZc C L h B E I P U (N K [5]):=by unfold aZc;refine(y 1 [9,12,0,7,5] ?_ (w5 fun P Y B I E h=>(bk 2 (lp (c5 (bKh C L _ L) P Y B I E h) ?_) ?_)) ?_)<;>intros<;>kernel_rfl
noncomputable def bZo (kr:K1 β):=kr E h
noncomputable def aMe (kr:K1 β):=aWy C h B D kr (fun J P B I E h=>bFm h B E I J P (fun J P B I E h=>bZs h B E I J P (fun J U P B I E h=>aZa C L h B E I J P U (fun U P B I E h=>aZc C L h B E I P U (fun E h=>bZo h E kr)))))
theorem bSr:aC prog C L 2 117 [4] (g aHi 1) [4] [] (r2 0 1 B D) h K=aMe C L h B D (R K [4]):=by unfold aMe;refine(y 8 [8,9,0,7,5] ?_ (w5 fun J P B I E h=>(q [8,9,0,7,5] ?_ (w5 fun J P B I E h=>(y 1 [8,10,9,0,7,5] ?_ (w6 fun J U P B I E h=>(q [10,9,0,7,5] (fun k=>(bOq C L h _ B E I J P U)) (w5 fun U P B I E h=>(q [5] (fun k=>(bOv C L h _ B E I P U)) ?_ ?_)) ?_)) ?_)) ?_)) ?_)<;>intros<;>kernel_rfl
noncomputable def F34 (C:CF)(L:Nat)(B D:V)(h:H):O (V×H):=aMe C L h B D (fun x4 h=>some (x4,h))
def bWj (Q:Orc)(n:Nat)(B D:V)(h:H)(q:Q 34 [B,D]=none):=(tq q Tryz.func34 (bSr _ n h _ B D) (by kernel_rfl) (by kernel_rfl):_=F34 (aA prog 2 Q n) n B D h)
noncomputable def cJj:Code:=(Tryz.f35.body).getD .skip
noncomputable def bHs (kr:K1 β):=aE (A.zJ 24 B h) fun a b=>aE (A.zJ 4 Z35 b) fun c d=>lf 5 1 a d fun f=>lf 6 1 a d fun j=>lf 2 1 a d fun l=>lf 3 1 a d fun n=>aP n fun o=>bnd (A.zF Z35L [(0,1,f),(1,1,j),(2,1,l),(3,1,(.bool o))]) fun p=>bnd (A.store 4 c p d) fun r=>kr c r
theorem bSq:aC prog C L 2 12 [2] (g cJj 1) [2] [] (r1 0 B) h K=bHs h B (R K [2]):=by kernel_rfl
noncomputable def F35 (C:CF)(L:Nat)(B:V)(h:H):O (V×H):=bHs h B (fun G h=>bnd (rP (A.load true 4 G h) (some [])) fun vs=>some (iT vs,h))
def bWi (Q:Orc)(n:Nat)(B:V)(h:H)(q:Q 35 [B]=none):=(tq q Tryz.func35 (bSq _ n h _ B) (by kernel_rfl) (by kernel_rfl):_=F35 (aA prog 2 Q n) n B h)
noncomputable def aMq:Code:=(Tryz.f36.body).getD .skip
noncomputable def bZn (kn:K2 β):=kn B D h
noncomputable def bZm (kn:K3 β):=kn (.int .i64 0) B D h
noncomputable def aRa (kx0:K0 β)(kn:K3 β):=bnd (A.zG B) fun c=>bnd (A.zA prog .add 3 E c) fun d=>bnd (A.zG D) fun f=>bI .leq 3 d f
 (kn E B D h)
 (kx0 h)
noncomputable def bZl (kn:K4 β):=kn (.bool true) E B D h
noncomputable def bZk (kn:K5 β):=kn (.int .i64 0) W E B D h
noncomputable def aQz (kx2:K4 β)(kn:K5 β):=bnd (A.zG B) fun c=>bI .lss 3 I c
 (kn W I E B D h)
 (kx2 W E B D h)
noncomputable def aWv (kn:K5 β):=iK W
 (bnd (A.zH 4 B I) fun f=>bnd (A.load true 4 f h) fun i=>bnd (A.zA prog .add 3 E I) fun m=>bnd (A.zH 4 D m) fun n=>bnd (A.load true 4 n h) fun o=>bB .eql 35 i o fun q=>bnd (A.zA prog .add 3 I (.int .i64 1)) fun u=>kn u (.bool q) E B D h)
 (bnd (A.zA prog .add 3 I (.int .i64 1)) fun a1=>kn a1 (.bool false) E B D h)
noncomputable def aEi (C:CF)(L:Nat){β:Type}(kx2:K4 β):Nat→K5 β
 |0,_,_,_,_,_,_=>none
 |n+1,I,W,E,B,D,h=>aQz h B D E W I kx2 (fun W I E B D h=>aWv h B D E W I (fun I W E B D h=>aEi C L kx2 n I W E B D h))
theorem bKw (C:CF)(L:Nat){β:Type}(K:KK β):∀n,M (fun fr h=>Lw prog C L 2 38 [4] (g aMq 13460) [7,6,5,0,1] [(2,[6,5,0,1]),(1,[5,0,1]),(0,[])] n fr h K) [7,6,5,0,1]=aEi C L (X K 2 [6,5,0,1]) n:=by refine lw [7,6,5,0,1] [7,6,5,0,1] (F:=fun kn I W E B D h=>aQz h B D E W I (X K 2 [6,5,0,1]) (fun W I E B D h=>aWv h B D E W I kn)) ?_ ?_ (fun kn=>w5 fun I W E B D h=>(y 1 [6,7,5,0,1] ?_ ?_ ?_))<;>intros<;>kernel_rfl
noncomputable def aYw (kn:K4 β):=bZk h B D E W (fun I W E B D h=>aEi C L kn L I W E B D h)
theorem bOc:aC prog C L 2 38 [4] (g aMq 1682) [6,5,0,1] [(1,[5,0,1]),(0,[])] (r4 6 5 0 1 W E B D) h K=aYw C L h B D E W (N K [6,5,0,1]):=by unfold aYw;refine(y 1 [7,6,5,0,1] ?_ (w5 fun I W E B D h=>(bk 2 (lp (c5 (bKw C L _ L) I W E B D h) ?_) ?_)) ?_)<;>intros<;>kernel_rfl
noncomputable def bZj (kr:K1 β)(kn:K3 β):=iK W
 (kr (.bool true) h)
 (kn E B D h)
noncomputable def aTb (kr:K1 β)(kn:K3 β):=bZl h B D E (fun W E B D h=>aYw C L h B D E W (fun W E B D h=>bZj h B D E W kr kn))
theorem bOs:aC prog C L 2 38 [4] (g aMq 420) [5,0,1] [(1,[5,0,1]),(0,[])] (r3 5 0 1 E B D) h K=aTb C L h B D E (R K [4]) (N K [5,0,1]):=by unfold aTb;refine(y 1 [6,5,0,1] ?_ (w4 fun W E B D h=>(q [6,5,0,1] (fun k=>(bOc C L h _ B D E W)) ?_ ?_)) ?_)<;>intros<;>kernel_rfl
noncomputable def bFh (kn:K3 β):=bnd (A.zA prog .add 3 E (.int .i64 1)) fun b=>kn b B D h
noncomputable def aGe (C:CF)(L:Nat){β:Type}(kr:K1 β)(kx0:K0 β):Nat→K3 β
 |0,_,_,_,_=>none
 |n+1,E,B,D,h=>aRa h B D E kx0 (fun E B D h=>aTb C L h B D E kr (fun E B D h=>bFh h B D E (fun E B D h=>aGe C L kr kx0 n E B D h)))
theorem bKg (C:CF)(L:Nat){β:Type}(K:KK β):∀n,M (fun fr h=>Lw prog C L 2 38 [4] (g aMq 52) [5,0,1] [(0,[])] n fr h K) [5,0,1]=aGe C L (R K [4]) (X K 0 []) n:=by refine lw [5,0,1] [5,0,1] (F:=fun kn E B D h=>aRa h B D E (X K 0 []) (fun E B D h=>aTb C L h B D E (R K [4]) (fun E B D h=>bFh h B D E kn))) ?_ ?_ (fun kn=>w3 fun E B D h=>(y 1 [5,0,1] ?_ (w3 fun E B D h=>(q [5,0,1] (fun k=>(bk 1 (bOs C L h _ B D E) ?_)) ?_ ?_)) ?_))<;>intros<;>kernel_rfl
noncomputable def aZm (kr:K1 β)(kn:K0 β):=bZm h B D (fun E B D h=>aGe C L kr kn L E B D h)
theorem bPw:aC prog C L 2 38 [4] (g aMq 6) [] [] (r2 0 1 B D) h K=aZm C L h B D (R K [4]) (N K []):=by unfold aZm;refine(y 1 [5,0,1] ?_ (w3 fun E B D h=>(bk 0 (lp (c3 (bKg C L _ L) E B D h) ?_) ?_)) ?_)<;>intros<;>kernel_rfl
noncomputable def bZi (kr:K1 β):=kr (.bool false) h
noncomputable def bAi (kr:K1 β):=bZn h B D (fun B D h=>aZm C L h B D kr (fun h=>bZi h kr))
theorem bSp:aC prog C L 2 38 [4] (g aMq 1) [4] [] (r2 0 1 B D) h K=bAi C L h B D (R K [4]):=by unfold bAi;refine(y 1 [0,1] ?_ (w2 fun B D h=>(q [] (fun k=>(bPw C L h _ B D)) ?_ ?_)) ?_)<;>intros<;>kernel_rfl
noncomputable def F36 (C:CF)(L:Nat)(B D:V)(h:H):O (V×H):=bAi C L h B D (fun x4 h=>some (x4,h))
def bWh (Q:Orc)(n:Nat)(B D:V)(h:H)(q:Q 36 [B,D]=none):=(tq q Tryz.func36 (bSp _ n h _ B D) (by kernel_rfl) (by kernel_rfl):_=F36 (aA prog 2 Q n) n B D h)
noncomputable def bAy:Code:=(Tryz.f43.body).getD .skip
noncomputable def bYq (kn:K4 β):=aE (A.zJ 4 B h) fun a b=>kn a G (.slice none 0 0) D b
noncomputable def bYp (kn:K7 β):=bnd (A.load false 1 D h) fun a=>bnd (A.zG a) fun b=>kn b (.int .i64 0) S G a E D h
noncomputable def aQs (kx0:K2 β)(kn:K7 β):=bnd (A.zA prog .lss 3 U P) fun a=>aL a (kn U P S G J E D h) (kx0 E D h)
noncomputable def bEs (kn:K8 β):=bnd (A.zH 1 J U) fun a=>bnd (A.load false 1 a h) fun b=>kn b U P S G J E D h
noncomputable def aQr (kn:K7 β):=bnd (A.load false 1 G h) fun b=>bnd (A.zG b) fun c=>bI .lss 3 I c
 (bnd (A.load false 1 G h) fun i=>bnd (A.zH 4 i I) fun k=>bnd (A.load true 4 k h) fun l=>bnd (A.load true 4 S h) fun m=>bI .eql 35 l m
 (bnd (A.zA prog .add 3 I (.int .i64 1)) fun s=>aE (A.zD 1 1 Z3L [(0,1,s)] h) fun t u=>aE (A.zK 1 8 E t u) fun v w=>kn U P S G J v D w)
 (kn U P S G J E D h))
 (kn U P S G J E D h)
noncomputable def aLj (kn:K7 β):=bEs h D G S E J P U (fun I U P S G J E D h=>aQr h D G S E I J P U kn)
theorem bMk:aC prog C L 2 36 [4] (g bAy 1868) [10,9,3,2,8,5,1] [(1,[10,9,3,2,8,5,1]),(0,[5,1])] (r7 10 9 3 2 8 5 1 U P S G J E D) h K=aLj h D G S E J P U (N K [10,9,3,2,8,5,1]):=by unfold aLj;refine(y 1 [7,10,9,3,2,8,5,1] ?_ ?_ ?_)<;>intros<;>kernel_rfl
noncomputable def aKj (kn:K7 β):=bnd (A.zA prog .add 3 U (.int .i64 1)) fun a=>kn P a S G J E D h
noncomputable def xK (C:CF)(L:Nat){β:Type}(kx0:K2 β):Nat→K7 β
 |0,_,_,_,_,_,_,_,_=>none
 |n+1,P,U,S,G,J,E,D,h=>aQs h D G S E J P U kx0 (fun U P S G J E D h=>aLj h D G S E J P U (fun U P S G J E D h=>aKj h D G S E J P U (fun P U S G J E D h=>xK C L kx0 n P U S G J E D h)))
theorem bLk (C:CF)(L:Nat){β:Type}(K:KK β):∀n,M (fun fr h=>Lw prog C L 2 36 [4] (g bAy 116) [9,10,3,2,8,5,1] [(0,[5,1])] n fr h K) [9,10,3,2,8,5,1]=xK C L (X K 0 [5,1]) n:=by refine lw [9,10,3,2,8,5,1] [9,10,3,2,8,5,1] (F:=fun kn P U S G J E D h=>aQs h D G S E J P U (X K 0 [5,1]) (fun U P S G J E D h=>aLj h D G S E J P U (fun U P S G J E D h=>aKj h D G S E J P U kn))) ?_ ?_ (fun kn=>w7 fun P U S G J E D h=>(y 2 [10,9,3,2,8,5,1] ?_ (w7 fun U P S G J E D h=>(q [10,9,3,2,8,5,1] (fun k=>(bk 1 (bMk C L h _ D G S E J P U) ?_)) ?_ ?_)) ?_))<;>intros<;>kernel_rfl
noncomputable def aZf (kn:K2 β):=bYp h D G S E (fun P U S G J E D h=>xK C L kn L P U S G J E D h)
theorem bPe:aC prog C L 2 36 [4] (g bAy 14) [5,1] [] (r4 3 2 5 1 S G E D) h K=aZf C L h D G S E (N K [5,1]):=by unfold aZf;refine(y 1 [9,10,3,2,8,5,1] ?_ (w7 fun P U S G J E D h=>(bk 0 (lp (c7 (bLk C L _ L) P U S G J E D h) ?_) ?_)) ?_)<;>intros<;>kernel_rfl
noncomputable def bYo (kr:K1 β):=bnd (A.store 1 D E h) fun c=>bnd (A.load false 1 D c) fun d=>bnd (A.zG d) fun e=>bB .gtr 3 e (.int .i64 0) fun i=>kr (.bool i) c
noncomputable def bAe (kr:K1 β):=bYq h B D G (fun S G E D h=>aZf C L h D G S E (fun E D h=>bYo h D E kr))
theorem bSj:aC prog C L 2 36 [4] (g bAy 1) [4] [] (r3 0 1 2 B D G) h K=bAe C L h B D G (R K [4]):=by unfold bAe;refine(y 2 [3,2,5,1] ?_ (w4 fun S G E D h=>(q [5,1] (fun k=>(bPe C L h _ D G S E)) ?_ ?_)) ?_)<;>intros<;>kernel_rfl
noncomputable def F43 (C:CF)(L:Nat)(B D G:V)(h:H):O (V×H):=bAe C L h B D G (fun x4 h=>some (x4,h))
def bWb (Q:Orc)(n:Nat)(B D G:V)(h:H)(q:Q 43 [B,D,G]=none):=(tq q Tryz.func43 (bSj _ n h _ B D G) (by kernel_rfl) (by kernel_rfl):_=F43 (aA prog 2 Q n) n B D G h)
end Go.Proofs.YtohapjojkjjflaaGreatDoor.WzD
