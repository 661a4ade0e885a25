import Derived.Test.YtpanfoafajepcaaGreatDoorProg
import Derived.Test.YtpanfoafajepcaaGreatDoorGv
import Derived.Test.YtpanfoafajepcaaGreatDoorRaZ
set_option linter.unusedVariables false
set_option linter.defProp false
set_option maxRecDepth 100000
namespace Go.Proofs.YtpanfoafajepcaaGreatDoor.RaW
open Tryz (prog)
open Go Go.AM RaZ
open Go.AM.Pk hiding y Q q lw s0 bk sc cd lp exS pQ Lw tq
open Go.AM.Pw
noncomputable def Z52L:List V:=[(.string ⟨⟨[]⟩⟩),(.int .u8 0)]
noncomputable def Z52:V:=.agg ⟨Z52L⟩
noncomputable def Z86L:List V:=[(.string ⟨⟨[]⟩⟩),(.string ⟨⟨[]⟩⟩)]
noncomputable def Z86:V:=.agg ⟨Z86L⟩
noncomputable def Z58:V:=(.pointer none)
noncomputable def Z31L:List V:=[(.string ⟨⟨[]⟩⟩),(.string ⟨⟨[]⟩⟩),(.int .u8 0),(.bool false)]
noncomputable def Z31:V:=.agg ⟨Z31L⟩
noncomputable def Z71:V:=(.slice none 0 0)
noncomputable def Z60:V:=(.pointer none)
noncomputable def Z74L:List V:=[]
noncomputable def Z74:V:=.agg ⟨Z74L⟩
noncomputable def Z80L:List V:=[(.string ⟨⟨[]⟩⟩),(.string ⟨⟨[]⟩⟩),(.string ⟨⟨[]⟩⟩),(.int .u8 0),(.bool false),(.int .i64 0),(.bool false),(.map none),(.map none)]
noncomputable def Z48L:List V:=[(.pointer none),(.map none),(.map none),(.int .i64 0)]
noncomputable def Z36L:List V:=[(.int .u8 0),(.int .i64 0),(.int .i64 0),(.string ⟨⟨[]⟩⟩),(.int .u8 0),(.bool false),(.int .u8 0),(.bool false),(.int .u16 0),(.string ⟨⟨[]⟩⟩),(.string ⟨⟨[]⟩⟩),(.int .u8 0),(.bool false),(.int .u16 0),(.string ⟨⟨[]⟩⟩),(.bool false),(.string ⟨⟨[]⟩⟩),(.string ⟨⟨[]⟩⟩),(.int .u8 0),(.bool false),(.bool false),(.bool false),(.string ⟨⟨[]⟩⟩),(.string ⟨⟨[]⟩⟩),(.bool false),(.int .u8 0),(.slice none 0 0),(.string ⟨⟨[]⟩⟩),(.string ⟨⟨[]⟩⟩),(.string ⟨⟨[]⟩⟩),(.int .u8 0),(.bool false),(.string ⟨⟨[]⟩⟩),(.bool false),(.int .u8 0)]
noncomputable def Z36:V:=.agg ⟨Z36L⟩
variable (C:CF)(L:Nat)(dm:Dm)(rl:Rl)(h:H)(K:KK Unit)(B G U D P E W Y I x9 xo xn J xl S xh xm xb xr xg xf xs xt xc xd xa xu xp xv xw xx xe xj xk xi xq:V)
noncomputable def aRu:Code:=(Tryz.f30.body).getD .skip
noncomputable def bHe (kr:K1 Unit)(kn:K2 Unit):=bnd (A.zA prog .eql 43 B (.pointer none)) fun d=>aC d fun e=>(bif e then
 kr (.slice none 0 0) h
 else
 kn B (.slice none 0 0) h)
noncomputable def bHd (kn:K2 Unit):=bnd (A.z B) fun b=>bnd (A.u 0 b) fun c=>bnd (A.load false 1 c h) fun d=>aF (A.zX d h) fun e f=>kn e D f
noncomputable def aUj (kx0:K1 Unit)(kn:K2 Unit):=aAz (A.b S h) fun a b=>bnd (A.zB 0 a) fun c=>aC c fun d=>(bif d then
 kn S D b
 else
 kx0 D b)
noncomputable def aUi (kn:K6 Unit):=bnd (A.zT S h) fun a=>bnd (A.zB 0 a) fun b=>bnd (A.zB 1 a) fun c=>bnd (A.z c) fun i=>bnd (A.u 0 i) fun j=>bnd (A.load false 1 j h) fun k=>aF (C 42 [k] h) fun l m=>bnd (A.zH l) fun n=>kn n (.int .i64 0) b l S D m
noncomputable def aPc (kx2:K2 Unit)(kn:K6 Unit):=bnd (A.zA prog .lss 3 xb xm) fun a=>aW a (bnd (A.zL 2 xh xb) fun b=>bnd (A.load true 2 b h) fun c=>aF (A.box 2 Z52 h) fun d e=>bnd (A.store 2 d c e) fun i=>bnd (A.u 0 d) fun k=>bnd (A.load false 1 k i) fun l=>bnd (A.zN Z86L [(0,1,l),(1,1,P)]) fun n=>aF (A.zF 2 1 Z86L [(0,2,n)] i) fun o p=>aF (A.zI 2 32 D o p) fun q r=>bnd (A.zA prog .add 3 xb (.int .i64 1)) fun t=>kn xm t P xh S q r) (kx2 S D h)
noncomputable def aFz (C:CF)(L:Nat)(dm:Dm)(rl:Rl)(kx2:K2 Unit):Nat→K6 Unit
 |0,_,_,_,_,_,_,_=>none
 |n+1,xm,xb,P,xh,S,D,h=>aPc h D P S xh xm xb kx2 (fun xm xb P xh S D h=>aFz C L dm rl kx2 n xm xb P xh S D h)
theorem aYv (C:CF)(L:Nat)(dm:Dm)(rl:Rl)(K:KK Unit):∀n,M (fun fr h=>Lw (rgP prog C 3 41 isR dm rl) L 3 [2] (g aRu 31340) [25,26,4,24,14,3] [(2,[14,3]),(1,[14,3]),(0,[3])] n fr h K) [25,26,4,24,14,3]=aFz C L dm rl (X K 2 [14,3]) n:=by refine lw [25,26,4,24,14,3] [25,26,4,24,14,3] (F:=fun kn xm xb P xh S D h=>aPc h D P S xh xm xb (X K 2 [14,3]) kn) ?_ ?_ ?_<;>intros<;>kernel_rfl
noncomputable def aIz (C:CF)(L:Nat)(dm:Dm)(rl:Rl)(kx0:K1 Unit):Nat→K2 Unit
 |0,_,_,_=>none
 |n+1,S,D,h=>aUj h D S kx0 (fun S D h=>aUi C h D S (fun xm xb P xh S D h=>aFz C L dm rl (fun S D h=>aIz C L dm rl kx0 n S D h) L xm xb P xh S D h))
theorem aYn (C:CF)(L:Nat)(dm:Dm)(rl:Rl)(K:KK Unit):∀n,M (fun fr h=>Lw (rgP prog C 3 41 isR dm rl) L 3 [2] (g aRu 244) [14,3] [(0,[3])] n fr h K) [14,3]=aIz C L dm rl (X K 0 [3]) n:=by refine lw [14,3] [14,3] (F:=fun kn S D h=>aUj h D S (X K 0 [3]) (fun S D h=>aUi C h D S (fun xm xb P xh S D h=>aFz C L dm rl kn L xm xb P xh S D h))) ?_ ?_ (fun kn=>w2 fun S D h=>(y 2 [14,3] ?_ (w2 fun S D h=>(bk 1 (y 2 [25,26,4,24,14,3] ?_ (w6 fun xm xb P xh S D h=>(bk 2 (lp (c6 (aYv C L dm rl _ L) xm xb P xh S D h) ?_) ?_)) ?_) ?_)) ?_))<;>intros<;>kernel_rfl
noncomputable def aQu (kn:K1 Unit):=bHd h B D (fun S D h=>aIz C L dm rl kn L S D h)
theorem bAy:aU (rgP prog C 3 41 isR dm rl) L 3 [2] (g aRu 30) [3] [] (r2 0 3 B D) h K=aQu C L dm rl h B D (N K [3]):=by unfold aQu;refine(y 1 [14,3] ?_ (w2 fun S D h=>(bk 0 (lp (c2 (aYn C L dm rl _ L) S D h) ?_) ?_)) ?_)<;>intros<;>kernel_rfl
noncomputable def aPb (kr:K1 Unit):=aF (C 43 [D,(.func (.func 44) ⟨[]⟩ ⟨[]⟩)] h) fun b c=>kr D c
noncomputable def aRk (kr:K1 Unit):=bHe h B kr (fun B D h=>aQu C L dm rl h B D (fun D h=>aPb C h D kr))
theorem bDd:aU (rgP prog C 3 41 isR dm rl) L 3 [2] (g aRu 1) [2] [] (r1 0 B) h K=aRk C L dm rl h B (R K [2]):=by unfold aRk;refine(y 3 [0,3] ?_ (w2 fun B D h=>(q [3] (fun k=>(bAy C L dm rl h _ B D)) ?_ ?_)) ?_)<;>intros<;>kernel_rfl
noncomputable def F30 (C:CF)(L:Nat)(dm:Dm)(rl:Rl)(Z:V→H→O Unit)(B:V)(h:H):O Unit:=aRk C L dm rl h B (fun U h=>Z U h)
def bOl {C:CF}{L:Nat}{dm:Dm}{rl:Rl}(ok:RelOK prog 3 isR dm rl){X:V→H→Prop}(B:V)(h:H):=(tw ok Tryz.func30 (bDd C L dm rl h _ B) (by kernel_rfl) (by kernel_rfl):F30 C L dm rl (fun v h=>okU (X v h)) B h=some ()→dC prog C isR dm rl L 3 30 [B] h X)
noncomputable def aNw:Code:=(Tryz.f18.body).getD .skip
noncomputable def aVf (kn:K4 Unit):=aF (A.box 35 G h) fun a b=>bnd (A.z B) fun e=>bnd (A.u 0 e) fun f=>bnd (A.load false 1 f b) fun i=>bnd (A.load true 35 a b) fun j=>aF (C 26 [i,j] b) fun k l=>bnd (A.zB 0 k) fun n=>bnd (A.zB 1 k) fun o=>aC o fun p=>bnd (A.zB 2 k) fun q=>aC q fun r=>kn (.bool r) B a n l
noncomputable def aVe (kr:K1 Unit)(kn:K3 Unit):=aC Y fun b=>bnd (A.un prog .not (.bool b)) fun c=>aC c fun d=>(bif d then
 kr (.bool false) h
 else
 kn B D E h)
noncomputable def bHw (kn:K4 Unit):=bnd (A.z B) fun b=>bnd (A.u 1 b) fun c=>bnd (A.load false 1 c h) fun d=>aF (A.zX d h) fun e f=>kn e B D E f
noncomputable def aVd (kx0:K3 Unit)(kn:K4 Unit):=aAz (A.b xf h) fun a b=>bnd (A.zB 0 a) fun c=>aC c fun d=>(bif d then
 kn xf B D E b
 else
 kx0 B D E b)
noncomputable def aPt (kn:K5 Unit):=bnd (A.zT xf h) fun a=>bnd (A.zB 1 a) fun b=>kn b xf B D E h
noncomputable def aPs (kn:K6 Unit):=bnd (A.z B) fun b=>bnd (A.u 0 b) fun c=>bnd (A.load false 1 c h) fun d=>bnd (A.u 3 D) fun e=>bnd (A.load false 1 e h) fun f=>bnd (A.z x9) fun j=>bnd (A.u 1 j) fun k=>bnd (A.u 0 k) fun l=>bnd (A.load false 1 l h) fun m=>aF (C 27 [d,f,m] h) fun n o=>bnd (A.zB 0 n) fun q=>bnd (A.zB 1 n) fun r=>aC r fun s=>kn (.bool s) x9 xf B D E o
noncomputable def aPr (kn:K4 Unit):=aC xn fun b=>bnd (A.un prog .not (.bool b)) fun c=>aC c fun d=>(bif d then
 bnd (A.z x9) fun f=>bnd (A.u 7 f) fun i=>bnd (A.load false 1 i h) fun j=>bnd (A.u 3 D) fun k=>bnd (A.load false 1 k h) fun l=>bnd (A.zY true l j h) fun n=>kn xf B D E n
 else
 kn xf B D E h)
noncomputable def aJb (C:CF)(L:Nat)(dm:Dm)(rl:Rl)(kx0:K3 Unit):Nat→K4 Unit
 |0,_,_,_,_,_=>none
 |n+1,xf,B,D,E,h=>aVd h B D E xf kx0 (fun xf B D E h=>aPt h B D E xf (fun x9 xf B D E h=>aPs C h B D E x9 xf (fun xn x9 xf B D E h=>aPr h B D E x9 xn xf (fun xf B D E h=>aJb C L dm rl kx0 n xf B D E h))))
theorem aYp (C:CF)(L:Nat)(dm:Dm)(rl:Rl)(K:KK Unit):∀n,M (fun fr h=>Lw (rgP prog C 3 118 isR dm rl) L 3 [4] (g aNw 244) [31,0,3,5] [(0,[0,3,5])] n fr h K) [31,0,3,5]=aJb C L dm rl (X K 0 [0,3,5]) n:=by refine lw [31,0,3,5] [31,0,3,5] (F:=fun kn xf B D E h=>aVd h B D E xf (X K 0 [0,3,5]) (fun xf B D E h=>aPt h B D E xf (fun x9 xf B D E h=>aPs C h B D E x9 xf (fun xn x9 xf B D E h=>aPr h B D E x9 xn xf kn)))) ?_ ?_ (fun kn=>w4 fun xf B D E h=>(y 2 [31,0,3,5] ?_ (w4 fun xf B D E h=>(bk 1 (y 1 [9,31,0,3,5] ?_ (w5 fun x9 xf B D E h=>(y 1 [11,9,31,0,3,5] ?_ ?_ ?_)) ?_) ?_)) ?_))<;>intros<;>kernel_rfl
noncomputable def aQt (kn:K3 Unit):=bHw h B D E (fun xf B D E h=>aJb C L dm rl kn L xf B D E h)
theorem bAw:aU (rgP prog C 3 118 isR dm rl) L 3 [4] (g aNw 30) [0,3,5] [] (r3 0 3 5 B D E) h K=aQt C L dm rl h B D E (N K [0,3,5]):=by unfold aQt;refine(y 1 [31,0,3,5] ?_ (w4 fun xf B D E h=>(bk 0 (lp (c4 (aYp C L dm rl _ L) xf B D E h) ?_) ?_)) ?_)<;>intros<;>kernel_rfl
noncomputable def aPq (kr:K1 Unit)(kn:K4 Unit):=bnd (A.u 4 D) fun a=>bnd (A.u 0 a) fun b=>bnd (A.load false 1 b h) fun c=>bnd (A.zA prog .neq 5 c (.int .u8 8)) fun d=>aC d fun e=>(bif e then
 kr (.bool true) h
 else
 bnd (A.z B) fun j=>bnd (A.u 2 j) fun k=>bnd (A.load false 1 k h) fun l=>bnd (A.u 1 D) fun m=>bnd (A.load false 1 m h) fun n=>bnd (A.zE false Z58 false n l h) fun o=>kn B D o E h)
noncomputable def aVc (kn:K3 Unit):=bnd (A.zA prog .eql 58 J (.pointer none)) fun b=>aC b fun c=>(bif c then
 bnd (A.u 1 D) fun e=>bnd (A.load false 1 e h) fun f=>aF (C 17 [B,f] h) fun i j=>kn D i E j
 else
 kn D J E h)
noncomputable def aPp (kr:K1 Unit)(kn:K3 Unit):=bnd (A.z J) fun b=>bnd (A.u 1 b) fun c=>bnd (A.load false 1 c h) fun d=>aC d fun e=>(bif e then
 kr (.bool true) h
 else
 bnd (A.z J) fun j=>bnd (A.u 1 j) fun k=>bnd (A.store 1 k (.bool true) h) fun m=>bnd (A.z J) fun o=>bnd (A.u 2 o) fun p=>bnd (A.store 1 p (.bool true) m) fun r=>bnd (A.u 3 D) fun t=>bnd (A.load false 1 t r) fun u=>bnd (A.z J) fun v=>bnd (A.u 0 v) fun w=>bnd (A.store 1 w u r) fun z=>aF (C 28 [] z) fun b1 c1=>bnd (A.z J) fun d1=>bnd (A.u 3 d1) fun e1=>bnd (A.store 1 e1 b1 c1) fun i1=>kn D J E i1)
noncomputable def bHv (kn:K5 Unit):=bnd (A.u 4 D) fun a=>bnd (A.u 22 a) fun b=>bnd (A.load false 1 b h) fun c=>bnd (A.zH c) fun d=>kn d (.int .i64 0) J E c h
noncomputable def aMs (kx2:K0 Unit)(kn:K5 Unit):=bnd (A.zA prog .lss 3 xi xk) fun a=>aW a (kn xi xk J E xj h) (kx2 h)
noncomputable def aPo (kn:K5 Unit):=bnd (A.zL 2 xj xi) fun b=>bnd (A.load true 2 b h) fun c=>aF (A.box 2 Z52 h) fun d e=>bnd (A.store 2 d c e) fun j=>bnd (A.zC E xi) fun m=>bnd (A.zA prog .lss 5 m (.int .u8 128)) fun n=>aC n fun o=>(bif o then
 bnd (A.z J) fun q=>bnd (A.u 3 q) fun r=>bnd (A.load false 1 r j) fun s=>bnd (A.u 0 d) fun t=>bnd (A.load false 1 t j) fun u=>bnd (A.u 1 d) fun v=>bnd (A.load false 1 v j) fun w=>aF (C 29 [s,u,w] j) fun y z=>kn xi xk J E xj z
 else
 kn xi xk J E xj j)
noncomputable def aPn (kn:K5 Unit):=bnd (A.zA prog .add 3 xi (.int .i64 1)) fun a=>kn xk a J E xj h
noncomputable def aEv (C:CF)(L:Nat)(dm:Dm)(rl:Rl)(kx2:K0 Unit):Nat→K5 Unit
 |0,_,_,_,_,_,_=>none
 |n+1,xk,xi,J,E,xj,h=>aMs h E J xj xk xi kx2 (fun xi xk J E xj h=>aPo C h E J xj xk xi (fun xi xk J E xj h=>aPn h E J xj xk xi (fun xk xi J E xj h=>aEv C L dm rl kx2 n xk xi J E xj h)))
theorem aZf (C:CF)(L:Nat)(dm:Dm)(rl:Rl)(K:KK Unit):∀n,M (fun fr h=>Lw (rgP prog C 3 118 isR dm rl) L 3 [4] (g aNw 131060) [98,99,12,5,97] [(2,[])] n fr h K) [98,99,12,5,97]=aEv C L dm rl (X K 2 []) n:=by refine lw [98,99,12,5,97] [98,99,12,5,97] (F:=fun kn xk xi J E xj h=>aMs h E J xj xk xi (X K 2 []) (fun xi xk J E xj h=>aPo C h E J xj xk xi (fun xi xk J E xj h=>aPn h E J xj xk xi kn))) ?_ ?_ (fun kn=>w5 fun xk xi J E xj h=>(y 2 [99,98,12,5,97] ?_ (w5 fun xi xk J E xj h=>(y 1 [99,98,12,5,97] ?_ ?_ ?_)) ?_))<;>intros<;>kernel_rfl
noncomputable def aNg (kn:K0 Unit):=bHv h D E J (fun xk xi J E xj h=>aEv C L dm rl kn L xk xi J E xj h)
theorem bAv:aU (rgP prog C 3 118 isR dm rl) L 3 [4] (g aNw 16382) [] [] (r3 3 12 5 D J E) h K=aNg C L dm rl h D E J (N K []):=by unfold aNg;refine(y 1 [98,99,12,5,97] ?_ (w5 fun xk xi J E xj h=>(bk 2 (lp (c5 (aZf C L dm rl _ L) xk xi J E xj h) ?_) ?_)) ?_)<;>intros<;>kernel_rfl
noncomputable def aMr (kr:K1 Unit):=kr (.bool true) h
noncomputable def aNs (kr:K1 Unit):=aVf C h B G (fun Y B D E h=>aVe h B D E Y kr (fun B D E h=>aQt C L dm rl h B D E (fun B D E h=>aPq h B D E kr (fun B D J E h=>aVc C h B D E J (fun D J E h=>aPp C h D E J kr (fun D J E h=>aNg C L dm rl h D E J (fun h=>aMr h kr)))))))
theorem bDp:aU (rgP prog C 3 118 isR dm rl) L 3 [4] (g aNw 1) [4] [] (r2 0 1 B G) h K=aNs C L dm rl h B G (R K [4]):=by unfold aNs;refine(y 2 [7,0,3,5] ?_ (w4 fun Y B D E h=>(y 1 [0,3,5] ?_ (w3 fun B D E h=>(q [0,3,5] (fun k=>(bAw C L dm rl h _ B D E)) (w3 fun B D E h=>(y 2 [0,3,12,5] ?_ (w4 fun B D J E h=>(y 1 [3,12,5] ?_ (w3 fun D J E h=>(y 5 [3,12,5] ?_ (w3 fun D J E h=>(q [] (fun k=>(bAv C L dm rl h _ D E J)) ?_ ?_)) ?_)) ?_)) ?_)) ?_)) ?_)) ?_)<;>intros<;>kernel_rfl
noncomputable def F18 (C:CF)(L:Nat)(dm:Dm)(rl:Rl)(Z:V→H→O Unit)(B G:V)(h:H):O Unit:=aNs C L dm rl h B G (fun P h=>Z P h)
def bKh {C:CF}{L:Nat}{dm:Dm}{rl:Rl}(ok:RelOK prog 3 isR dm rl){X:V→H→Prop}(B G:V)(h:H):=(tw ok Tryz.func18 (bDp C L dm rl h _ B G) (by kernel_rfl) (by kernel_rfl):F18 C L dm rl (fun v h=>okU (X v h)) B G h=some ()→dC prog C isR dm rl L 3 18 [B,G] h X)
noncomputable def aXf:Code:=(Tryz.f19.body).getD .skip
noncomputable def aVw (kn:K2 Unit):=aF (A.box 35 G h) fun a b=>kn a B b
noncomputable def aVb (kr:K1 Unit)(kn:K2 Unit):=bnd (A.z B) fun b=>bnd (A.u 0 b) fun c=>bnd (A.load false 1 c h) fun d=>bnd (A.load true 35 D h) fun e=>aF (C 26 [d,e] h) fun f i=>bnd (A.zB 0 f) fun k=>bnd (A.zB 1 f) fun l=>aC l fun m=>bnd (A.zB 2 f) fun n=>aC n fun o=>bnd (A.un prog .not (.bool o)) fun t=>aC t fun u=>(bif u then
 kr (.bool false) i
 else
 kn D B i)
noncomputable def bJl (kn:K2 Unit):=bnd (A.u 28 D) fun a=>bnd (A.load true 4 a h) fun b=>aF (A.box 4 Z31 h) fun c d=>bnd (A.store 4 c b d) fun f=>bnd (A.u 3 c) fun i=>bnd (A.store 1 i (.bool true) f) fun k=>kn B c k
noncomputable def bHu (kn:K2 Unit):=bnd (A.z B) fun b=>bnd (A.u 2 b) fun c=>bnd (A.load false 1 c h) fun d=>aF (A.zX d h) fun e f=>kn I e f
noncomputable def aVa (kx0:K0 Unit)(kn:K2 Unit):=aAz (A.b xg h) fun a b=>bnd (A.zB 0 a) fun c=>aC c fun d=>(bif d then
 kn I xg b
 else
 kx0 b)
noncomputable def aPm (kx1:K2 Unit)(kn:K3 Unit):=bnd (A.zT xg h) fun a=>bnd (A.zB 1 a) fun b=>bnd (A.z b) fun e=>bnd (A.u 1 e) fun f=>bnd (A.load false 1 f h) fun i=>aC i fun j=>(bif j then
 kx1 I xg h
 else
 bnd (A.z b) fun l=>bnd (A.u 5 l) fun m=>bnd (A.load false 1 m h) fun n=>bnd (A.u 0 I) fun o=>bnd (A.load false 1 o h) fun p=>bnd (A.zY true p n h) fun r=>kn b I xg r)
noncomputable def aMq (kn:K2 Unit):=bnd (A.u 1 I) fun a=>bnd (A.load false 1 a h) fun b=>bnd (A.zA prog .neq 9 b (.string ⟨⟨[]⟩⟩)) fun c=>aC c fun d=>(bif d then
 bnd (A.z xo) fun f=>bnd (A.u 4 f) fun i=>bnd (A.load false 1 i h) fun j=>bnd (A.u 0 I) fun k=>bnd (A.load false 1 k h) fun l=>bnd (A.z xo) fun n=>bnd (A.u 4 n) fun o=>bnd (A.load false 1 o h) fun p=>bnd (A.u 0 I) fun q=>bnd (A.load false 1 q h) fun r=>bnd (A.zE true Z71 false r p h) fun s=>bnd (A.load true 4 I h) fun t=>aF (A.zF 4 1 Z31L [(0,4,t)] h) fun u v=>aF (A.zI 4 40 s u v) fun w y=>bif (chk (bnd (A.load false 1 k y) fun v=>some v) l&&(chk (bnd (A.load false 1 i y) fun v=>some v) j&&true))then
 bnd (A.zK true l w j y) fun a1=>kn I xg a1
 else none
 else
 kn I xg h)
noncomputable def aGf (C:CF)(L:Nat)(dm:Dm)(rl:Rl)(kx0:K0 Unit):Nat→K2 Unit
 |0,_,_,_=>none
 |n+1,I,xg,h=>aVa h I xg kx0 (fun I xg h=>aPm h I xg (fun I xg h=>aGf C L dm rl kx0 n I xg h) (fun xo I xg h=>aMq h I xo xg (fun I xg h=>aGf C L dm rl kx0 n I xg h)))
theorem aZb (C:CF)(L:Nat)(dm:Dm)(rl:Rl)(K:KK Unit):∀n,M (fun fr h=>Lw (rgP prog C 3 64 isR dm rl) L 3 [4] (g aXf 500) [8,30] [(0,[])] n fr h K) [8,30]=aGf C L dm rl (X K 0 []) n:=by refine lw [8,30] [8,30] (F:=fun kn I xg h=>aVa h I xg (X K 0 []) (fun I xg h=>aPm h I xg kn (fun xo I xg h=>aMq h I xo xg kn))) ?_ ?_ (fun kn=>w2 fun I xg h=>(y 2 [8,30] ?_ (w2 fun I xg h=>(bk 1 (y 3 [10,8,30] ?_ ?_ ?_) ?_)) ?_))<;>intros<;>kernel_rfl
noncomputable def aQq (kn:K0 Unit):=bHu h B I (fun I xg h=>aGf C L dm rl kn L I xg h)
theorem bAs:aU (rgP prog C 3 64 isR dm rl) L 3 [4] (g aXf 62) [] [] (r2 0 8 B I) h K=aQq C L dm rl h B I (N K []):=by unfold aQq;refine(y 1 [8,30] ?_ (w2 fun I xg h=>(bk 0 (lp (c2 (aZb C L dm rl _ L) I xg h) ?_) ?_)) ?_)<;>intros<;>kernel_rfl
noncomputable def bJm (kr:K1 Unit):=kr (.bool true) h
noncomputable def aNr (kr:K1 Unit):=aVw h B G (fun D B h=>aVb C h B D kr (fun D B h=>bJl h B D (fun B I h=>aQq C L dm rl h B I (fun h=>bJm h kr))))
theorem bDo:aU (rgP prog C 3 64 isR dm rl) L 3 [4] (g aXf 1) [4] [] (r2 0 1 B G) h K=aNr C L dm rl h B G (R K [4]):=by unfold aNr;refine(y 1 [3,0] ?_ (w2 fun D B h=>(y 1 [3,0] ?_ (w2 fun D B h=>(y 2 [0,8] ?_ (w2 fun B I h=>(q [] (fun k=>(bAs C L dm rl h _ B I)) ?_ ?_)) ?_)) ?_)) ?_)<;>intros<;>kernel_rfl
noncomputable def F19 (C:CF)(L:Nat)(dm:Dm)(rl:Rl)(Z:V→H→O Unit)(B G:V)(h:H):O Unit:=aNr C L dm rl h B G (fun P h=>Z P h)
def bKg {C:CF}{L:Nat}{dm:Dm}{rl:Rl}(ok:RelOK prog 3 isR dm rl){X:V→H→Prop}(B G:V)(h:H):=(tw ok Tryz.func19 (bDo C L dm rl h _ B G) (by kernel_rfl) (by kernel_rfl):F19 C L dm rl (fun v h=>okU (X v h)) B G h=some ()→dC prog C isR dm rl L 3 19 [B,G] h X)
noncomputable def aRv:Code:=(Tryz.f21.body).getD .skip
noncomputable def aEw (kn:K3 Unit):=aF (A.box 35 G h) fun a b=>bnd (A.z B) fun e=>bnd (A.u 1 e) fun f=>bnd (A.load false 1 f b) fun i=>bnd (A.u 1 a) fun j=>bnd (A.load false 1 j b) fun k=>bnd (A.zE false Z60 false k i b) fun l=>kn B l a b
noncomputable def aEr (kr:K1 Unit)(kn:K3 Unit):=bnd (A.zA prog .eql 60 E (.pointer none)) fun b=>aC b fun c=>(bif c then
 kr (.bool false) h
 else
 bnd (A.z E) fun j=>bnd (A.u 6 j) fun k=>bnd (A.load false 1 k h) fun l=>aC l fun m=>bnd (A.un prog .not (.bool m)) fun n=>aC n fun o=>(bif o then
 kr (.bool false) h
 else
 kn B E D h))
noncomputable def aIu (kr:K1 Unit)(kn:K3 Unit):=bnd (A.z E) fun b=>bnd (A.u 8 b) fun c=>bnd (A.load false 1 c h) fun d=>bnd (A.u 3 D) fun e=>bnd (A.load false 1 e h) fun f=>bnd (A.zE true Z74 true f d h) fun i=>bnd (A.zB 0 i) fun k=>bnd (A.zB 1 i) fun l=>aC l fun m=>aF (A.box 0 Z74 h) fun n o=>bnd (A.store 0 n k o) fun q=>(bif m then
 kr (.bool false) q
 else
 kn B E D q)
noncomputable def aMo (kn:K5 Unit):=bnd (A.z B) fun b=>bnd (A.u 0 b) fun c=>bnd (A.load false 1 c h) fun d=>bnd (A.u 3 D) fun e=>bnd (A.load false 1 e h) fun f=>bnd (A.z E) fun j=>bnd (A.u 1 j) fun k=>bnd (A.u 0 k) fun l=>bnd (A.load false 1 l h) fun m=>aF (C 27 [d,f,m] h) fun n o=>bnd (A.zB 0 n) fun q=>bnd (A.zB 1 n) fun r=>aC r fun s=>kn (.bool s) q B E D o
noncomputable def aMn (kn:K4 Unit):=aC x9 fun b=>bnd (A.un prog .not (.bool b)) fun c=>aC c fun d=>(bif d then
 kn (.bool true) B E D h
 else
 bnd (A.u 28 D) fun k=>bnd (A.load true 4 k h) fun l=>bnd (A.z E) fun n=>bnd (A.u 1 n) fun o=>bnd (A.load true 4 o h) fun p=>aF (C 31 [p,I,(.bool false)] h) fun r s=>bif (chk (bnd (A.load true 4 k s) fun v=>some v) l&&true)then
 bnd (A.zA prog .neq 31 l r) fun t=>aC t fun u=>(bif u then
 kn (.bool true) B E D s
 else
 bnd (A.u 34 D) fun z=>bnd (A.load false 1 z s) fun a1=>bnd (A.u 28 D) fun b1=>bnd (A.u 2 b1) fun c1=>bnd (A.load false 1 c1 s) fun d1=>bnd (A.zA prog .neq 5 a1 d1) fun e1=>aC e1 fun f1=>kn (.bool f1) B E D s)
 else none)
noncomputable def aMm (kr:K1 Unit)(kn:K3 Unit):=aW xx (kr (.bool false) h) (kn B E D h)
noncomputable def aGh (kr:K1 Unit)(kn:K3 Unit):=aMn C h B D E I x9 (fun xx B E D h=>aMm h B D E xx kr kn)
theorem aZt:aU (rgP prog C 3 139 isR dm rl) L 3 [4] (g aRv 126) [0,5,3] [] (r5 9 8 0 5 3 x9 I B E D) h K=aGh C h B D E I x9 (R K [4]) (N K [0,5,3]):=by unfold aGh;refine(y 1 [76,0,5,3] ?_ ?_ ?_)<;>intros<;>kernel_rfl
noncomputable def bHq (kn:K3 Unit):=bnd (A.z B) fun b=>bnd (A.u 1 b) fun c=>bnd (A.load false 1 c h) fun d=>aF (A.zX d h) fun e f=>kn e E D f
noncomputable def aUw (kx0:K2 Unit)(kn:K3 Unit):=aAz (A.b xe h) fun a b=>bnd (A.zB 0 a) fun c=>aC c fun d=>(bif d then
 kn xe E D b
 else
 kx0 E D b)
noncomputable def aUv (kn:K5 Unit):=bnd (A.zT xe h) fun a=>bnd (A.zB 1 a) fun b=>bnd (A.z b) fun e=>bnd (A.u 8 e) fun f=>bnd (A.load false 1 f h) fun i=>bnd (A.u 3 D) fun j=>bnd (A.load false 1 j h) fun k=>bnd (A.zE true Z74 true k i h) fun l=>bnd (A.zB 0 l) fun n=>bnd (A.zB 1 l) fun o=>aC o fun p=>aF (A.box 0 Z74 h) fun q r=>bnd (A.store 0 q n r) fun t=>kn (.bool p) b xe E D t
noncomputable def aUu (kn:K4 Unit):=aC xl fun b=>(bif b then
 bnd (A.z xn) fun e=>bnd (A.u 5 e) fun f=>bnd (A.load false 1 f h) fun i=>bnd (A.z E) fun k=>bnd (A.u 5 k) fun l=>bnd (A.load false 1 l h) fun m=>bnd (A.zA prog .gtr 3 i m) fun n=>aC n fun o=>(bif o then
 bnd (A.z xn) fun s=>bnd (A.u 0 s) fun t=>bnd (A.load false 1 t h) fun u=>bnd (A.z E) fun w=>bnd (A.u 0 w) fun y=>bnd (A.load false 1 y h) fun z=>bnd (A.zA prog .eql 9 u z) fun a1=>aC a1 fun b1=>(bif b1 then
 bnd (A.z xn) fun f1=>bnd (A.u 1 f1) fun i1=>bnd (A.u 0 i1) fun j1=>bnd (A.load false 1 j1 h) fun k1=>bnd (A.z E) fun m1=>bnd (A.u 1 m1) fun n1=>bnd (A.u 0 n1) fun o1=>bnd (A.load false 1 o1 h) fun p1=>bnd (A.zA prog .eql 9 k1 p1) fun q1=>aC q1 fun r1=>kn (.bool r1) xe E D h
 else
 kn (.bool false) xe E D h)
 else
 kn (.bool false) xe E D h)
 else
 kn (.bool false) xe E D h)
noncomputable def aUt (kr:K1 Unit)(kn:K3 Unit):=aW xq (kr (.bool false) h) (kn xe E D h)
noncomputable def aGd (C:CF)(L:Nat)(dm:Dm)(rl:Rl)(kr:K1 Unit)(kx0:K2 Unit):Nat→K3 Unit
 |0,_,_,_,_=>none
 |n+1,xe,E,D,h=>aUw h D E xe kx0 (fun xe E D h=>aUv h D E xe (fun xl xn xe E D h=>aUu h D E xn xl xe (fun xq xe E D h=>aUt h D E xe xq kr (fun xe E D h=>aGd C L dm rl kr kx0 n xe E D h))))
theorem aYz (C:CF)(L:Nat)(dm:Dm)(rl:Rl)(K:KK Unit):∀n,M (fun fr h=>Lw (rgP prog C 3 139 isR dm rl) L 3 [4] (g aRv 2036) [81,5,3] [(0,[5,3])] n fr h K) [81,5,3]=aGd C L dm rl (R K [4]) (X K 0 [5,3]) n:=by refine lw [81,5,3] [81,5,3] (F:=fun kn xe E D h=>aUw h D E xe (X K 0 [5,3]) (fun xe E D h=>aUv h D E xe (fun xl xn xe E D h=>aUu h D E xn xl xe (fun xq xe E D h=>aUt h D E xe xq (R K [4]) kn)))) ?_ ?_ (fun kn=>w3 fun xe E D h=>(y 2 [81,5,3] ?_ (w3 fun xe E D h=>(bk 1 (y 2 [13,11,81,5,3] ?_ (w5 fun xl xn xe E D h=>(y 1 [131,81,5,3] ?_ ?_ ?_)) ?_) ?_)) ?_))<;>intros<;>kernel_rfl
noncomputable def aQs (kr:K1 Unit)(kn:K2 Unit):=bHq h B D E (fun xe E D h=>aGd C L dm rl kr kn L xe E D h)
theorem bAu:aU (rgP prog C 3 139 isR dm rl) L 3 [4] (g aRv 254) [5,3] [] (r3 0 5 3 B E D) h K=aQs C L dm rl h B D E (R K [4]) (N K [5,3]):=by unfold aQs;refine(y 1 [81,5,3] ?_ (w3 fun xe E D h=>(bk 0 (lp (c3 (aYz C L dm rl _ L) xe E D h) ?_) ?_)) ?_)<;>intros<;>kernel_rfl
noncomputable def bHp (kr:K1 Unit):=bnd (A.z E) fun b=>bnd (A.u 8 b) fun c=>bnd (A.load false 1 c h) fun d=>bnd (A.u 3 D) fun e=>bnd (A.load false 1 e h) fun f=>bnd (A.zN Z74L []) fun i=>bnd (A.zK true f i d h) fun k=>kr (.bool true) k
noncomputable def aAy (kr:K1 Unit):=aEw h B G (fun B E D h=>aEr h B D E kr (fun B E D h=>aIu h B D E kr (fun B E D h=>aMo C h B D E (fun x9 I B E D h=>aGh C h B D E I x9 kr (fun B E D h=>aQs C L dm rl h B D E kr (fun E D h=>bHp h D E kr))))))
theorem bDm:aU (rgP prog C 3 139 isR dm rl) L 3 [4] (g aRv 1) [4] [] (r2 0 1 B G) h K=aAy C L dm rl h B G (R K [4]):=by unfold aAy;refine(y 2 [0,5,3] ?_ (w3 fun B E D h=>(y 1 [0,5,3] ?_ (w3 fun B E D h=>(y 1 [0,5,3] ?_ (w3 fun B E D h=>(y 1 [9,8,0,5,3] ?_ (w5 fun x9 I B E D h=>(q [0,5,3] (fun k=>(aZt C L dm rl h _ B D E I x9)) (w3 fun B E D h=>(q [5,3] (fun k=>(bAu C L dm rl h _ B D E)) ?_ ?_)) ?_)) ?_)) ?_)) ?_)) ?_)<;>intros<;>kernel_rfl
noncomputable def F21 (C:CF)(L:Nat)(dm:Dm)(rl:Rl)(Z:V→H→O Unit)(B G:V)(h:H):O Unit:=aAy C L dm rl h B G (fun P h=>Z P h)
def aGs {C:CF}{L:Nat}{dm:Dm}{rl:Rl}(ok:RelOK prog 3 isR dm rl){X:V→H→Prop}(B G:V)(h:H):=(tw ok Tryz.func21 (bDm C L dm rl h _ B G) (by kernel_rfl) (by kernel_rfl):F21 C L dm rl (fun v h=>okU (X v h)) B G h=some ()→dC prog C isR dm rl L 3 21 [B,G] h X)
noncomputable def aXd:Code:=(Tryz.f23.body).getD .skip
noncomputable def aPj (kr kn:K1 Unit):=bnd (A.zA prog .eql 60 G (.pointer none)) fun c=>aC c fun d=>(bif d then
 kr (.bool true) h
 else
 bnd (A.z G) fun k=>bnd (A.u 6 k) fun l=>bnd (A.load false 1 l h) fun m=>aC m fun n=>bnd (A.un prog .not (.bool n)) fun o=>aC o fun p=>(bif p then
 kr (.bool true) h
 else
 kn G h))
noncomputable def bHo (kn:K1 Unit):=bnd (A.z G) fun b=>bnd (A.u 6 b) fun c=>bnd (A.store 1 c (.bool false) h) fun e=>kn G e
noncomputable def bHn (kn:K2 Unit):=bnd (A.z G) fun b=>bnd (A.u 7 b) fun c=>bnd (A.load false 1 c h) fun d=>aF (A.zX d h) fun e f=>kn G e f
noncomputable def aUp (kr:K1 Unit)(kx0:K0 Unit)(kn:K2 Unit):=aAz (A.b xh h) fun a b=>bnd (A.zB 0 a) fun c=>aC c fun d=>(bif d then
 bnd (A.zT xh b) fun e=>bnd (A.zB 0 e) fun f=>bnd (A.z G) fun k=>bnd (A.u 8 k) fun l=>bnd (A.load false 1 l b) fun m=>bnd (A.zE true Z74 true f m b) fun o=>bnd (A.zB 0 o) fun q=>bnd (A.zB 1 o) fun r=>aC r fun s=>aF (A.box 0 Z74 b) fun t u=>bnd (A.store 0 t q u) fun w=>bnd (A.un prog .not (.bool s)) fun a1=>aC a1 fun b1=>(bif b1 then
 kr (.bool false) w
 else
 kn G xh w)
 else
 kx0 b)
noncomputable def aJa (C:CF)(L:Nat)(dm:Dm)(rl:Rl)(kr:K1 Unit)(kx0:K0 Unit):Nat→K2 Unit
 |0,_,_,_=>none
 |n+1,G,xh,h=>aUp h G xh kr kx0 (fun G xh h=>aJa C L dm rl kr kx0 n G xh h)
theorem aYo (C:CF)(L:Nat)(dm:Dm)(rl:Rl)(K:KK Unit):∀n,M (fun fr h=>Lw (rgP prog C 3 40 isR dm rl) L 3 [4] (g aXd 244) [1,24] [(0,[])] n fr h K) [1,24]=aJa C L dm rl (R K [4]) (X K 0 []) n:=by refine lw [1,24] [1,24] (F:=fun kn G xh h=>aUp h G xh (R K [4]) (X K 0 []) kn) ?_ ?_ ?_<;>intros<;>kernel_rfl
noncomputable def aQi (kr:K1 Unit)(kn:K0 Unit):=bHn h G (fun G xh h=>aJa C L dm rl kr kn L G xh h)
theorem aZx:aU (rgP prog C 3 40 isR dm rl) L 3 [4] (g aXd 30) [] [] (r1 1 G) h K=aQi C L dm rl h G (R K [4]) (N K []):=by unfold aQi;refine(y 1 [1,24] ?_ (w2 fun G xh h=>(bk 0 (lp (c2 (aYo C L dm rl _ L) G xh h) ?_) ?_)) ?_)<;>intros<;>kernel_rfl
noncomputable def bLa (kr:K1 Unit):=kr (.bool true) h
noncomputable def aJj (kr:K1 Unit):=aPj h G kr (fun G h=>bHo h G (fun G h=>aQi C L dm rl h G kr (fun h=>bLa h kr)))
theorem bDk:aU (rgP prog C 3 40 isR dm rl) L 3 [4] (g aXd 1) [4] [] (r2 0 1 B G) h K=aJj C L dm rl h G (R K [4]):=by unfold aJj;refine(y 2 [1] ?_ (w1 fun G h=>(y 1 [1] ?_ (w1 fun G h=>(q [] (fun k=>(aZx C L dm rl h _ G)) ?_ ?_)) ?_)) ?_)<;>intros<;>kernel_rfl
noncomputable def F23 (C:CF)(L:Nat)(dm:Dm)(rl:Rl)(Z:V→H→O Unit)(B G:V)(h:H):O Unit:=aJj C L dm rl h G (fun P h=>Z P h)
def aXi {C:CF}{L:Nat}{dm:Dm}{rl:Rl}(ok:RelOK prog 3 isR dm rl){X:V→H→Prop}(B G:V)(h:H):=(tw ok Tryz.func23 (bDk C L dm rl h _ B G) (by kernel_rfl) (by kernel_rfl):F23 C L dm rl (fun v h=>okU (X v h)) B G h=some ()→dC prog C isR dm rl L 3 23 [B,G] h X)
noncomputable def aXc:Code:=(Tryz.f24.body).getD .skip
noncomputable def aPi (kr kn:K1 Unit):=bnd (A.zA prog .eql 58 G (.pointer none)) fun c=>aC c fun d=>(bif d then
 kr (.bool true) h
 else
 bnd (A.z G) fun k=>bnd (A.u 2 k) fun l=>bnd (A.load false 1 l h) fun m=>aC m fun n=>bnd (A.un prog .not (.bool n)) fun o=>aC o fun p=>(bif p then
 kr (.bool true) h
 else
 kn G h))
noncomputable def bHm (kn:K1 Unit):=bnd (A.z G) fun b=>bnd (A.u 2 b) fun c=>bnd (A.store 1 c (.bool false) h) fun e=>kn G e
noncomputable def bHl (kn:K2 Unit):=bnd (A.z G) fun b=>bnd (A.u 5 b) fun c=>bnd (A.load false 1 c h) fun d=>aF (A.zX d h) fun e f=>kn G e f
noncomputable def aUo (kx0:K0 Unit)(kn:K2 Unit):=aAz (A.b xb h) fun a b=>bnd (A.zB 0 a) fun c=>aC c fun d=>(bif d then
 kn G xb b
 else
 kx0 b)
noncomputable def aUn (kr:K1 Unit)(kn:K2 Unit):=bnd (A.zT xb h) fun a=>bnd (A.zB 0 a) fun b=>bnd (A.z G) fun e=>bnd (A.u 3 e) fun f=>bnd (A.load false 1 f h) fun i=>aF (C 32 [i,b] h) fun k l=>bnd (A.zB 0 k) fun n=>bnd (A.zB 1 k) fun o=>aC o fun p=>bnd (A.z G) fun t=>bnd (A.u 6 t) fun u=>bnd (A.load false 1 u l) fun v=>bnd (A.zE true Z74 true b v l) fun y=>bnd (A.zB 0 y) fun a1=>bnd (A.zB 1 y) fun b1=>aC b1 fun c1=>aF (A.box 0 Z74 l) fun d1 e1=>bnd (A.store 0 d1 a1 e1) fun i1=>(bif p then
 bnd (A.un prog .not (.bool c1)) fun n1=>aC n1 fun o1=>(bif o1 then
 kr (.bool false) i1
 else
 kn G xb i1)
 else
 kn G xb i1)
noncomputable def aGc (C:CF)(L:Nat)(dm:Dm)(rl:Rl)(kr:K1 Unit)(kx0:K0 Unit):Nat→K2 Unit
 |0,_,_,_=>none
 |n+1,G,xb,h=>aUo h G xb kx0 (fun G xb h=>aUn C h G xb kr (fun G xb h=>aGc C L dm rl kr kx0 n G xb h))
theorem aYy (C:CF)(L:Nat)(dm:Dm)(rl:Rl)(K:KK Unit):∀n,M (fun fr h=>Lw (rgP prog C 3 54 isR dm rl) L 3 [4] (g aXc 244) [1,26] [(0,[])] n fr h K) [1,26]=aGc C L dm rl (R K [4]) (X K 0 []) n:=by refine lw [1,26] [1,26] (F:=fun kn G xb h=>aUo h G xb (X K 0 []) (fun G xb h=>aUn C h G xb (R K [4]) kn)) ?_ ?_ (fun kn=>w2 fun G xb h=>(y 2 [1,26] ?_ (w2 fun G xb h=>(bk 1 ?_ ?_)) ?_))<;>intros<;>kernel_rfl
noncomputable def aQn (kr:K1 Unit)(kn:K0 Unit):=bHl h G (fun G xb h=>aGc C L dm rl kr kn L G xb h)
theorem bAi:aU (rgP prog C 3 54 isR dm rl) L 3 [4] (g aXc 30) [] [] (r1 1 G) h K=aQn C L dm rl h G (R K [4]) (N K []):=by unfold aQn;refine(y 1 [1,26] ?_ (w2 fun G xb h=>(bk 0 (lp (c2 (aYy C L dm rl _ L) G xb h) ?_) ?_)) ?_)<;>intros<;>kernel_rfl
noncomputable def bKz (kr:K1 Unit):=kr (.bool true) h
noncomputable def aJi (kr:K1 Unit):=aPi h G kr (fun G h=>bHm h G (fun G h=>aQn C L dm rl h G kr (fun h=>bKz h kr)))
theorem bDj:aU (rgP prog C 3 54 isR dm rl) L 3 [4] (g aXc 1) [4] [] (r2 0 1 B G) h K=aJi C L dm rl h G (R K [4]):=by unfold aJi;refine(y 2 [1] ?_ (w1 fun G h=>(y 1 [1] ?_ (w1 fun G h=>(q [] (fun k=>(bAi C L dm rl h _ G)) ?_ ?_)) ?_)) ?_)<;>intros<;>kernel_rfl
noncomputable def F24 (C:CF)(L:Nat)(dm:Dm)(rl:Rl)(Z:V→H→O Unit)(B G:V)(h:H):O Unit:=aJi C L dm rl h G (fun P h=>Z P h)
def aXh {C:CF}{L:Nat}{dm:Dm}{rl:Rl}(ok:RelOK prog 3 isR dm rl){X:V→H→Prop}(B G:V)(h:H):=(tw ok Tryz.func24 (bDj C L dm rl h _ B G) (by kernel_rfl) (by kernel_rfl):F24 C L dm rl (fun v h=>okU (X v h)) B G h=some ()→dC prog C isR dm rl L 3 24 [B,G] h X)
noncomputable def aRw:Code:=(Tryz.f20.body).getD .skip
noncomputable def aPl (kr:K1 Unit)(kn:K2 Unit):=aF (A.box 35 G h) fun a b=>bnd (A.u 1 a) fun d=>bnd (A.load false 1 d b) fun e=>bnd (A.zA prog .lss 3 e (.int .i64 1)) fun f=>aC f fun i=>(bif i then
 kr (.bool false) b
 else
 bnd (A.z B) fun n=>bnd (A.u 1 n) fun o=>bnd (A.load false 1 o b) fun p=>bnd (A.u 1 a) fun q=>bnd (A.load false 1 q b) fun r=>bnd (A.zE false Z60 false r p b) fun s=>bnd (A.zA prog .neq 60 s (.pointer none)) fun t=>aC t fun u=>(bif u then
 kr (.bool false) b
 else
 kn B a b))
noncomputable def bHt (kn:K3 Unit):=bnd (A.u 3 D) fun a=>bnd (A.load false 1 a h) fun b=>bnd (A.u 28 D) fun c=>bnd (A.load true 4 c h) fun d=>bnd (A.z B) fun f=>bnd (A.u 3 f) fun i=>bnd (A.load false 1 i h) fun j=>aF (A.zJ h) fun k l=>aF (A.zJ l) fun m n=>bnd (A.zN Z80L [(0,1,b),(1,4,d),(5,1,j),(6,1,(.bool true)),(7,1,k),(8,1,m)]) fun o=>aF (A.box 9 o n) fun p q=>kn B D p q
noncomputable def bHs (kn:K6 Unit):=mJ isR dm rl C fun C=>bnd (A.z B) fun b=>bnd (A.u 0 b) fun c=>bnd (A.load false 1 c h) fun d=>aF (C 30 [d] h) fun e f=>bnd (A.zH e) fun i=>kn i (.int .i64 0) e B D E f
noncomputable def aMp (kx0:K3 Unit)(kn:K6 Unit):=bnd (A.zA prog .lss 3 xa xd) fun a=>aW a (kn xa xd xc B D E h) (kx0 B D E h)
noncomputable def aUz (kn:K7 Unit):=bnd (A.zL 2 xc xa) fun a=>bnd (A.load true 2 a h) fun b=>aF (A.box 2 Z86 h) fun c d=>bnd (A.store 2 c b d) fun f=>kn c xa xd xc B D E f
noncomputable def aUy (kn:K8 Unit):=bnd (A.z B) fun b=>bnd (A.u 0 b) fun c=>bnd (A.load false 1 c h) fun d=>bnd (A.u 1 Y) fun e=>bnd (A.load false 1 e h) fun f=>bnd (A.u 28 D) fun i=>bnd (A.u 0 i) fun j=>bnd (A.load false 1 j h) fun k=>aF (C 27 [d,f,k] h) fun l m=>bnd (A.zB 0 l) fun o=>bnd (A.zB 1 l) fun p=>aC p fun q=>kn (.bool q) Y xa xd xc B D E m
noncomputable def aUx (kn:K6 Unit):=aC x9 fun b=>(bif b then
 bnd (A.z E) fun d=>bnd (A.u 7 d) fun e=>bnd (A.load false 1 e h) fun f=>bnd (A.u 1 Y) fun i=>bnd (A.load false 1 i h) fun j=>bnd (A.zN Z74L []) fun k=>bnd (A.zK true j k f h) fun m=>kn xa xd xc B D E m
 else
 kn xa xd xc B D E h)
noncomputable def aJd (kn:K6 Unit):=aUz h B D E xc xd xa (fun Y xa xd xc B D E h=>aUy C h B D E Y xc xd xa (fun x9 Y xa xd xc B D E h=>aUx h B D E Y x9 xc xd xa kn))
theorem aZs:aU (rgP prog C 3 74 isR dm rl) L 3 [4] (g aRw 3916) [41,40,39,0,3,5] [(1,[41,40,39,0,3,5]),(0,[0,3,5])] (r6 41 40 39 0 3 5 xa xd xc B D E) h K=aJd C h B D E xc xd xa (N K [41,40,39,0,3,5]):=by unfold aJd;refine(y 1 [7,41,40,39,0,3,5] ?_ (w7 fun Y xa xd xc B D E h=>(y 1 [9,7,41,40,39,0,3,5] ?_ ?_ ?_)) ?_)<;>intros<;>kernel_rfl
noncomputable def aPk (kn:K6 Unit):=bnd (A.zA prog .add 3 xa (.int .i64 1)) fun a=>kn xd a xc B D E h
noncomputable def aGe (C:CF)(L:Nat)(dm:Dm)(rl:Rl)(kx0:K3 Unit):Nat→K6 Unit
 |0,_,_,_,_,_,_,_=>none
 |n+1,xd,xa,xc,B,D,E,h=>aMp h B D E xc xd xa kx0 (fun xa xd xc B D E h=>aJd C h B D E xc xd xa (fun xa xd xc B D E h=>aPk h B D E xc xd xa (fun xd xa xc B D E h=>aGe C L dm rl kx0 n xd xa xc B D E h)))
theorem aZa (C:CF)(L:Nat)(dm:Dm)(rl:Rl)(K:KK Unit):∀n,M (fun fr h=>Lw (rgP prog C 3 74 isR dm rl) L 3 [4] (g aRw 244) [40,41,39,0,3,5] [(0,[0,3,5])] n fr h K) [40,41,39,0,3,5]=aGe C L dm rl (X K 0 [0,3,5]) n:=by refine lw [40,41,39,0,3,5] [40,41,39,0,3,5] (F:=fun kn xd xa xc B D E h=>aMp h B D E xc xd xa (X K 0 [0,3,5]) (fun xa xd xc B D E h=>aJd C h B D E xc xd xa (fun xa xd xc B D E h=>aPk h B D E xc xd xa kn))) ?_ ?_ (fun kn=>w6 fun xd xa xc B D E h=>(y 2 [41,40,39,0,3,5] ?_ (w6 fun xa xd xc B D E h=>(q [41,40,39,0,3,5] (fun k=>(bk 1 (aZs C L dm rl h _ B D E xc xd xa) ?_)) ?_ ?_)) ?_))<;>intros<;>kernel_rfl
noncomputable def aQx (kn:K3 Unit):=bHs C dm rl h B D E (fun xd xa xc B D E h=>aGe C L dm rl kn L xd xa xc B D E h)
theorem bBc:aU (rgP prog C 3 74 isR dm rl) L 3 [4] (g aRw 30) [0,3,5] [] (r3 0 3 5 B D E) h K=aQx C L dm rl h B D E (N K [0,3,5]):=by unfold aQx;refine(y 1 [40,41,39,0,3,5] ?_ (w6 fun xd xa xc B D E h=>(bk 0 (lp (c6 (aZa C L dm rl _ L) xd xa xc B D E h) ?_) ?_)) ?_)<;>intros<;>kernel_rfl
noncomputable def bHr (kr:K1 Unit):=bnd (A.z B) fun b=>bnd (A.u 1 b) fun c=>bnd (A.load false 1 c h) fun d=>bnd (A.u 1 D) fun e=>bnd (A.load false 1 e h) fun f=>bnd (A.zK false f E d h) fun k=>kr (.bool true) k
noncomputable def aJk (kr:K1 Unit):=aPl h B G kr (fun B D h=>bHt h B D (fun B D E h=>aQx C L dm rl h B D E (fun B D E h=>bHr h B D E kr)))
theorem bDn:aU (rgP prog C 3 74 isR dm rl) L 3 [4] (g aRw 1) [4] [] (r2 0 1 B G) h K=aJk C L dm rl h B G (R K [4]):=by unfold aJk;refine(y 2 [0,3] ?_ (w2 fun B D h=>(y 1 [0,3,5] ?_ (w3 fun B D E h=>(q [0,3,5] (fun k=>(bBc C L dm rl h _ B D E)) ?_ ?_)) ?_)) ?_)<;>intros<;>kernel_rfl
noncomputable def F20 (C:CF)(L:Nat)(dm:Dm)(rl:Rl)(Z:V→H→O Unit)(B G:V)(h:H):O Unit:=aJk C L dm rl h B G (fun P h=>Z P h)
def aXj {C:CF}{L:Nat}{dm:Dm}{rl:Rl}(ok:RelOK prog 3 isR dm rl){X:V→H→Prop}(B G:V)(h:H):=(tw ok Tryz.func20 (bDn C L dm rl h _ B G) (by kernel_rfl) (by kernel_rfl):F20 C L dm rl (fun v h=>okU (X v h)) B G h=some ()→dC prog C isR dm rl L 3 20 [B,G] h X)
noncomputable def bKb:Code:=(Tryz.f15.body).getD .skip
noncomputable def tC (kn:K2 Unit):=aF (A.box 35 G h) fun a b=>kn a B b
noncomputable def tB (kn:K3 Unit):=bnd (A.u 0 D) fun a=>bnd (A.load false 1 a h) fun b=>kn b D B h
noncomputable def tA (kn:K4 Unit):=bnd (A.zA prog .eql 5 W (.int .u8 1)) fun a=>aC a fun b=>kn (.bool b) W D B h
noncomputable def aPw (kn:K0 Unit):=bnd (A.u 4 D) fun a=>bnd (A.u 0 a) fun b=>bnd (A.load false 1 b h) fun c=>bnd (A.zA prog .eql 5 c (.int .u8 8)) fun d=>aC d fun e=>(bif e then
 bnd (A.z B) fun j=>bnd (A.u 2 j) fun k=>bnd (A.load false 1 k h) fun l=>bnd (A.u 1 D) fun m=>bnd (A.load false 1 m h) fun n=>bnd (A.zE false Z58 false n l h) fun o=>bnd (A.zA prog .eql 58 o (.pointer none)) fun p=>aC p fun q=>(bif q then
 bnd (A.u 1 D) fun t=>bnd (A.load false 1 t h) fun u=>aF (C 17 [B,u] h) fun v w=>kn w
 else
 kn h)
 else
 kn h)
noncomputable def aAu (kn:K4 Unit):=bnd (A.zA prog .eql 5 W (.int .u8 2)) fun a=>aC a fun b=>kn (.bool b) W D B h
noncomputable def bIb (kr:K1 Unit):=mJ isR dm rl C fun C=>bnd (A.load true 35 D h) fun b=>aF (C 18 [B,b] h) fun c d=>aC c fun e=>kr (.bool e) d
noncomputable def aCk (kn:K4 Unit):=bnd (A.zA prog .eql 5 W (.int .u8 5)) fun a=>aC a fun b=>kn (.bool b) W D B h
noncomputable def bIc (kr:K1 Unit):=mJ isR dm rl C fun C=>bnd (A.load true 35 D h) fun b=>aF (C 19 [B,b] h) fun c d=>aC c fun e=>kr (.bool e) d
noncomputable def aEs (kn:K4 Unit):=bnd (A.zA prog .eql 5 W (.int .u8 4)) fun a=>aC a fun b=>kn (.bool b) W D B h
noncomputable def bId (kr:K1 Unit):=mJ isR dm rl C fun C=>bnd (A.load true 35 D h) fun b=>aF (C 20 [B,b] h) fun c d=>aC c fun e=>kr (.bool e) d
noncomputable def aFw (kn:K4 Unit):=bnd (A.zA prog .eql 5 W (.int .u8 6)) fun a=>aC a fun b=>kn (.bool b) W D B h
noncomputable def bIe (kr:K1 Unit):=mJ isR dm rl C fun C=>bnd (A.load true 35 D h) fun b=>aF (C 21 [B,b] h) fun c d=>aC c fun e=>kr (.bool e) d
noncomputable def aIv (kn:K4 Unit):=bnd (A.zA prog .eql 5 W (.int .u8 7)) fun a=>aC a fun b=>kn (.bool b) W D B h
noncomputable def aVh (kr:K1 Unit):=bnd (A.z B) fun b=>bnd (A.u 1 b) fun c=>bnd (A.load false 1 c h) fun d=>bnd (A.u 1 D) fun e=>bnd (A.load false 1 e h) fun f=>bnd (A.zE false Z60 false f d h) fun i=>bnd (A.zA prog .neq 60 i (.pointer none)) fun j=>aC j fun k=>(bif k then
 mJ isR dm rl C fun C=>bnd (A.load true 35 D h) fun m=>aF (C 21 [B,m] h) fun n o=>aC n fun p=>kr (.bool p) o
 else
 bnd (A.load true 35 D h) fun s=>aF (C 22 [B,s] h) fun t u=>aC t fun v=>kr (.bool v) u)
noncomputable def aPx (kn:K4 Unit):=bnd (A.zA prog .eql 5 W (.int .u8 8)) fun a=>aC a fun b=>kn (.bool b) W D B h
noncomputable def bIf (kr:K1 Unit):=bnd (A.load true 35 D h) fun b=>aF (C 22 [B,b] h) fun c d=>aC c fun e=>kr (.bool e) d
noncomputable def aVi (kn:K3 Unit):=bnd (A.zA prog .eql 5 W (.int .u8 3)) fun a=>aC a fun b=>kn (.bool b) D B h
noncomputable def bIh (kn:K1 Unit):=mJ isR dm rl C fun C=>bnd (A.z B) fun c=>bnd (A.u 1 c) fun d=>bnd (A.load false 1 d h) fun e=>bnd (A.u 1 D) fun f=>bnd (A.load false 1 f h) fun i=>bnd (A.zE false Z60 false i e h) fun j=>aF (C 23 [B,j] h) fun k l=>aC k fun m=>(bif m then
 bnd (A.z B) fun q=>bnd (A.u 2 q) fun r=>bnd (A.load false 1 r l) fun s=>bnd (A.u 1 D) fun t=>bnd (A.load false 1 t l) fun u=>bnd (A.zE false Z58 false u s l) fun v=>aF (C 24 [B,v] l) fun w y=>aC w fun z=>kn (.bool z) y
 else
 kn (.bool false) l)
noncomputable def bIg (kr:K1 Unit):=kr P h
noncomputable def bIi (kn:K0 Unit):=kn h
noncomputable def qO (kr:K1 Unit)(kn:K0 Unit):=tB h B D (fun W D B h=>tA h B D W (fun Y W D B h=>aW Y (aPw C h B D kn) (aAu h B D W (fun xr W D B h=>aW xr (bIb C dm rl h B D kr) (aCk h B D W (fun xs W D B h=>aW xs (bIc C dm rl h B D kr) (aEs h B D W (fun xt W D B h=>aW xt (bId C dm rl h B D kr) (aFw h B D W (fun xu W D B h=>aW xu (bIe C dm rl h B D kr) (aIv h B D W (fun xp W D B h=>aW xp (aVh C dm rl h B D kr) (aPx h B D W (fun xv W D B h=>aW xv (bIf C h B D kr) (aVi h B D W (fun xw D B h=>aW xw (bIh C dm rl h B D (fun P h=>bIg h P kr)) (bIi h kn)))))))))))))))))
theorem bBo:aU (rgP prog C 3 90 isR dm rl) L 3 [4] (g bKb 6) [] [] (r2 3 0 D B) h K=qO C dm rl h B D (R K [4]) (N K []):=by unfold qO;refine(y 1 [6,3,0] ?_ (w3 fun W D B h=>(bk 0 (y 1 [7,6,3,0] ?_ (w4 fun Y W D B h=>(cd ?_ (y 1 [27,6,3,0] ?_ (w4 fun xr W D B h=>(cd ?_ (y 1 [32,6,3,0] ?_ (w4 fun xs W D B h=>(cd ?_ (y 1 [37,6,3,0] ?_ (w4 fun xt W D B h=>(cd ?_ (y 1 [42,6,3,0] ?_ (w4 fun xu W D B h=>(cd ?_ (y 1 [47,6,3,0] ?_ (w4 fun xp W D B h=>(cd ?_ (y 1 [63,6,3,0] ?_ (w4 fun xv W D B h=>(cd ?_ (y 1 [68,3,0] ?_ (w3 fun xw D B h=>(cd (y 1 [4] ?_ ?_ ?_) ?_ ?_)) ?_) ?_)) ?_) ?_)) ?_) ?_)) ?_) ?_)) ?_) ?_)) ?_) ?_)) ?_) ?_)) ?_) ?_)) ?_)<;>intros<;>kernel_rfl
noncomputable def aMt (kr:K1 Unit):=kr (.bool true) h
noncomputable def qP (kr:K1 Unit):=tC h B G (fun D B h=>qO C dm rl h B D kr (fun h=>aMt h kr))
theorem bDs:aU (rgP prog C 3 90 isR dm rl) L 3 [4] (g bKb 1) [4] [] (r2 0 1 B G) h K=qP C dm rl h B G (R K [4]):=by unfold qP;refine(y 1 [3,0] ?_ (w2 fun D B h=>(q [] (fun k=>(bBo C L dm rl h _ B D)) ?_ ?_)) ?_)<;>intros<;>kernel_rfl
noncomputable def F15 (C:CF)(L:Nat)(dm:Dm)(rl:Rl)(Z:V→H→O Unit)(B G:V)(h:H):O Unit:=qP C dm rl h B G (fun P h=>Z P h)
def bOm {C:CF}{L:Nat}{dm:Dm}{rl:Rl}(ok:RelOK prog 3 isR dm rl){X:V→H→Prop}(B G:V)(h:H):=(tw ok Tryz.func15 (bDs C L dm rl h _ B G) (by kernel_rfl) (by kernel_rfl):F15 C L dm rl (fun v h=>okU (X v h)) B G h=some ()→dC prog C isR dm rl L 3 15 [B,G] h X)
noncomputable def c6a:Code:=(Tryz.f6.body).getD .skip
noncomputable def bJk (kn:K2 Unit):=aF (C 14 [] h) fun c d=>aF (A.zJ d) fun e f=>aF (A.zJ f) fun i j=>bnd (A.zN Z48L [(0,1,c),(1,1,e),(2,1,i)]) fun k=>aF (A.box 4 k j) fun l m=>kn l B m
noncomputable def bGu (kn:K5 Unit):=bnd (A.zH B) fun b=>kn b (.int .i64 0) P B B h
noncomputable def aOv (kr:K2 Unit)(kx0:K1 Unit)(kn:K5 Unit):=bnd (A.zA prog .lss 3 S xl) fun a=>aW a (bnd (A.zL 35 J S) fun c=>bnd (A.load true 35 c h) fun d=>aF (A.box 35 Z36 h) fun e f=>bnd (A.store 35 e d f) fun k=>bnd (A.z P) fun n=>bnd (A.u 3 n) fun o=>bnd (A.store 1 o S k) fun q=>mJ isR dm rl C fun C=>bnd (A.load true 35 e q) fun s=>aF (C 15 [P,s] q) fun t u=>aC t fun v=>bnd (A.un prog .not (.bool v)) fun w=>aC w fun y=>(bif y then
 kr S (.bool false) u
 else
 bnd (A.zA prog .add 3 S (.int .i64 1)) fun c1=>kn xl c1 P J B u)) (kx0 B h)
noncomputable def aIx (C:CF)(L:Nat)(dm:Dm)(rl:Rl)(kr:K2 Unit)(kx0:K1 Unit):Nat→K5 Unit
 |0,_,_,_,_,_,_=>none
 |n+1,xl,S,P,J,B,h=>aOv C dm rl h B P J xl S kr kx0 (fun xl S P J B h=>aIx C L dm rl kr kx0 n xl S P J B h)
theorem aYl (C:CF)(L:Nat)(dm:Dm)(rl:Rl)(K:KK Unit):∀n,M (fun fr h=>Lw (rgP prog C 3 31 isR dm rl) L 3 [2,3] (g c6a 116) [13,14,4,12,0] [(0,[0])] n fr h K) [13,14,4,12,0]=aIx C L dm rl (R K [2,3]) (X K 0 [0]) n:=by refine lw [13,14,4,12,0] [13,14,4,12,0] (F:=fun kn xl S P J B h=>aOv C dm rl h B P J xl S (R K [2,3]) (X K 0 [0]) kn) ?_ ?_ ?_<;>intros<;>kernel_rfl
noncomputable def aQz (kr:K2 Unit)(kn:K1 Unit):=bGu h B P (fun xl S P J B h=>aIx C L dm rl kr kn L xl S P J B h)
theorem bBj:aU (rgP prog C 3 31 isR dm rl) L 3 [2,3] (g c6a 14) [0] [] (r2 4 0 P B) h K=aQz C L dm rl h B P (R K [2,3]) (N K [0]):=by unfold aQz;refine(y 1 [13,14,4,12,0] ?_ (w5 fun xl S P J B h=>(bk 0 (lp (c5 (aYl C L dm rl _ L) xl S P J B h) ?_) ?_)) ?_)<;>intros<;>kernel_rfl
noncomputable def bJn (kr:K2 Unit):=bnd (A.zH B) fun b=>kr b (.bool true) h
noncomputable def p6a (kr:K2 Unit):=bJk C h B (fun P B h=>aQz C L dm rl h B P kr (fun B h=>bJn h B kr))
theorem bMh:aU (rgP prog C 3 31 isR dm rl) L 3 [2,3] (g c6a 1) [2,3] [] (r1 0 B) h K=p6a C L dm rl h B (R K [2,3]):=by unfold p6a;refine(y 2 [4,0] ?_ (w2 fun P B h=>(q [0] (fun k=>(bBj C L dm rl h _ B P)) ?_ ?_)) ?_)<;>intros<;>kernel_rfl
noncomputable def F6 (C:CF)(L:Nat)(dm:Dm)(rl:Rl)(Z:V→H→O Unit)(B:V)(h:H):O Unit:=p6a C L dm rl h B (fun U D h=>Z (.tuple ⟨[U,D]⟩) h)
def F6W {C:CF}{L:Nat}{dm:Dm}{rl:Rl}(ok:RelOK prog 3 isR dm rl){X:V→H→Prop}(B:V)(h:H):=(tw ok Tryz.func6 (bMh C L dm rl h _ B) (by kernel_rfl) (by kernel_rfl):F6 C L dm rl (fun v h=>okU (X v h)) B h=some ()→dC prog C isR dm rl L 3 6 [B] h X)
noncomputable def c3a:Code:=(Tryz.f3.body).getD .skip
noncomputable def aNa (kn:K3 Unit):=kn U B G h
noncomputable def aMz (kn:K4 Unit):=aF (C 4 [B] h) fun b c=>aC b fun d=>(bif d then
 kn (.bool true) U B G c
 else
 aF (C 4 [G] c) fun l m=>aC l fun n=>(bif n then
 kn (.bool true) U B G m
 else
 bnd (A.zH G) fun s=>bnd (A.zA prog .gtr 3 s (.int .i64 50)) fun t=>aC t fun u=>kn (.bool u) U B G m))
noncomputable def aNi (kr:K1 Unit)(kn:K3 Unit):=aW xm (aF (C 5 [] h) fun a b=>aC a fun c=>kr (.bool c) b) (kn U B G h)
noncomputable def aGn (kr:K1 Unit)(kn:K3 Unit):=aMz C h B G U (fun xm U B G h=>aNi C h B G U xm kr kn)
theorem bBk:aU (rgP prog C 3 93 isR dm rl) L 3 [6] (g c3a 6) [2,0,1] [] (r3 2 0 1 U B G) h K=aGn C h B G U (R K [6]) (N K [2,0,1]):=by unfold aGn;refine(y 1 [25,2,0,1] ?_ ?_ ?_)<;>intros<;>kernel_rfl
noncomputable def bJg (kn:K5 Unit):=mJ isR dm rl C fun C=>aF (C 6 [B] h) fun b c=>bnd (A.zB 0 b) fun e=>bnd (A.zB 1 b) fun f=>aC f fun i=>kn U (.bool i) B G e c
noncomputable def bJf (kn:K6 Unit):=bnd (A.zA prog .lss 3 Y (.int .i64 0)) fun b=>aC b fun c=>(bif c then
 kn (.bool true) U I B G Y h
 else
 bnd (A.zH B) fun l=>bnd (A.zA prog .gtr 3 Y l) fun m=>aC m fun n=>(bif n then
 kn (.bool true) U I B G Y h
 else
 aC I fun s=>bnd (A.zH B) fun v=>bnd (A.zA prog .eql 3 Y v) fun w=>aC w fun y=>bnd (A.zA prog .neq 4 (.bool s) (.bool y)) fun z=>aC z fun a1=>kn (.bool a1) U I B G Y h))
noncomputable def bJj (kr:K1 Unit)(kn:K5 Unit):=aW xp (kr (.bool false) h) (kn U I B G Y h)
noncomputable def aQr (kr:K1 Unit)(kn:K5 Unit):=bJf h B G U Y I (fun xp U I B G Y h=>bJj h B G U Y I xp kr kn)
theorem bAt:aU (rgP prog C 3 93 isR dm rl) L 3 [6] (g c3a 30) [2,8,0,1,7] [] (r5 2 8 0 1 7 U I B G Y) h K=aQr h B G U Y I (R K [6]) (N K [2,8,0,1,7]):=by unfold aQr;refine(y 1 [47,2,8,0,1,7] ?_ ?_ ?_)<;>intros<;>kernel_rfl
noncomputable def bGz (kr:K1 Unit)(kn:K4 Unit):=bnd (A.conv prog 5 3 U) fun b=>bnd (A.zA prog .add 3 Y (.int .i64 1)) fun d=>bnd (A.zA prog .rem 3 b d) fun e=>mJ isR dm rl C fun C=>bnd (A.zM 35 B none (some e) none h) fun k=>aF (C 6 [k] h) fun l m=>bnd (A.zB 0 l) fun o=>bnd (A.zB 1 l) fun p=>aC p fun q=>bnd (A.zA prog .neq 3 o e) fun v=>aC v fun w=>(bif w then
 kr (.bool false) m
 else
 bnd (A.un prog .not (.bool q)) fun c1=>aC c1 fun d1=>(bif d1 then
 kr (.bool false) m
 else
 kn I B G Y m))
noncomputable def bGy (kr:K1 Unit):=aC I fun b=>(bif b then
 aF (C 5 [] h) fun c d=>aC c fun e=>kr (.bool e) d
 else
 bnd (A.zA prog .add 3 Y (.int .i64 1)) fun m=>bnd (A.zM 35 B none (some m) none h) fun n=>aF (A.zI 35 304 (.slice none 0 0) n h) fun o p=>aF (A.zI 35 304 o G p) fun t u=>mJ isR dm rl C fun C=>aF (C 6 [t] u) fun y z=>bnd (A.zB 0 y) fun b1=>bnd (A.zB 1 y) fun c1=>aC c1 fun d1=>bnd (A.zA prog .eql 3 b1 Y) fun k1=>aC k1 fun l1=>(bif l1 then
 bnd (A.un prog .not (.bool d1)) fun o1=>aC o1 fun p1=>(bif p1 then
 aF (C 5 [] z) fun s1 t1=>aC s1 fun u1=>kr (.bool u1) t1
 else
 kr (.bool false) z)
 else
 kr (.bool false) z))
noncomputable def p3a (kr:K1 Unit):=aNa h B G U (fun U B G h=>aGn C h B G U kr (fun U B G h=>bJg C dm rl h B G U (fun U I B G Y h=>aQr h B G U Y I kr (fun U I B G Y h=>bGz C dm rl h B G U Y I kr (fun I B G Y h=>bGy C dm rl h B G Y I kr)))))
theorem bMj:aU (rgP prog C 3 93 isR dm rl) L 3 [6] (g c3a 1) [6] [] (r3 0 1 2 B G U) h K=p3a C dm rl h B G U (R K [6]):=by unfold p3a;refine(y 1 [2,0,1] ?_ (w3 fun U B G h=>(q [2,0,1] (fun k=>(bBk C L dm rl h _ B G U)) (w3 fun U B G h=>(y 1 [2,8,0,1,7] ?_ (w5 fun U I B G Y h=>(q [2,8,0,1,7] (fun k=>(bAt C L dm rl h _ B G U Y I)) (w5 fun U I B G Y h=>(y 3 [8,0,1,7] ?_ ?_ ?_)) ?_)) ?_)) ?_)) ?_)<;>intros<;>kernel_rfl
noncomputable def F3 (C:CF)(L:Nat)(dm:Dm)(rl:Rl)(Z:V→H→O Unit)(B G U:V)(h:H):O Unit:=p3a C dm rl h B G U (fun W h=>Z W h)
def F3W {C:CF}{L:Nat}{dm:Dm}{rl:Rl}(ok:RelOK prog 3 isR dm rl){X:V→H→Prop}(B G U:V)(h:H):=(tw ok Tryz.func3 (bMj C L dm rl h _ B G U) (by kernel_rfl) (by kernel_rfl):F3 C L dm rl (fun v h=>okU (X v h)) B G U h=some ()→dC prog C isR dm rl L 3 3 [B,G,U] h X)
end Go.Proofs.YtpanfoafajepcaaGreatDoor.RaW
