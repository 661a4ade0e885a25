import Derived.Test.YtfodhidpefednaaGreatDoorProg
import Derived.Test.YtfodhidpefednaaGreatDoorRq
set_option linter.unusedVariables false
set_option linter.defProp false
set_option maxRecDepth 100000
namespace Go.Proofs.YtfodhidpefednaaGreatDoor.AnG
open Tryz (prog)
open Go Go.AM Go.AM.Pk
noncomputable def Z342L : List V := [(.int .u8 0),(.int .u8 0)]
noncomputable def Z342 : V := .agg ⟨Z342L⟩
variable (C : CF) (L : Nat) {β : Type} (h : H) (K : KK β) (x0 x1 x3 x4 x5 x6 x7 x8 x9 x10 x11 x12 x16 x24 x27 x31 x33 x160 x171 x175 x183 : V)
noncomputable def c160a : Code := (Tryz.f160.body).getD .skip
noncomputable abbrev E160 (C : CF) (L : Nat) {β : Type} (h : H) (K : KK β) (n : Nat) (o : List Nat) (v : List (Nat × List Nat)) (r : T Value) : O β := execK prog C L 4 187 [4] (g c160a n) o v r h K
noncomputable def paoP (kn : K2 β) : O β :=
 kn x1 x0 h
theorem epaoP : E160 C L h K 2 [1,0] [] (r2 0 1 x0 x1)=paoP h x0 x1 (N2 K 1 0) := by kernel_rfl
noncomputable def paoQ (kn : K3 β) : O β :=
 bnd (A.bin prog .leq 21 (.int .i32 0) x1) fun b =>
 toBK b fun c =>
 (bif c then
 bnd (A.bin prog .lss 21 x1 (.int .i32 128)) fun f =>
 toBK f fun i =>
 kn (.bool i) x1 x0 h
 else
 kn (.bool false) x1 x0 h)
theorem epaoQ : E160 C L h K 12 [160,1,0] [(0,[4])] (r2 1 0 x1 x0)=paoQ h x0 x1 (N3 K 160 1 0) := by kernel_rfl
noncomputable def pasE (kr : K1 β) : O β :=
 bnd (A.conv prog 21 5 x1) fun c =>
 bnd2 (C 213 [x0,c] h) fun d e =>
 kr d e
theorem epasE : E160 C L h K 26 [4] [(0,[4])] (r3 160 1 0 x160 x1 x0)=pasE C h x0 x1 (R1 K 4) := by kernel_rfl
noncomputable def panB (kn : K3 β) : O β :=
 bnd (A.bin prog .eql 21 x1 (.int .i32 65533)) fun b =>
 toBK b fun c =>
 kn (.bool c) x1 x0 h
theorem epanB : E160 C L h K 54 [171,1,0] [(0,[4])] (r3 160 1 0 x160 x1 x0)=panB h x0 x1 (N3 K 171 1 0) := by kernel_rfl
noncomputable def pasC (kn : K1 β) : O β :=
 bnd2 (A.rangeS x0 h) fun b c =>
 kn b c
theorem epasC : E160 C L h K 440 [175] [(0,[4])] (r3 171 1 0 x171 x1 x0)=pasC h x0 (N1 K 175) := by kernel_rfl
noncomputable def pasD (kr : K1 β) (kx9 : K0 β) (kn : K1 β) : O β :=
 bnd2 (A.nextS x175 h) fun a b =>
 bnd (A.extract 0 a) fun c =>
 toBK c fun d =>
 (bif d then
 bnd (A.extract 1 a) fun e =>
 bnd (A.extract 2 a) fun f =>
 bnd (A.bin prog .eql 21 f (.int .i32 65533)) fun l =>
 toBK l fun m =>
 (bif m then
 kr e b
 else
 kn x175 b)
 else
 kx9 b)
theorem epasD : E160 C L h K 1764 [175] [(9,[]),(0,[4])] (r1 175 x175)=pasD h x175 (R1 K 4) (X0 K 9) (N1 K 175) := by kernel_rfl
noncomputable def pajZ (C : CF) (L : Nat) {β : Type} (kr : K1 β) (kx9 : K0 β) : Nat → K1 β
 | 0,_,_ => none
 | n + 1,x175,h => pasD h x175 kr kx9 (fun x175 h=>pajZ C L kr kx9 n x175 h)
theorem epajZ (C : CF) (L : Nat) {β : Type} (K : KK β) : ∀ (n : Nat) (x175 : V) (h : H),loopK (fun fr h K=>execK prog C L 4 187 [4] (g c160a 1764) [175] [(9,[]),(0,[4])] fr h K) n (r1 175 x175) h K=pajZ C L (R1 K 4) (X0 K 9) n x175 h
 | 0,_,_ => rfl
 | n + 1,x175,h => (cg (epasD C L h _ x175) (by kernel_rfl)).trans (congrArg _ (w1 fun x175 h=>sl (epajZ C L K n x175 h)))
noncomputable def pahD (kr : K1 β) (kx9 : K0 β) : O β :=
 pajZ C L kr kx9 L x175 h
def epahD:=(lp [] (r1 175 x175) (epajZ C L K L x175 h) (by kernel_rfl) : _=pahD C L h x175 (R1 K 4) (X0 K 9))
noncomputable def pafP (kr : K1 β) (kn : K0 β) : O β :=
 pasC h x0 (fun x175 h=>pahD C L h x175 kr kn)
def epafP:=(sq K (epasC C L h _ x0 x1 x171) (congrArg _ (w1 fun x175 h=>sn (bk (epahD ..)))) (by kernel_rfl) : _=pafP C L h x0 (R1 K 4) (N0 K))
noncomputable def pavG (kr : K1 β) : O β :=
 kr (.int .i64 (-1)) h
theorem epavG : E160 C L h K 221 [4] [(0,[4])] r0=pavG h (R1 K 4) := by kernel_rfl
noncomputable def paeS (kr : K1 β) : O β :=
 pafP C L h x0 kr (fun h=>pavG h kr)
def epaeS:=(sq K (epafP C L h _ x0 x1 x171) (congrArg _ (w0 fun h=>sn (epavG ..))) (by kernel_rfl) : _=paeS C L h x0 (R1 K 4))
noncomputable def paoR (kn : K3 β) : O β :=
 bnd2 (C 214 [x1] h) fun b c =>
 toBK b fun d =>
 bnd (A.un prog .not (.bool d)) fun e =>
 toBK e fun f =>
 kn (.bool f) x1 x0 c
theorem epaoR : E160 C L h K 222 [183,1,0] [(0,[4])] (r3 171 1 0 x171 x1 x0)=paoR C h x0 x1 (N3 K 183 1 0) := by kernel_rfl
noncomputable def pasB (kr : K1 β) : O β :=
 kr (.int .i64 (-1)) h
theorem epasB : E160 C L h K 446 [4] [(0,[4])] (r3 183 1 0 x183 x1 x0)=pasB h (R1 K 4) := by kernel_rfl
noncomputable def parX (kn : K2 β) : O β :=
 bnd (A.conv prog 21 9 x1) fun b =>
 kn x0 b h
theorem eparX : E160 C L h K 1788 [0,7] [(0,[4])] (r3 183 1 0 x183 x1 x0)=parX h x0 x1 (N2 K 0 7) := by kernel_rfl
noncomputable def paoS (kn : K3 β) : O β :=
 bnd (A.lenStr x7) fun b =>
 bnd (A.bin prog .sub 3 b (.int .i64 1)) fun c =>
 kn c x0 x7 h
theorem epaoS : E160 C L h K 3578 [8,0,7] [(0,[4])] (r2 0 7 x0 x7)=paoS h x0 x7 (N3 K 8 0 7) := by kernel_rfl
noncomputable def paoT (kn : K4 β) : O β :=
 kn x8 x8 x0 x7 h
theorem epaoT : E160 C L h K 7158 [8,9,0,7] [(0,[4])] (r3 8 0 7 x8 x0 x7)=paoT h x0 x7 x8 (N4 K 8 9 0 7) := by kernel_rfl
noncomputable def paoU (kn : K4 β) : O β :=
 kn x8 x9 x0 x7 h
theorem epaoU : E160 C L h K 14318 [8,9,0,7] [(0,[4])] (r4 8 9 0 7 x8 x9 x0 x7)=paoU h x0 x7 x8 x9 (N4 K 8 9 0 7) := by kernel_rfl
noncomputable def paoV (kx1 : K0 β) (kn : K4 β) : O β :=
 bnd (A.lenStr x0) fun c =>
 bnd (A.bin prog .lss 3 x9 c) fun d =>
 toBK d fun e =>
 (bif e then
 kn x7 x0 x9 x8 h
 else
 kx1 h)
theorem epaoV : E160 C L h K 229104 [7,0,9,8] [(1,[]),(0,[4])] (r4 8 9 0 7 x8 x9 x0 x7)=paoV h x0 x7 x8 x9 (X0 K 1) (N4 K 7 0 9 8) := by kernel_rfl
noncomputable def parY (kn : K5 β) : O β :=
 bnd (A.indexStr x0 x9) fun c =>
 bnd (A.indexStr x7 x8) fun f =>
 bnd (A.bin prog .neq 5 c f) fun i =>
 toBK i fun j =>
 kn (.bool j) x7 x0 x9 x8 h
theorem eparY : E160 C L h K 3665680 [33,7,0,9,8] [(2,[8,9,0,7]),(1,[]),(0,[4])] (r4 7 0 9 8 x7 x0 x9 x8)=parY h x0 x7 x8 x9 (N5 K 33 7 0 9 8) := by kernel_rfl
noncomputable def parZ (kr : K1 β) (kn : K4 β) : O β :=
 condV x33 (
 bnd (A.bin prog .add 3 x9 (.int .i64 1)) fun c =>
 bnd (A.sliceStr x0 (some c) none) fun d =>
 bnd (A.indexStr x7 x8) fun i =>
 bnd2 (C 213 [d,i] h) fun j k =>
 bnd (A.bin prog .lss 3 j (.int .i64 0)) fun n =>
 toBK n fun o =>
 (bif o then
 kr (.int .i64 (-1)) k
 else
 bnd (A.bin prog .add 3 j (.int .i64 1)) fun s =>
 bnd (A.bin prog .add 3 x9 s) fun t =>
 kn x7 x0 t x8 k)) (
 kn x7 x0 x9 x8 h)
theorem eparZ : E160 C L h K 3665681 [7,0,9,8] [(2,[8,9,0,7]),(1,[]),(0,[4])] (r5 33 7 0 9 8 x33 x7 x0 x9 x8)=parZ C h x0 x7 x8 x9 x33 (R1 K 4) (N4 K 7 0 9 8) := by kernel_rfl
noncomputable def pahL (kr : K1 β) (kn : K4 β) : O β :=
 parY h x0 x7 x8 x9 (fun x33 x7 x0 x9 x8 h=>parZ C h x0 x7 x8 x9 x33 kr kn)
def epahL:=(sq K (eparY C L h _ x0 x7 x8 x9) (congrArg _ (w5 fun x33 x7 x0 x9 x8 h=>sn (eparZ ..))) (by kernel_rfl) : _=pahL C h x0 x7 x8 x9 (R1 K 4) (N4 K 7 0 9 8))
noncomputable def pavD (kn : K5 β) : O β :=
 kn (.int .i64 1) x7 x0 x9 x8 h
theorem epavD : E160 C L h K 7331364 [12,7,0,9,8] [(2,[8,9,0,7]),(1,[]),(0,[4])] (r4 7 0 9 8 x7 x0 x9 x8)=pavD h x0 x7 x8 x9 (N5 K 12 7 0 9 8) := by kernel_rfl
noncomputable def pavE (kx3 : K2 β) (kn : K5 β) : O β :=
 bnd (A.lenStr x7) fun c =>
 bnd (A.bin prog .lss 3 x12 c) fun d =>
 toBK d fun e =>
 (bif e then
 bnd (A.bin prog .sub 3 x9 x12) fun k =>
 bnd (A.indexStr x0 k) fun l =>
 bnd (A.bin prog .sub 3 x8 x12) fun p =>
 bnd (A.indexStr x7 p) fun q =>
 bnd (A.bin prog .neq 5 l q) fun r =>
 toBK r fun s =>
 (bif s then
 none
 else
 bnd (A.bin prog .add 3 x12 (.int .i64 1)) fun u =>
 kn u x7 x0 x9 x8 h)
 else
 kx3 x9 x8 h)
theorem epavE : E160 C L h K 29325460 [12,7,0,9,8] [(3,[9,8]),(2,[8,9,0,7]),(1,[]),(0,[4])] (r5 12 7 0 9 8 x12 x7 x0 x9 x8)=pavE h x0 x7 x8 x9 x12 (X2 K 3 9 8) (N5 K 12 7 0 9 8) := by kernel_rfl
noncomputable def paoW (C : CF) (L : Nat) {β : Type} (kx3 : K2 β) : Nat → K5 β
 | 0,_,_,_,_,_,_ => none
 | n + 1,x12,x7,x0,x9,x8,h => pavE h x0 x7 x8 x9 x12 kx3 (fun x12 x7 x0 x9 x8 h=>paoW C L kx3 n x12 x7 x0 x9 x8 h)
theorem epaoW (C : CF) (L : Nat) {β : Type} (K : KK β) : ∀ (n : Nat) (x12 x7 x0 x9 x8 : V) (h : H),loopK (fun fr h K=>execK prog C L 4 187 [4] (g c160a 29325460) [12,7,0,9,8] [(3,[9,8]),(2,[8,9,0,7]),(1,[]),(0,[4])] fr h K) n (r5 12 7 0 9 8 x12 x7 x0 x9 x8) h K=paoW C L (X2 K 3 9 8) n x12 x7 x0 x9 x8 h
 | 0,_,_,_,_,_,_ => rfl
 | n + 1,x12,x7,x0,x9,x8,h => (cg (epavE C L h _ x0 x7 x8 x9 x12) (by kernel_rfl)).trans (congrArg _ (w5 fun x12 x7 x0 x9 x8 h=>sl (epaoW C L K n x12 x7 x0 x9 x8 h)))
noncomputable def pahO (kx3 : K2 β) : O β :=
 paoW C L kx3 L x12 x7 x0 x9 x8 h
def epahO:=(lp [9,8] (r5 12 7 0 9 8 x12 x7 x0 x9 x8) (epaoW C L K L x12 x7 x0 x9 x8 h) (by kernel_rfl) : _=pahO C L h x0 x7 x8 x9 x12 (X2 K 3 9 8))
noncomputable def pagD (kn : K2 β) : O β :=
 pavD h x0 x7 x8 x9 (fun x12 x7 x0 x9 x8 h=>pahO C L h x0 x7 x8 x9 x12 kn)
def epagD:=(sq K (epavD C L h _ x0 x7 x8 x9) (congrArg _ (w5 fun x12 x7 x0 x9 x8 h=>sn (bk (epahO ..)))) (by kernel_rfl) : _=pagD C L h x0 x7 x8 x9 (N2 K 9 8))
noncomputable def pavF (kr : K1 β) : O β :=
 bnd (A.bin prog .sub 3 x9 x8) fun c =>
 kr c h
theorem epavF : E160 C L h K 3665683 [8,9,0,7] [(2,[8,9,0,7]),(1,[]),(0,[4])] (r2 9 8 x9 x8)=pavF h x8 x9 (R1 K 4) := by kernel_rfl
noncomputable def paeD (kr : K1 β) : O β :=
 pahL C h x0 x7 x8 x9 kr (fun x7 x0 x9 x8 h=>pagD C L h x0 x7 x8 x9 (fun x9 x8 h=>pavF h x8 x9 kr))
def epaeD:=(sq K (epahL C L h _ x0 x7 x8 x9) (congrArg _ (w4 fun x7 x0 x9 x8 h=>sn (sq K (epagD C L h _ x0 x7 x8 x9) (congrArg _ (w2 fun x9 x8 h=>sn (epavF ..))) (by kernel_rfl)))) (by kernel_rfl) : _=paeD C L h x0 x7 x8 x9 (R1 K 4))
noncomputable def padO (kr : K1 β) (kx1 : K0 β) : O β :=
 paoV h x0 x7 x8 x9 kx1 (fun x7 x0 x9 x8 h=>paeD C L h x0 x7 x8 x9 kr)
def epadO:=(sq K (epaoV C L h _ x0 x7 x8 x9) (congrArg _ (w4 fun x7 x0 x9 x8 h=>sn (bk (sc (epaeD ..))))) (by kernel_rfl) : _=padO C L h x0 x7 x8 x9 (R1 K 4) (X0 K 1))
noncomputable def pajN (C : CF) (L : Nat) {β : Type} (kr : K1 β) (kx1 : K0 β) : Nat → K4 β
 | 0,_,_,_,_,_ => none
 | n + 1,x8,x9,x0,x7,h => padO C L h x0 x7 x8 x9 kr kx1
theorem epajN (C : CF) (L : Nat) {β : Type} (K : KK β) : ∀ (n : Nat) (x8 x9 x0 x7 : V) (h : H),loopK (fun fr h K=>execK prog C L 4 187 [4] (g c160a 114552) [8,9,0,7] [(1,[]),(0,[4])] fr h K) n (r4 8 9 0 7 x8 x9 x0 x7) h K=pajN C L (R1 K 4) (X0 K 1) n x8 x9 x0 x7 h
 | 0,_,_,_,_,_ => rfl
 | n + 1,x8,x9,x0,x7,h => cg (epadO C L h _ x0 x7 x8 x9) (by kernel_rfl)
noncomputable def pacU (kr : K1 β) (kx1 : K0 β) : O β :=
 pajN C L kr kx1 L x8 x9 x0 x7 h
def epacU:=(lp [] (r4 8 9 0 7 x8 x9 x0 x7) (epajN C L K L x8 x9 x0 x7 h) (by kernel_rfl) : _=pacU C L h x0 x7 x8 x9 (R1 K 4) (X0 K 1))
noncomputable def pasA (kr : K1 β) : O β :=
 kr (.int .i64 (-1)) h
theorem epasA : E160 C L h K 57278 [1,9,7,0,8] [(0,[4])] r0=pasA h (R1 K 4) := by kernel_rfl
noncomputable def pabW (C : CF) (L : Nat) {β : Type} (x0 x7 : V) (h : H) (kr : K1 β) : O β :=
 paoS h x0 x7 (fun x8 x0 x7 h=>paoT h x0 x7 x8 (fun x8 x9 x0 x7 h=>paoU h x0 x7 x8 x9 (fun x8 x9 x0 x7 h=>pacU C L h x0 x7 x8 x9 kr (fun h=>pasA h kr))))
def epabW:=(sq K (epaoS C L h _ x0 x7) (congrArg _ (w3 fun x8 x0 x7 h=>sn (sq K (epaoT C L h _ x0 x7 x8) (congrArg _ (w4 fun x8 x9 x0 x7 h=>sn (sq K (epaoU C L h _ x0 x7 x8 x9) (congrArg _ (w4 fun x8 x9 x0 x7 h=>sn (sq K (bk (epacU C L h _ x0 x7 x8 x9)) (congrArg _ (w0 fun h=>sn (s0 K (g c160a 57279) [4] (epasA C L h _) (by kernel_rfl)))) (by kernel_rfl)))) (by kernel_rfl)))) (by kernel_rfl)))) (by kernel_rfl) : _=pabW C L x0 x7 h (R1 K 4))
noncomputable def pabP (kr : K1 β) : O β :=
 parX h x0 x1 (fun x0 x7 h=>pabW C L x0 x7 h kr)
def epabP:=(sq K (eparX C L h _ x0 x1 x183) (congrArg _ (w2 fun x0 x7 h=>sn (epabW ..))) (by kernel_rfl) : _=pabP C L h x0 x1 (R1 K 4))
noncomputable def pabJ (kr : K1 β) : O β :=
 condV x183 (pasB h kr) (pabP C L h x0 x1 kr)
def epabJ:=(cd K (.tmp 183) x183 (epasB C L h K x0 x1 x183) (sc (epabP C L h K x0 x1 x183)) (by kernel_rfl) : _=pabJ C L h x0 x1 x183 (R1 K 4))
noncomputable def pabE (kr : K1 β) : O β :=
 paoR C h x0 x1 (fun x183 x1 x0 h=>pabJ C L h x0 x1 x183 kr)
def epabE:=(sq K (epaoR C L h _ x0 x1 x171) (congrArg _ (w3 fun x183 x1 x0 h=>sn (epabJ ..))) (by kernel_rfl) : _=pabE C L h x0 x1 (R1 K 4))
noncomputable def paaT (kr : K1 β) : O β :=
 condV x171 (paeS C L h x0 kr) (pabE C L h x0 x1 kr)
def epaaT:=(cd K (.tmp 171) x171 (epaeS C L h K x0 x1 x171) (epabE C L h K x0 x1 x171) (by kernel_rfl) : _=paaT C L h x0 x1 x171 (R1 K 4))
noncomputable def paaP (C : CF) (L : Nat) {β : Type} (x160 x1 x0 : V) (h : H) (kr : K1 β) : O β :=
 panB h x0 x1 (fun x171 x1 x0 h=>paaT C L h x0 x1 x171 kr)
def epaaP:=(sq K (epanB C L h _ x0 x1 x160) (congrArg _ (w3 fun x171 x1 x0 h=>sn (epaaT ..))) (by kernel_rfl) : _=paaP C L x160 x1 x0 h (R1 K 4))
noncomputable def paaO (kr : K1 β) : O β :=
 condV x160 (pasE C h x0 x1 kr) (paaP C L x160 x1 x0 h kr)
def epaaO:=(cd K (.tmp 160) x160 (epasE C L h K x0 x1 x160) (epaaP C L h K x0 x1 x160) (by kernel_rfl) : _=paaO C L h x0 x1 x160 (R1 K 4))
noncomputable def paaK (kr : K1 β) : O β :=
 paoQ h x0 x1 (fun x160 x1 x0 h=>paaO C L h x0 x1 x160 kr)
def epaaK:=(sq K (epaoQ C L h _ x0 x1) (congrArg _ (w3 fun x160 x1 x0 h=>sn (epaaO ..))) (by kernel_rfl) : _=paaK C L h x0 x1 (R1 K 4))
noncomputable def paaJ (C : CF) (L : Nat) {β : Type} (x1 x0 : V) (h : H) (kr : K1 β) : O β :=
 paaK C L h x0 x1 kr
def epaaJ:=(bk (epaaK C L h _ x0 x1) : _=paaJ C L x1 x0 h (R1 K 4))
noncomputable def p160a (kr : K1 β) : O β :=
 paoP h x0 x1 (fun x1 x0 h=>paaJ C L x1 x0 h kr)
def ep160a:=(sq K (epaoP C L h _ x0 x1) (congrArg _ (w2 fun x1 x0 h=>sn (epaaJ ..))) (by kernel_rfl) : _=p160a C L h x0 x1 (R1 K 4))
noncomputable def F160 (C : CF) (L : Nat) (x0 x1 : V) (h : H) : O (V × H) :=
 p160a C L h x0 x1 (fun x4 h=>some (x4,h))
theorem F160eq (Q : Orc) (n : Nat) (x0 x1 : V) (h : H) (q : Q 160 [x0,x1]=none) : callO prog 4 Q (n + 1) 160 [x0,x1] h=F160 (callO prog 4 Q n) n x0 x1 h :=
 (tp q Tryz.func160 (ep160a (callO prog 4 Q n) n h _ x0 x1) (by kernel_rfl)).trans (by kernel_rfl)
noncomputable def c131a : Code := (Tryz.f131.body).getD .skip
noncomputable abbrev E131 (C : CF) (L : Nat) {β : Type} (h : H) (K : KK β) (n : Nat) (o : List Nat) (v : List (Nat × List Nat)) (r : T Value) : O β := execK prog C L 4 12 [2] (g c131a n) o v r h K
noncomputable def p131a (kr : K1 β) : O β :=
 bnd2 (C 159 [x0] h) fun c d =>
 bnd (A.extract 0 c) fun f =>
 bnd (A.extract 1 c) fun i =>
 bnd (A.bin prog .gtr 3 i (.int .i64 1)) fun m =>
 toBK m fun n =>
 kr (.bool n) d
theorem ep131a : E131 C L h K 1 [2] [] (r1 0 x0)=p131a C h x0 (R1 K 2) := by kernel_rfl
noncomputable def F131 (C : CF) (L : Nat) (x0 : V) (h : H) : O (V × H) :=
 p131a C h x0 (fun x2 h=>some (x2,h))
theorem F131eq (Q : Orc) (n : Nat) (x0 : V) (h : H) (q : Q 131 [x0]=none) : callO prog 4 Q (n + 1) 131 [x0] h=F131 (callO prog 4 Q n) n x0 h :=
 (tp q Tryz.func131 (ep131a (callO prog 4 Q n) n h _ x0) (by kernel_rfl)).trans (by kernel_rfl)
noncomputable def c159a : Code := (Tryz.f159.body).getD .skip
noncomputable abbrev E159 (C : CF) (L : Nat) {β : Type} (h : H) (K : KK β) (n : Nat) (o : List Nat) (v : List (Nat × List Nat)) (r : T Value) : O β := execK prog C L 4 19 [2,3] (g c159a n) o v r h K
noncomputable def p159a (kr : K2 β) : O β :=
 bnd (A.bin prog .neq 9 x0 (.string ⟨⟨[]⟩⟩)) fun d =>
 toBK d fun e =>
 (bif e then
 bnd (A.indexStr x0 (.int .i64 0)) fun j =>
 bnd (A.bin prog .lss 5 j (.int .u8 128)) fun k =>
 toBK k fun l =>
 (bif l then
 bnd (A.indexStr x0 (.int .i64 0)) fun o =>
 bnd (A.conv prog 5 21 o) fun p =>
 kr p (.int .i64 1) h
 else
 bnd2 (C 212 [x0] h) fun t u =>
 bnd (A.extract 0 t) fun w =>
 bnd (A.extract 1 t) fun y =>
 kr w y u)
 else
 bnd2 (C 212 [x0] h) fun d1 e1 =>
 bnd (A.extract 0 d1) fun i1 =>
 bnd (A.extract 1 d1) fun j1 =>
 kr i1 j1 e1)
theorem ep159a : E159 C L h K 1 [2,3] [] (r1 0 x0)=p159a C h x0 (R2 K 2 3) := by kernel_rfl
noncomputable def F159 (C : CF) (L : Nat) (x0 : V) (h : H) : O (V × H) :=
 p159a C h x0 (fun x2 x3 h=>some (.tuple ⟨[x2,x3]⟩,h))
theorem F159eq (Q : Orc) (n : Nat) (x0 : V) (h : H) (q : Q 159 [x0]=none) : callO prog 4 Q (n + 1) 159 [x0] h=F159 (callO prog 4 Q n) n x0 h :=
 (tp q Tryz.func159 (ep159a (callO prog 4 Q n) n h _ x0) (by kernel_rfl)).trans (by kernel_rfl)
noncomputable def c161a : Code := (Tryz.f161.body).getD .skip
noncomputable abbrev E161 (C : CF) (L : Nat) {β : Type} (h : H) (K : KK β) (n : Nat) (o : List Nat) (v : List (Nat × List Nat)) (r : T Value) : O β := execK prog C L 4 5 [2] (g c161a n) o v r h K
noncomputable def p161a (kr : K1 β) : O β :=
 bnd (A.bin prog .gtr 3 x0 (.int .i64 8)) fun c =>
 toBK c fun d =>
 kr (.bool d) h
theorem ep161a : E161 C L h K 1 [2] [] (r1 0 x0)=p161a h x0 (R1 K 2) := by kernel_rfl
noncomputable def F161 (C : CF) (L : Nat) (x0 : V) (h : H) : O (V × H) :=
 p161a h x0 (fun x2 h=>some (x2,h))
theorem F161eq (Q : Orc) (n : Nat) (x0 : V) (h : H) (q : Q 161 [x0]=none) : callO prog 4 Q (n + 1) 161 [x0] h=F161 (callO prog 4 Q n) n x0 h :=
 (tp q Tryz.func161 (ep161a (callO prog 4 Q n) n h _ x0) (by kernel_rfl)).trans (by kernel_rfl)
noncomputable def c163a : Code := (Tryz.f163.body).getD .skip
noncomputable abbrev E163 (C : CF) (L : Nat) {β : Type} (h : H) (K : KK β) (n : Nat) (o : List Nat) (v : List (Nat × List Nat)) (r : T Value) : O β := execK prog C L 4 10 [4] (g c163a n) o v r h K
noncomputable def p163a (kr : K1 β) : O β :=
 bnd (A.nilCheck x0) fun d =>
 bnd (A.idxA 256 1 d x1) fun e =>
 bnd (A.load false 1 e h) fun f =>
 toBK f fun i =>
 kr (.bool i) h
theorem ep163a : E163 C L h K 1 [4] [] (r2 0 1 x0 x1)=p163a h x0 x1 (R1 K 4) := by kernel_rfl
noncomputable def F163 (C : CF) (L : Nat) (x0 x1 : V) (h : H) : O (V × H) :=
 p163a h x0 x1 (fun x4 h=>some (x4,h))
theorem F163eq (Q : Orc) (n : Nat) (x0 x1 : V) (h : H) (q : Q 163 [x0,x1]=none) : callO prog 4 Q (n + 1) 163 [x0,x1] h=F163 (callO prog 4 Q n) n x0 x1 h :=
 (tp q Tryz.func163 (ep163a (callO prog 4 Q n) n h _ x0 x1) (by kernel_rfl)).trans (by kernel_rfl)
noncomputable def c165a : Code := (Tryz.f165.body).getD .skip
noncomputable abbrev E165 (C : CF) (L : Nat) {β : Type} (h : H) (K : KK β) (n : Nat) (o : List Nat) (v : List (Nat × List Nat)) (r : T Value) : O β := execK prog C L 4 34 [4] (g c165a n) o v r h K
noncomputable def pasF (kn : K2 β) : O β :=
 kn x0 x1 h
theorem epasF : E165 C L h K 2 [0,1] [] (r2 0 1 x0 x1)=pasF h x0 x1 (N2 K 0 1) := by kernel_rfl
noncomputable def pasG (kr : K1 β) (kn : K2 β) : O β :=
 bnd (A.lenStr x1) fun b =>
 bnd (A.bin prog .eql 3 b (.int .i64 0)) fun c =>
 toBK c fun d =>
 (bif d then
 bnd2 (C 217 [x0] h) fun f i =>
 bnd (A.bin prog .add 3 f (.int .i64 1)) fun j =>
 kr j i
 else
 kn x0 x1 h)
theorem epasG : E165 C L h K 6 [0,1] [] (r2 0 1 x0 x1)=pasG C h x0 x1 (R1 K 4) (N2 K 0 1) := by kernel_rfl
noncomputable def pasH (kr : K1 β) (kn : K2 β) : O β :=
 bnd (A.lenStr x1) fun b =>
 bnd (A.bin prog .eql 3 b (.int .i64 1)) fun c =>
 toBK c fun d =>
 (bif d then
 bnd (A.indexStr x1 (.int .i64 0)) fun i =>
 bnd2 (C 218 [x0,i] h) fun j k =>
 kr j k
 else
 kn x0 x1 h)
theorem epasH : E165 C L h K 14 [0,1] [] (r2 0 1 x0 x1)=pasH C h x0 x1 (R1 K 4) (N2 K 0 1) := by kernel_rfl
noncomputable def pavH (C : CF) (L : Nat) {β : Type} (x0 x1 : V) (h : H) (K : KK β) : O β :=
 execK prog C L 4 34 [4] (g c165a 15) [4] [] (r2 0 1 x0 x1) h K
theorem epavH : E165 C L h K 15 [4] [] (r2 0 1 x0 x1)=pavH C L x0 x1 h K := rfl
noncomputable def p165a (C : CF) (L : Nat) {β : Type} (x0 x1 : V) (h : H) (K : KK β) (kr : K1 β) : O β :=
 pasF h x0 x1 (fun x0 x1 h=>pasG C h x0 x1 kr (fun x0 x1 h=>pasH C h x0 x1 kr (fun x0 x1 h=>pavH C L x0 x1 h K)))
def ep165a:=(sq K (epasF C L h _ x0 x1) (congrArg _ (w2 fun x0 x1 h=>sn (sq K (epasG C L h _ x0 x1) (congrArg _ (w2 fun x0 x1 h=>sn (sq K (epasH C L h _ x0 x1) (congrArg _ (w2 fun x0 x1 h=>sn (epavH ..))) (by kernel_rfl)))) (by kernel_rfl)))) (by kernel_rfl) : _=p165a C L x0 x1 h K (R1 K 4))
noncomputable def F165 (C : CF) (L : Nat) (x0 x1 : V) (h : H) : O (V × H) :=
 p165a C L x0 x1 h (resK prog Tryz.f165 fun v h=>some (v,h)) (fun x4 h=>some (x4,h))
theorem F165eq (Q : Orc) (n : Nat) (x0 x1 : V) (h : H) (q : Q 165 [x0,x1]=none) : callO prog 4 Q (n + 1) 165 [x0,x1] h=F165 (callO prog 4 Q n) n x0 x1 h :=
 (tp q Tryz.func165 (ep165a (callO prog 4 Q n) n h _ x0 x1) (by kernel_rfl)).trans (by kernel_rfl)
noncomputable def c166a : Code := (Tryz.f166.body).getD .skip
noncomputable abbrev E166 (C : CF) (L : Nat) {β : Type} (h : H) (K : KK β) (n : Nat) (o : List Nat) (v : List (Nat × List Nat)) (r : T Value) : O β := execK prog C L 4 8 [4] (g c166a n) o v r h K
noncomputable def p166a (kr : K1 β) : O β :=
 bnd2 (C 219 [x0,x1] h) fun d e =>
 kr d e
theorem ep166a : E166 C L h K 1 [4] [] (r2 0 1 x0 x1)=p166a C h x0 x1 (R1 K 4) := by kernel_rfl
noncomputable def F166 (C : CF) (L : Nat) (x0 x1 : V) (h : H) : O (V × H) :=
 p166a C h x0 x1 (fun x4 h=>some (x4,h))
theorem F166eq (Q : Orc) (n : Nat) (x0 x1 : V) (h : H) (q : Q 166 [x0,x1]=none) : callO prog 4 Q (n + 1) 166 [x0,x1] h=F166 (callO prog 4 Q n) n x0 x1 h :=
 (tp q Tryz.func166 (ep166a (callO prog 4 Q n) n h _ x0 x1) (by kernel_rfl)).trans (by kernel_rfl)
noncomputable def c101a : Code := (Tryz.f101.body).getD .skip
noncomputable abbrev E101 (C : CF) (L : Nat) {β : Type} (h : H) (K : KK β) (n : Nat) (o : List Nat) (v : List (Nat × List Nat)) (r : T Value) : O β := execK prog C L 4 31 [2] (g c101a n) o v r h K
noncomputable def paqV (kn : K1 β) : O β :=
 kn x0 h
theorem epaqV : E101 C L h K 2 [0] [] (r1 0 x0)=paqV h x0 (N1 K 0) := by kernel_rfl
noncomputable def paqW (kr kn : K1 β) : O β :=
 bnd (A.lenStr x0) fun b =>
 bnd (A.bin prog .gtr 3 b (.int .i64 65535)) fun c =>
 toBK c fun d =>
 (bif d then
 kr (.int .i64 (-1)) h
 else
 kn x0 h)
theorem epaqW : E101 C L h K 6 [0] [] (r1 0 x0)=paqW h x0 (R1 K 2) (N1 K 0) := by kernel_rfl
noncomputable def paqX (kn : K2 β) : O β :=
 kn x0 (.int .i64 0) h
theorem epaqX : E101 C L h K 14 [0,3] [] (r1 0 x0)=paqX h x0 (N2 K 0 3) := by kernel_rfl
noncomputable def paqY (kn : K3 β) : O β :=
 bnd2 (A.rangeS x0 h) fun b c =>
 kn b x0 x3 c
theorem epaqY : E101 C L h K 60 [10,0,3] [] (r2 0 3 x0 x3)=paqY h x0 x3 (N3 K 10 0 3) := by kernel_rfl
noncomputable def pajK (kn : K5 β) : O β :=
 bnd2 (A.nextS x10 h) fun a b =>
 bnd (A.extract 0 a) fun c =>
 toBK c fun d =>
 kn (.bool d) x0 x10 a x3 b
theorem epajK : E101 C L h K 488 [12,0,10,11,3] [(0,[3])] (r3 10 0 3 x10 x0 x3)=pajK h x0 x3 x10 (N5 K 12 0 10 11 3) := by kernel_rfl
noncomputable def pajL (kx0 : K1 β) (kn : K4 β) : O β :=
 condV x12 (
 kn x11 x3 x10 x0 h) (
 kx0 x3 h)
theorem epajL : E101 C L h K 978 [11,3,10,0] [(0,[3])] (r5 12 0 10 11 3 x12 x0 x10 x11 x3)=pajL h x0 x3 x10 x11 x12 (X1 K 0 3) (N4 K 11 3 10 0) := by kernel_rfl
noncomputable def pakV (kn : K5 β) : O β :=
 bnd (A.extract 1 x11) fun a =>
 bnd (A.extract 2 x11) fun b =>
 kn b a x3 x10 x0 h
theorem epakV : E101 C L h K 3916 [5,4,3,10,0] [(1,[10,0,3]),(0,[3])] (r4 11 3 10 0 x11 x3 x10 x0)=pakV h x0 x3 x10 x11 (N5 K 5 4 3 10 0) := by kernel_rfl
noncomputable def pakW (kn : K4 β) : O β :=
 bnd (A.bin prog .eql 21 x5 (.int .i32 0)) fun b =>
 toBK b fun c =>
 (bif c then
 kn (.bool true) x3 x10 x0 h
 else
 bnd (A.bin prog .eql 21 x5 (.int .i32 65533)) fun i =>
 toBK i fun j =>
 (bif j then
 bnd (A.sliceStr x0 (some x4) none) fun n =>
 bnd2 (C 131 [n] h) fun o p =>
 toBK o fun q =>
 bnd (A.un prog .not (.bool q)) fun r =>
 toBK r fun s =>
 kn (.bool s) x3 x10 x0 p
 else
 kn (.bool false) x3 x10 x0 h))
theorem epakW : E101 C L h K 15668 [27,3,10,0] [(1,[10,0,3]),(0,[3])] (r5 5 4 3 10 0 x5 x4 x3 x10 x0)=pakW C h x0 x3 x4 x5 x10 (N4 K 27 3 10 0) := by kernel_rfl
noncomputable def pakX (kr : K1 β) (kn : K3 β) : O β :=
 condV x27 (
 kr (.int .i64 (-1)) h) (
 kn x3 x10 x0 h)
theorem epakX : E101 C L h K 15669 [3,10,0] [(1,[10,0,3]),(0,[3])] (r4 27 3 10 0 x27 x3 x10 x0)=pakX h x0 x3 x10 x27 (R1 K 2) (N3 K 3 10 0) := by kernel_rfl
noncomputable def pagC (kr : K1 β) (kn : K3 β) : O β :=
 pakW C h x0 x3 x4 x5 x10 (fun x27 x3 x10 x0 h=>pakX h x0 x3 x10 x27 kr kn)
def epagC:=(sq K (epakW C L h _ x0 x3 x4 x5 x10) (congrArg _ (w4 fun x27 x3 x10 x0 h=>sn (epakX ..))) (by kernel_rfl) : _=pagC C h x0 x3 x4 x5 x10 (R1 K 2) (N3 K 3 10 0))
noncomputable def paoC (kn : K3 β) : O β :=
 bnd (A.bin prog .add 3 x3 (.int .i64 1)) fun b =>
 kn x10 x0 b h
theorem epaoC : E101 C L h K 7835 [10,0,3] [(1,[10,0,3]),(0,[3])] (r3 3 10 0 x3 x10 x0)=paoC h x0 x3 x10 (N3 K 10 0 3) := by kernel_rfl
noncomputable def paeI (kr : K1 β) (kn : K3 β) : O β :=
 pakV h x0 x3 x10 x11 (fun x5 x4 x3 x10 x0 h=>pagC C h x0 x3 x4 x5 x10 kr (fun x3 x10 x0 h=>paoC h x0 x3 x10 kn))
def epaeI:=(sq K (epakV C L h _ x0 x3 x10 x11) (congrArg _ (w5 fun x5 x4 x3 x10 x0 h=>sn (sq K (epagC C L h _ x0 x3 x4 x5 x10) (congrArg _ (w3 fun x3 x10 x0 h=>sn (epaoC ..))) (by kernel_rfl)))) (by kernel_rfl) : _=paeI C h x0 x3 x10 x11 (R1 K 2) (N3 K 10 0 3))
noncomputable def pacY (kr kx0 : K1 β) (kn : K3 β) : O β :=
 pajK h x0 x3 x10 (fun x12 x0 x10 x11 x3 h=>pajL h x0 x3 x10 x11 x12 kx0 (fun x11 x3 x10 x0 h=>paeI C h x0 x3 x10 x11 kr kn))
def epacY:=(sq K (epajK C L h _ x0 x3 x10) (congrArg _ (w5 fun x12 x0 x10 x11 x3 h=>sn (sq K (epajL C L h _ x0 x3 x10 x11 x12) (congrArg _ (w4 fun x11 x3 x10 x0 h=>sn (bk (epaeI ..)))) (by kernel_rfl)))) (by kernel_rfl) : _=pacY C h x0 x3 x10 (R1 K 2) (X1 K 0 3) (N3 K 10 0 3))
noncomputable def pahU (C : CF) (L : Nat) {β : Type} (kr kx0 : K1 β) : Nat → K3 β
 | 0,_,_,_,_ => none
 | n + 1,x10,x0,x3,h => pacY C h x0 x3 x10 kr kx0 (fun x10 x0 x3 h=>pahU C L kr kx0 n x10 x0 x3 h)
theorem epahU (C : CF) (L : Nat) {β : Type} (K : KK β) : ∀ (n : Nat) (x10 x0 x3 : V) (h : H),loopK (fun fr h K=>execK prog C L 4 31 [2] (g c101a 244) [10,0,3] [(0,[3])] fr h K) n (r3 10 0 3 x10 x0 x3) h K=pahU C L (R1 K 2) (X1 K 0 3) n x10 x0 x3 h
 | 0,_,_,_,_ => rfl
 | n + 1,x10,x0,x3,h => (cg (epacY C L h _ x0 x3 x10) (by kernel_rfl)).trans (congrArg _ (w3 fun x10 x0 x3 h=>sl (epahU C L K n x10 x0 x3 h)))
noncomputable def pacF (kr kx0 : K1 β) : O β :=
 pahU C L kr kx0 L x10 x0 x3 h
def epacF:=(lp [3] (r3 10 0 3 x10 x0 x3) (epahU C L K L x10 x0 x3 h) (by kernel_rfl) : _=pacF C L h x0 x3 x10 (R1 K 2) (X1 K 0 3))
noncomputable def pacA (kr kn : K1 β) : O β :=
 paqY h x0 x3 (fun x10 x0 x3 h=>pacF C L h x0 x3 x10 kr kn)
def epacA:=(sq K (epaqY C L h _ x0 x3) (congrArg _ (w3 fun x10 x0 x3 h=>sn (bk (epacF ..)))) (by kernel_rfl) : _=pacA C L h x0 x3 (R1 K 2) (N1 K 3))
noncomputable def pakY (C : CF) (L : Nat) {β : Type} (x3 : V) (h : H) (kr : K1 β) : O β :=
 kr x3 h
theorem epakY : E101 C L h K 31 [2] [] (r1 3 x3)=pakY C L x3 h (R1 K 2) := by kernel_rfl
noncomputable def p101a (kr : K1 β) : O β :=
 paqV h x0 (fun x0 h=>paqW h x0 kr (fun x0 h=>paqX h x0 (fun x0 x3 h=>pacA C L h x0 x3 kr (fun x3 h=>pakY C L x3 h kr))))
def ep101a:=(sq K (epaqV C L h _ x0) (congrArg _ (w1 fun x0 h=>sn (sq K (epaqW C L h _ x0) (congrArg _ (w1 fun x0 h=>sn (sq K (epaqX C L h _ x0) (congrArg _ (w2 fun x0 x3 h=>sn (sq K (epacA C L h _ x0 x3) (congrArg _ (w1 fun x3 h=>sn (epakY ..))) (by kernel_rfl)))) (by kernel_rfl)))) (by kernel_rfl)))) (by kernel_rfl) : _=p101a C L h x0 (R1 K 2))
noncomputable def F101 (C : CF) (L : Nat) (x0 : V) (h : H) : O (V × H) :=
 p101a C L h x0 (fun x2 h=>some (x2,h))
theorem F101eq (Q : Orc) (n : Nat) (x0 : V) (h : H) (q : Q 101 [x0]=none) : callO prog 4 Q (n + 1) 101 [x0] h=F101 (callO prog 4 Q n) n x0 h :=
 (tp q Tryz.func101 (ep101a (callO prog 4 Q n) n h _ x0) (by kernel_rfl)).trans (by kernel_rfl)
noncomputable def c77a : Code := (Tryz.f77.body).getD .skip
noncomputable abbrev E77 (C : CF) (L : Nat) {β : Type} (h : H) (K : KK β) (n : Nat) (o : List Nat) (v : List (Nat × List Nat)) (r : T Value) : O β := execK prog C L 4 6 [2] (g c77a n) o v r h K
noncomputable def p77a (kr : K1 β) : O β :=
 bnd2 (C 101 [x0] h) fun c d =>
 bnd (A.bin prog .geq 3 c (.int .i64 0)) fun e =>
 toBK e fun f =>
 kr (.bool f) d
theorem ep77a : E77 C L h K 1 [2] [] (r1 0 x0)=p77a C h x0 (R1 K 2) := by kernel_rfl
noncomputable def F77 (C : CF) (L : Nat) (x0 : V) (h : H) : O (V × H) :=
 p77a C h x0 (fun x2 h=>some (x2,h))
theorem F77eq (Q : Orc) (n : Nat) (x0 : V) (h : H) (q : Q 77 [x0]=none) : callO prog 4 Q (n + 1) 77 [x0] h=F77 (callO prog 4 Q n) n x0 h :=
 (tp q Tryz.func77 (ep77a (callO prog 4 Q n) n h _ x0) (by kernel_rfl)).trans (by kernel_rfl)
noncomputable def c212a : Code := (Tryz.f212.body).getD .skip
noncomputable abbrev E212 (C : CF) (L : Nat) {β : Type} (h : H) (K : KK β) (n : Nat) (o : List Nat) (v : List (Nat × List Nat)) (r : T Value) : O β := execK prog C L 4 117 [2,3] (g c212a n) o v r h K
noncomputable def papB (kn : K1 β) : O β :=
 kn x0 h
theorem epapB : E212 C L h K 2 [0] [] (r1 0 x0)=papB h x0 (N1 K 0) := by kernel_rfl
noncomputable def papC (kn : K2 β) : O β :=
 bnd (A.lenStr x0) fun b =>
 kn b x0 h
theorem epapC : E212 C L h K 6 [4,0] [] (r1 0 x0)=papC h x0 (N2 K 4 0) := by kernel_rfl
noncomputable def papD (kr kn : K2 β) : O β :=
 bnd (A.bin prog .lss 3 x4 (.int .i64 1)) fun b =>
 toBK b fun c =>
 (bif c then
 kr (.int .i32 65533) (.int .i64 0) h
 else
 kn x4 x0 h)
theorem epapD : E212 C L h K 14 [4,0] [] (r2 4 0 x4 x0)=papD h x0 x4 (R2 K 2 3) (N2 K 4 0) := by kernel_rfl
noncomputable def papE (kn : K3 β) : O β :=
 bnd (A.indexStr x0 (.int .i64 0)) fun b =>
 kn x4 x0 b h
theorem epapE : E212 C L h K 30 [4,0,5] [] (r2 4 0 x4 x0)=papE h x0 x4 (N3 K 4 0 5) := by kernel_rfl
noncomputable def papF (kn : K4 β) : O β :=
 bnd (A.idxA 256 1 (.pointer (some ⟨0,0,none⟩)) x5) fun b =>
 bnd (A.load false 1 b h) fun c =>
 kn c x4 x0 x5 h
theorem epapF : E212 C L h K 62 [6,4,0,5] [] (r3 4 0 5 x4 x0 x5)=papF h x0 x4 x5 (N4 K 6 4 0 5) := by kernel_rfl
noncomputable def papG (kr : K2 β) (kn : K4 β) : O β :=
 bnd (A.bin prog .geq 5 x6 (.int .u8 240)) fun b =>
 toBK b fun c =>
 (bif c then
 bnd (A.conv prog 5 21 x6) fun e =>
 bnd (A.bin prog .shl 21 e (.int .u64 31)) fun f =>
 bnd (A.bin prog .shr 21 f (.int .u64 31)) fun i =>
 bnd (A.indexStr x0 (.int .i64 0)) fun l =>
 bnd (A.conv prog 5 21 l) fun m =>
 bnd (A.bin prog .andNot 21 m i) fun o =>
 bnd (A.bin prog .and 21 (.int .i32 65533) i) fun q =>
 bnd (A.bin prog .or 21 o q) fun r =>
 kr r (.int .i64 1) h
 else
 kn x6 x4 x0 x5 h)
theorem epapG : E212 C L h K 126 [6,4,0,5] [] (r4 6 4 0 5 x6 x4 x0 x5)=papG h x0 x4 x5 x6 (R2 K 2 3) (N4 K 6 4 0 5) := by kernel_rfl
noncomputable def pasL (kn : K5 β) : O β :=
 bnd (A.bin prog .and 5 x6 (.int .u8 7)) fun b =>
 bnd (A.conv prog 5 3 b) fun c =>
 kn x6 x4 c x0 x5 h
theorem epasL : E212 C L h K 254 [6,4,8,0,5] [] (r4 6 4 0 5 x6 x4 x0 x5)=pasL h x0 x4 x5 x6 (N5 K 6 4 8 0 5) := by kernel_rfl
noncomputable def pasM (kn : K5 β) : O β :=
 bnd (A.bin prog .shr 5 x6 (.int .u64 4)) fun b =>
 bnd (A.idxA 16 2 (.pointer (some ⟨1,0,none⟩)) b) fun c =>
 bnd (A.load true 2 c h) fun d =>
 bnd2 (A.box 2 Z342 h) fun e f =>
 bnd (A.store 2 e d f) fun j =>
 kn x4 e x8 x0 x5 j
theorem epasM : E212 C L h K 510 [4,9,8,0,5] [] (r5 6 4 8 0 5 x6 x4 x8 x0 x5)=pasM h x0 x4 x5 x6 x8 (N5 K 4 9 8 0 5) := by kernel_rfl
noncomputable def pakA (kr : K2 β) (kn : K4 β) : O β :=
 bnd (A.bin prog .lss 3 x4 x8) fun c =>
 toBK c fun d =>
 (bif d then
 kr (.int .i32 65533) (.int .i64 1) h
 else
 kn x9 x8 x0 x5 h)
theorem epakA : E212 C L h K 1022 [9,8,0,5] [] (r5 4 9 8 0 5 x4 x9 x8 x0 x5)=pakA h x0 x4 x5 x8 x9 (R2 K 2 3) (N4 K 9 8 0 5) := by kernel_rfl
noncomputable def palE (kn : K5 β) : O β :=
 bnd (A.indexStr x0 (.int .i64 1)) fun b =>
 kn x9 x8 x0 x5 b h
theorem epalE : E212 C L h K 2046 [9,8,0,5,10] [] (r4 9 8 0 5 x9 x8 x0 x5)=palE h x0 x5 x8 x9 (N5 K 9 8 0 5 10) := by kernel_rfl
noncomputable def palF (kr : K2 β) (kn : K4 β) : O β :=
 bnd (A.fieldAddr 0 x9) fun b =>
 bnd (A.load false 1 b h) fun c =>
 bnd (A.bin prog .lss 5 x10 c) fun d =>
 toBK d fun e =>
 (bif e then
 kr (.int .i32 65533) (.int .i64 1) h
 else
 bnd (A.fieldAddr 1 x9) fun l =>
 bnd (A.load false 1 l h) fun m =>
 bnd (A.bin prog .lss 5 m x10) fun o =>
 toBK o fun p =>
 (bif p then
 kr (.int .i32 65533) (.int .i64 1) h
 else
 kn x8 x0 x5 x10 h))
theorem epalF : E212 C L h K 4094 [8,0,5,10] [] (r5 9 8 0 5 10 x9 x8 x0 x5 x10)=palF h x0 x5 x8 x9 x10 (R2 K 2 3) (N4 K 8 0 5 10) := by kernel_rfl
noncomputable def papH (kr : K2 β) (kn : K4 β) : O β :=
 bnd (A.bin prog .leq 3 x8 (.int .i64 2)) fun b =>
 toBK b fun c =>
 (bif c then
 bnd (A.bin prog .and 5 x5 (.int .u8 31)) fun e =>
 bnd (A.conv prog 5 21 e) fun f =>
 bnd (A.bin prog .shl 21 f (.int .u64 6)) fun i =>
 bnd (A.bin prog .and 5 x10 (.int .u8 63)) fun k =>
 bnd (A.conv prog 5 21 k) fun l =>
 bnd (A.bin prog .or 21 i l) fun m =>
 kr m (.int .i64 2) h
 else
 kn x8 x0 x5 x10 h)
theorem epapH : E212 C L h K 8190 [8,0,5,10] [] (r4 8 0 5 10 x8 x0 x5 x10)=papH h x0 x5 x8 x10 (R2 K 2 3) (N4 K 8 0 5 10) := by kernel_rfl
noncomputable def pasN (kn : K5 β) : O β :=
 bnd (A.indexStr x0 (.int .i64 2)) fun b =>
 kn x8 x0 x5 x10 b h
theorem epasN : E212 C L h K 16382 [8,0,5,10,11] [] (r4 8 0 5 10 x8 x0 x5 x10)=pasN h x0 x5 x8 x10 (N5 K 8 0 5 10 11) := by kernel_rfl
noncomputable def pajP (kr : K2 β) (kn : K5 β) : O β :=
 bnd (A.bin prog .lss 5 x11 (.int .u8 128)) fun b =>
 toBK b fun c =>
 (bif c then
 kr (.int .i32 65533) (.int .i64 1) h
 else
 bnd (A.bin prog .lss 5 (.int .u8 191) x11) fun k =>
 toBK k fun l =>
 (bif l then
 kr (.int .i32 65533) (.int .i64 1) h
 else
 kn x8 x0 x5 x10 x11 h))
theorem epajP : E212 C L h K 32766 [8,0,5,10,11] [] (r5 8 0 5 10 11 x8 x0 x5 x10 x11)=pajP h x0 x5 x8 x10 x11 (R2 K 2 3) (N5 K 8 0 5 10 11) := by kernel_rfl
noncomputable def palG (kr : K2 β) (kn : K4 β) : O β :=
 bnd (A.bin prog .leq 3 x8 (.int .i64 3)) fun b =>
 toBK b fun c =>
 (bif c then
 bnd (A.bin prog .and 5 x5 (.int .u8 15)) fun e =>
 bnd (A.conv prog 5 21 e) fun f =>
 bnd (A.bin prog .shl 21 f (.int .u64 12)) fun i =>
 bnd (A.bin prog .and 5 x10 (.int .u8 63)) fun k =>
 bnd (A.conv prog 5 21 k) fun l =>
 bnd (A.bin prog .shl 21 l (.int .u64 6)) fun m =>
 bnd (A.bin prog .or 21 i m) fun n =>
 bnd (A.bin prog .and 5 x11 (.int .u8 63)) fun p =>
 bnd (A.conv prog 5 21 p) fun q =>
 bnd (A.bin prog .or 21 n q) fun r =>
 kr r (.int .i64 3) h
 else
 kn x0 x5 x10 x11 h)
theorem epalG : E212 C L h K 65534 [0,5,10,11] [] (r5 8 0 5 10 11 x8 x0 x5 x10 x11)=palG h x0 x5 x8 x10 x11 (R2 K 2 3) (N4 K 0 5 10 11) := by kernel_rfl
noncomputable def panD (kr : K2 β) : O β :=
 bnd (A.indexStr x0 (.int .i64 3)) fun b =>
 bnd (A.bin prog .lss 5 b (.int .u8 128)) fun e =>
 toBK e fun f =>
 (bif f then
 kr (.int .i32 65533) (.int .i64 1) h
 else
 bnd (A.bin prog .lss 5 (.int .u8 191) b) fun n =>
 toBK n fun o =>
 (bif o then
 kr (.int .i32 65533) (.int .i64 1) h
 else
 bnd (A.bin prog .and 5 x5 (.int .u8 7)) fun t =>
 bnd (A.conv prog 5 21 t) fun u =>
 bnd (A.bin prog .shl 21 u (.int .u64 18)) fun v =>
 bnd (A.bin prog .and 5 x10 (.int .u8 63)) fun y =>
 bnd (A.conv prog 5 21 y) fun z =>
 bnd (A.bin prog .shl 21 z (.int .u64 12)) fun a1 =>
 bnd (A.bin prog .or 21 v a1) fun b1 =>
 bnd (A.bin prog .and 5 x11 (.int .u8 63)) fun d1 =>
 bnd (A.conv prog 5 21 d1) fun e1 =>
 bnd (A.bin prog .shl 21 e1 (.int .u64 6)) fun f1 =>
 bnd (A.bin prog .or 21 b1 f1) fun i1 =>
 bnd (A.bin prog .and 5 b (.int .u8 63)) fun k1 =>
 bnd (A.conv prog 5 21 k1) fun l1 =>
 bnd (A.bin prog .or 21 i1 l1) fun m1 =>
 kr m1 (.int .i64 4) h))
theorem epanD : E212 C L h K 65535 [2,3] [] (r4 0 5 10 11 x0 x5 x10 x11)=panD h x0 x5 x10 x11 (R2 K 2 3) := by kernel_rfl
noncomputable def pafE (C : CF) (L : Nat) {β : Type} (x8 x0 x5 x10 x11 : V) (h : H) (kr : K2 β) : O β :=
 pajP h x0 x5 x8 x10 x11 kr (fun x8 x0 x5 x10 x11 h=>palG h x0 x5 x8 x10 x11 kr (fun x0 x5 x10 x11 h=>panD h x0 x5 x10 x11 kr))
def epafE:=(sq K (epajP C L h _ x0 x5 x8 x10 x11) (congrArg _ (w5 fun x8 x0 x5 x10 x11 h=>sn (sq K (epalG C L h _ x0 x5 x8 x10 x11) (congrArg _ (w4 fun x0 x5 x10 x11 h=>sn (epanD ..))) (by kernel_rfl)))) (by kernel_rfl) : _=pafE C L x8 x0 x5 x10 x11 h (R2 K 2 3))
noncomputable def pacQ (C : CF) (L : Nat) {β : Type} (x4 x9 x8 x0 x5 : V) (h : H) (kr : K2 β) : O β :=
 pakA h x0 x4 x5 x8 x9 kr (fun x9 x8 x0 x5 h=>palE h x0 x5 x8 x9 (fun x9 x8 x0 x5 x10 h=>palF h x0 x5 x8 x9 x10 kr (fun x8 x0 x5 x10 h=>papH h x0 x5 x8 x10 kr (fun x8 x0 x5 x10 h=>pasN h x0 x5 x8 x10 (fun x8 x0 x5 x10 x11 h=>pafE C L x8 x0 x5 x10 x11 h kr)))))
def epacQ:=(sq K (epakA C L h _ x0 x4 x5 x8 x9) (congrArg _ (w4 fun x9 x8 x0 x5 h=>sn (sq K (epalE C L h _ x0 x5 x8 x9) (congrArg _ (w5 fun x9 x8 x0 x5 x10 h=>sn (sq K (epalF C L h _ x0 x5 x8 x9 x10) (congrArg _ (w4 fun x8 x0 x5 x10 h=>sn (sq K (epapH C L h _ x0 x5 x8 x10) (congrArg _ (w4 fun x8 x0 x5 x10 h=>sn (sq K (epasN C L h _ x0 x5 x8 x10) (congrArg _ (w5 fun x8 x0 x5 x10 x11 h=>sn (epafE ..))) (by kernel_rfl)))) (by kernel_rfl)))) (by kernel_rfl)))) (by kernel_rfl)))) (by kernel_rfl) : _=pacQ C L x4 x9 x8 x0 x5 h (R2 K 2 3))
noncomputable def p212a (C : CF) (L : Nat) {β : Type} (x0 : V) (h : H) (kr : K2 β) : O β :=
 papB h x0 (fun x0 h=>papC h x0 (fun x4 x0 h=>papD h x0 x4 kr (fun x4 x0 h=>papE h x0 x4 (fun x4 x0 x5 h=>papF h x0 x4 x5 (fun x6 x4 x0 x5 h=>papG h x0 x4 x5 x6 kr (fun x6 x4 x0 x5 h=>pasL h x0 x4 x5 x6 (fun x6 x4 x8 x0 x5 h=>pasM h x0 x4 x5 x6 x8 (fun x4 x9 x8 x0 x5 h=>pacQ C L x4 x9 x8 x0 x5 h kr))))))))
def ep212a:=(sq K (epapB C L h _ x0) (congrArg _ (w1 fun x0 h=>sn (sq K (epapC C L h _ x0) (congrArg _ (w2 fun x4 x0 h=>sn (sq K (epapD C L h _ x0 x4) (congrArg _ (w2 fun x4 x0 h=>sn (sq K (epapE C L h _ x0 x4) (congrArg _ (w3 fun x4 x0 x5 h=>sn (sq K (epapF C L h _ x0 x4 x5) (congrArg _ (w4 fun x6 x4 x0 x5 h=>sn (sq K (epapG C L h _ x0 x4 x5 x6) (congrArg _ (w4 fun x6 x4 x0 x5 h=>sn (sq K (epasL C L h _ x0 x4 x5 x6) (congrArg _ (w5 fun x6 x4 x8 x0 x5 h=>sn (sq K (epasM C L h _ x0 x4 x5 x6 x8) (congrArg _ (w5 fun x4 x9 x8 x0 x5 h=>sn (epacQ ..))) (by kernel_rfl)))) (by kernel_rfl)))) (by kernel_rfl)))) (by kernel_rfl)))) (by kernel_rfl)))) (by kernel_rfl)))) (by kernel_rfl)))) (by kernel_rfl) : _=p212a C L x0 h (R2 K 2 3))
noncomputable def F212 (C : CF) (L : Nat) (x0 : V) (h : H) : O (V × H) :=
 p212a C L x0 h (fun x2 x3 h=>some (.tuple ⟨[x2,x3]⟩,h))
theorem F212eq (Q : Orc) (n : Nat) (x0 : V) (h : H) (q : Q 212 [x0]=none) : callO prog 4 Q (n + 1) 212 [x0] h=F212 (callO prog 4 Q n) n x0 h :=
 (tp q Tryz.func212 (ep212a (callO prog 4 Q n) n h _ x0) (by kernel_rfl)).trans (by kernel_rfl)
noncomputable def c213a : Code := (Tryz.f213.body).getD .skip
noncomputable abbrev E213 (C : CF) (L : Nat) {β : Type} (h : H) (K : KK β) (n : Nat) (o : List Nat) (v : List (Nat × List Nat)) (r : T Value) : O β := execK prog C L 4 8 [4] (g c213a n) o v r h K
noncomputable def p213a (kr : K1 β) : O β :=
 bnd2 (C 251 [x0,x1] h) fun d e =>
 kr d e
theorem ep213a : E213 C L h K 1 [4] [] (r2 0 1 x0 x1)=p213a C h x0 x1 (R1 K 4) := by kernel_rfl
noncomputable def F213 (C : CF) (L : Nat) (x0 x1 : V) (h : H) : O (V × H) :=
 p213a C h x0 x1 (fun x4 h=>some (x4,h))
theorem F213eq (Q : Orc) (n : Nat) (x0 x1 : V) (h : H) (q : Q 213 [x0,x1]=none) : callO prog 4 Q (n + 1) 213 [x0,x1] h=F213 (callO prog 4 Q n) n x0 x1 h :=
 (tp q Tryz.func213 (ep213a (callO prog 4 Q n) n h _ x0 x1) (by kernel_rfl)).trans (by kernel_rfl)
noncomputable def c214a : Code := (Tryz.f214.body).getD .skip
noncomputable abbrev E214 (C : CF) (L : Nat) {β : Type} (h : H) (K : KK β) (n : Nat) (o : List Nat) (v : List (Nat × List Nat)) (r : T Value) : O β := execK prog C L 4 17 [2] (g c214a n) o v r h K
noncomputable def palH (kn : K1 β) : O β :=
 kn x0 h
theorem epalH : E214 C L h K 2 [0] [] (r1 0 x0)=palH h x0 (N1 K 0) := by kernel_rfl
noncomputable def palI (kn : K2 β) : O β :=
 bnd (A.bin prog .leq 21 (.int .i32 0) x0) fun b =>
 toBK b fun c =>
 (bif c then
 bnd (A.bin prog .lss 21 x0 (.int .i32 55296)) fun f =>
 toBK f fun i =>
 kn (.bool i) x0 h
 else
 kn (.bool false) x0 h)
theorem epalI : E214 C L h K 24 [3,0] [(0,[])] (r1 0 x0)=palI h x0 (N2 K 3 0) := by kernel_rfl
noncomputable def pasP (kr : K1 β) : O β :=
 kr (.bool true) h
theorem epasP : E214 C L h K 50 [] [(0,[])] (r2 3 0 x3 x0)=pasP h (R1 K 2) := by kernel_rfl
noncomputable def panE (kr : K1 β) (kn : K0 β) : O β :=
 bnd (A.bin prog .lss 21 (.int .i32 57343) x0) fun b =>
 toBK b fun c =>
 (bif c then
 bnd (A.bin prog .leq 21 x0 (.int .i32 1114111)) fun f =>
 toBK f fun i =>
 (bif i then
 kr (.bool true) h
 else
 kn h)
 else
 kn h)
theorem epanE : E214 C L h K 51 [] [(0,[])] (r2 3 0 x3 x0)=panE h x0 (R1 K 2) (N0 K) := by kernel_rfl
noncomputable def pahC (kr : K1 β) (kn : K0 β) : O β :=
 condV x3 (pasP h kr) (panE h x0 kr kn)
def epahC:=(cd K (.tmp 3) x3 (epasP C L h K x0 x3) (epanE C L h K x0 x3) (by kernel_rfl) : _=pahC h x0 x3 (R1 K 2) (N0 K))
noncomputable def pafC (kr : K1 β) (kn : K0 β) : O β :=
 palI h x0 (fun x3 x0 h=>pahC h x0 x3 kr kn)
def epafC:=(sq K (epalI C L h _ x0) (congrArg _ (w2 fun x3 x0 h=>sn (epahC ..))) (by kernel_rfl) : _=pafC h x0 (R1 K 2) (N0 K))
noncomputable def papI (kr : K1 β) : O β :=
 kr (.bool false) h
theorem epapI : E214 C L h K 7 [2] [] r0=papI h (R1 K 2) := by kernel_rfl
noncomputable def p214a (kr : K1 β) : O β :=
 palH h x0 (fun x0 h=>pafC h x0 kr (fun h=>papI h kr))
def ep214a:=(sq K (epalH C L h _ x0) (congrArg _ (w1 fun x0 h=>sn (sq K (bk (epafC C L h _ x0)) (congrArg _ (w0 fun h=>sn (epapI ..))) (by kernel_rfl)))) (by kernel_rfl) : _=p214a h x0 (R1 K 2))
noncomputable def F214 (C : CF) (L : Nat) (x0 : V) (h : H) : O (V × H) :=
 p214a h x0 (fun x2 h=>some (x2,h))
theorem F214eq (Q : Orc) (n : Nat) (x0 : V) (h : H) (q : Q 214 [x0]=none) : callO prog 4 Q (n + 1) 214 [x0] h=F214 (callO prog 4 Q n) n x0 h :=
 (tp q Tryz.func214 (ep214a (callO prog 4 Q n) n h _ x0) (by kernel_rfl)).trans (by kernel_rfl)
noncomputable def c219a : Code := (Tryz.f219.body).getD .skip
noncomputable abbrev E219 (C : CF) (L : Nat) {β : Type} (h : H) (K : KK β) (n : Nat) (o : List Nat) (v : List (Nat × List Nat)) (r : T Value) : O β := execK prog C L 4 143 [4] (g c219a n) o v r h K
noncomputable def papJ (kn : K2 β) : O β :=
 kn x0 x1 h
theorem epapJ : E219 C L h K 2 [0,1] [] (r2 0 1 x0 x1)=papJ h x0 x1 (N2 K 0 1) := by kernel_rfl
noncomputable def papK (kn : K3 β) : O β :=
 bnd (A.lenStr x1) fun b =>
 kn x0 x1 b h
theorem epapK : E219 C L h K 6 [0,1,5] [] (r2 0 1 x0 x1)=papK h x0 x1 (N3 K 0 1 5) := by kernel_rfl
noncomputable def papL (kn : K4 β) : O β :=
 bnd (A.bin prog .eql 3 x5 (.int .i64 0)) fun b =>
 toBK b fun c =>
 (bif c then
 kn (.bool true) x0 x1 x5 h
 else
 bnd (A.bin prog .eql 9 x1 x0) fun k =>
 toBK k fun l =>
 kn (.bool l) x0 x1 x5 h)
theorem epapL : E219 C L h K 56 [16,0,1,5] [(0,[0,1,5])] (r3 0 1 5 x0 x1 x5)=papL h x0 x1 x5 (N4 K 16 0 1 5) := by kernel_rfl
noncomputable def pasS (kr : K1 β) : O β :=
 kr (.int .i64 0) h
theorem epasS : E219 C L h K 114 [0,1,5] [(0,[0,1,5])] (r4 16 0 1 5 x16 x0 x1 x5)=pasS h (R1 K 4) := by kernel_rfl
noncomputable def pasQ (kn : K4 β) : O β :=
 bnd (A.bin prog .eql 3 x5 (.int .i64 1)) fun b =>
 toBK b fun c =>
 kn (.bool c) x0 x1 x5 h
theorem epasQ : E219 C L h K 230 [24,0,1,5] [(0,[0,1,5])] (r4 16 0 1 5 x16 x0 x1 x5)=pasQ h x0 x1 x5 (N4 K 24 0 1 5) := by kernel_rfl
noncomputable def pasR (kr : K1 β) : O β :=
 bnd (A.indexStr x1 (.int .i64 0)) fun c =>
 bnd2 (C 251 [x0,c] h) fun d e =>
 kr d e
theorem epasR : E219 C L h K 462 [0,1,5] [(0,[0,1,5])] (r4 24 0 1 5 x24 x0 x1 x5)=pasR C h x0 x1 (R1 K 4) := by kernel_rfl
noncomputable def pavI (kn : K4 β) : O β :=
 bnd (A.lenStr x0) fun c =>
 bnd (A.bin prog .geq 3 x5 c) fun d =>
 toBK d fun e =>
 kn (.bool e) x0 x1 x5 h
theorem epavI : E219 C L h K 926 [31,0,1,5] [(0,[0,1,5])] (r4 24 0 1 5 x24 x0 x1 x5)=pavI h x0 x1 x5 (N4 K 31 0 1 5) := by kernel_rfl
noncomputable def pavK (kr : K1 β) : O β :=
 kr (.int .i64 (-1)) h
theorem epavK : E219 C L h K 1854 [0,1,5] [(0,[0,1,5])] (r4 31 0 1 5 x31 x0 x1 x5)=pavK h (R1 K 4) := by kernel_rfl
noncomputable def pavJ (kr : K1 β) (kn : K3 β) : O β :=
 bnd (A.load false 1 (.pointer (some ⟨2,0,none⟩)) h) fun b =>
 bnd (A.bin prog .leq 3 x5 b) fun c =>
 toBK c fun d =>
 (bif d then
 bnd (A.lenStr x0) fun i =>
 bnd (A.bin prog .leq 3 i (.int .i64 64)) fun j =>
 toBK j fun k =>
 (bif k then
 bnd2 (C 216 [x0,x1] h) fun p q =>
 kr p q
 else
 kn x0 x1 x5 h)
 else
 kn x0 x1 x5 h)
theorem epavJ : E219 C L h K 1855 [0,1,5] [(0,[0,1,5])] (r4 31 0 1 5 x31 x0 x1 x5)=pavJ C h x0 x1 x5 (R1 K 4) (N3 K 0 1 5) := by kernel_rfl
noncomputable def pahV (kr : K1 β) (kn : K3 β) : O β :=
 condV x31 (pavK h kr) (pavJ C h x0 x1 x5 kr kn)
def epahV:=(cd K (.tmp 31) x31 (epavK C L h K x0 x1 x5 x31) (epavJ C L h K x0 x1 x5 x31) (by kernel_rfl) : _=pahV C h x0 x1 x5 x31 (R1 K 4) (N3 K 0 1 5))
noncomputable def pagY (kr : K1 β) (kn : K3 β) : O β :=
 pavI h x0 x1 x5 (fun x31 x0 x1 x5 h=>pahV C h x0 x1 x5 x31 kr kn)
def epagY:=(sq K (epavI C L h _ x0 x1 x5 x24) (congrArg _ (w4 fun x31 x0 x1 x5 h=>sn (epahV ..))) (by kernel_rfl) : _=pagY C h x0 x1 x5 (R1 K 4) (N3 K 0 1 5))
noncomputable def pafL (kr : K1 β) (kn : K3 β) : O β :=
 condV x24 (pasR C h x0 x1 kr) (pagY C h x0 x1 x5 kr kn)
def epafL:=(cd K (.tmp 24) x24 (epasR C L h K x0 x1 x5 x24) (epagY C L h K x0 x1 x5 x24) (by kernel_rfl) : _=pafL C h x0 x1 x5 x24 (R1 K 4) (N3 K 0 1 5))
noncomputable def paeL (kr : K1 β) (kn : K3 β) : O β :=
 pasQ h x0 x1 x5 (fun x24 x0 x1 x5 h=>pafL C h x0 x1 x5 x24 kr kn)
def epaeL:=(sq K (epasQ C L h _ x0 x1 x5 x16) (congrArg _ (w4 fun x24 x0 x1 x5 h=>sn (epafL ..))) (by kernel_rfl) : _=paeL C h x0 x1 x5 (R1 K 4) (N3 K 0 1 5))
noncomputable def padX (kr : K1 β) (kn : K3 β) : O β :=
 condV x16 (pasS h kr) (paeL C h x0 x1 x5 kr kn)
def epadX:=(cd K (.tmp 16) x16 (epasS C L h K x0 x1 x5 x16) (epaeL C L h K x0 x1 x5 x16) (by kernel_rfl) : _=padX C h x0 x1 x5 x16 (R1 K 4) (N3 K 0 1 5))
noncomputable def padG (kr : K1 β) (kn : K3 β) : O β :=
 papL h x0 x1 x5 (fun x16 x0 x1 x5 h=>padX C h x0 x1 x5 x16 kr kn)
def epadG:=(sq K (epapL C L h _ x0 x1 x5) (congrArg _ (w4 fun x16 x0 x1 x5 h=>sn (epadX ..))) (by kernel_rfl) : _=padG C h x0 x1 x5 (R1 K 4) (N3 K 0 1 5))
noncomputable def pavL (C : CF) (L : Nat) {β : Type} (x0 x1 x5 : V) (h : H) (K : KK β) : O β :=
 execK prog C L 4 143 [4] (g c219a 15) [4] [] (r3 0 1 5 x0 x1 x5) h K
theorem epavL : E219 C L h K 15 [4] [] (r3 0 1 5 x0 x1 x5)=pavL C L x0 x1 x5 h K := rfl
noncomputable def p219a (C : CF) (L : Nat) {β : Type} (x0 x1 : V) (h : H) (K : KK β) (kr : K1 β) : O β :=
 papJ h x0 x1 (fun x0 x1 h=>papK h x0 x1 (fun x0 x1 x5 h=>padG C h x0 x1 x5 kr (fun x0 x1 x5 h=>pavL C L x0 x1 x5 h K)))
def ep219a:=(sq K (epapJ C L h _ x0 x1) (congrArg _ (w2 fun x0 x1 h=>sn (sq K (epapK C L h _ x0 x1) (congrArg _ (w3 fun x0 x1 x5 h=>sn (sq K (bk (epadG C L h _ x0 x1 x5)) (congrArg _ (w3 fun x0 x1 x5 h=>sn (epavL ..))) (by kernel_rfl)))) (by kernel_rfl)))) (by kernel_rfl) : _=p219a C L x0 x1 h K (R1 K 4))
noncomputable def F219 (C : CF) (L : Nat) (x0 x1 : V) (h : H) : O (V × H) :=
 p219a C L x0 x1 h (resK prog Tryz.f219 fun v h=>some (v,h)) (fun x4 h=>some (x4,h))
theorem F219eq (Q : Orc) (n : Nat) (x0 x1 : V) (h : H) (q : Q 219 [x0,x1]=none) : callO prog 4 Q (n + 1) 219 [x0,x1] h=F219 (callO prog 4 Q n) n x0 x1 h :=
 (tp q Tryz.func219 (ep219a (callO prog 4 Q n) n h _ x0 x1) (by kernel_rfl)).trans (by kernel_rfl)
noncomputable def c251a : Code := (Tryz.f251.body).getD .skip
noncomputable abbrev E251 (C : CF) (L : Nat) {β : Type} (h : H) (K : KK β) (n : Nat) (o : List Nat) (v : List (Nat × List Nat)) (r : T Value) : O β := execK prog C L 4 8 [4] (g c251a n) o v r h K
noncomputable def p251a (kr : K1 β) : O β :=
 bnd2 (C 269 [x0,x1] h) fun d e =>
 kr d e
theorem ep251a : E251 C L h K 1 [4] [] (r2 0 1 x0 x1)=p251a C h x0 x1 (R1 K 4) := by kernel_rfl
noncomputable def F251 (C : CF) (L : Nat) (x0 x1 : V) (h : H) : O (V × H) :=
 p251a C h x0 x1 (fun x4 h=>some (x4,h))
theorem F251eq (Q : Orc) (n : Nat) (x0 x1 : V) (h : H) (q : Q 251 [x0,x1]=none) : callO prog 4 Q (n + 1) 251 [x0,x1] h=F251 (callO prog 4 Q n) n x0 x1 h :=
 (tp q Tryz.func251 (ep251a (callO prog 4 Q n) n h _ x0 x1) (by kernel_rfl)).trans (by kernel_rfl)
end Go.Proofs.YtfodhidpefednaaGreatDoor.AnG
