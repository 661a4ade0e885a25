import Derived.Test.YtfodhidpefednaaGreatDoorProg
import Derived.Test.YtfodhidpefednaaGreatDoorRq
set_option linter.unusedVariables false
set_option linter.defProp false
set_option maxRecDepth 100000
namespace Go.Proofs.YtfodhidpefednaaGreatDoor.AnE
open Tryz (prog)
open Go Go.AM Go.AM.Pk
noncomputable def Z264L : List V := [(.bool false),(.bool false),(.bool false),(.bool false),(.bool false),(.bool false),(.bool false),(.bool false),(.bool false),(.bool false),(.bool false),(.bool false),(.bool false),(.bool false),(.bool false),(.bool false),(.bool false),(.bool false),(.bool false),(.bool false),(.bool false),(.bool false),(.bool false),(.bool false),(.bool false),(.bool false),(.bool false),(.bool false),(.bool false),(.bool false),(.bool false),(.bool false),(.bool false),(.bool false),(.bool false),(.bool false),(.bool false),(.bool false),(.bool false),(.bool false),(.bool false),(.bool false),(.bool false),(.bool false),(.bool false),(.bool false),(.bool false),(.bool false),(.bool false),(.bool false),(.bool false),(.bool false),(.bool false),(.bool false),(.bool false),(.bool false),(.bool false),(.bool false),(.bool false),(.bool false),(.bool false),(.bool false),(.bool false),(.bool false),(.bool false),(.bool false),(.bool false),(.bool false),(.bool false),(.bool false),(.bool false),(.bool false),(.bool false),(.bool false),(.bool false),(.bool false),(.bool false),(.bool false),(.bool false),(.bool false),(.bool false),(.bool false),(.bool false),(.bool false),(.bool false),(.bool false),(.bool false),(.bool false),(.bool false),(.bool false),(.bool false),(.bool false),(.bool false),(.bool false),(.bool false),(.bool false),(.bool false),(.bool false),(.bool false),(.bool false),(.bool false),(.bool false),(.bool false),(.bool false),(.bool false),(.bool false),(.bool false),(.bool false),(.bool false),(.bool false),(.bool false),(.bool false),(.bool false),(.bool false),(.bool false),(.bool false),(.bool false),(.bool false),(.bool false),(.bool false),(.bool false),(.bool false),(.bool false),(.bool false),(.bool false),(.bool false),(.bool false),(.bool false),(.bool false),(.bool false),(.bool false),(.bool false),(.bool false),(.bool false),(.bool false),(.bool false),(.bool false),(.bool false),(.bool false),(.bool false),(.bool false),(.bool false),(.bool false),(.bool false),(.bool false),(.bool false),(.bool false),(.bool false),(.bool false),(.bool false),(.bool false),(.bool false),(.bool false),(.bool false),(.bool false),(.bool false),(.bool false),(.bool false),(.bool false),(.bool false),(.bool false),(.bool false),(.bool false),(.bool false),(.bool false),(.bool false),(.bool false),(.bool false),(.bool false),(.bool false),(.bool false),(.bool false),(.bool false),(.bool false),(.bool false),(.bool false),(.bool false),(.bool false),(.bool false),(.bool false),(.bool false),(.bool false),(.bool false),(.bool false),(.bool false),(.bool false),(.bool false),(.bool false),(.bool false),(.bool false),(.bool false),(.bool false),(.bool false),(.bool false),(.bool false),(.bool false),(.bool false),(.bool false),(.bool false),(.bool false),(.bool false),(.bool false),(.bool false),(.bool false),(.bool false),(.bool false),(.bool false),(.bool false),(.bool false),(.bool false),(.bool false),(.bool false),(.bool false),(.bool false),(.bool false),(.bool false),(.bool false),(.bool false),(.bool false),(.bool false),(.bool false),(.bool false),(.bool false),(.bool false),(.bool false),(.bool false),(.bool false),(.bool false),(.bool false),(.bool false),(.bool false),(.bool false),(.bool false),(.bool false),(.bool false),(.bool false),(.bool false),(.bool false),(.bool false),(.bool false),(.bool false),(.bool false),(.bool false),(.bool false),(.bool false),(.bool false),(.bool false),(.bool false),(.bool false),(.bool false),(.bool false),(.bool false),(.bool false),(.bool false),(.bool false),(.bool false)]
noncomputable def Z264 : V := .agg ⟨Z264L⟩
noncomputable def Z9L : List V := [(.string ⟨⟨[]⟩⟩)]
variable (C : CF) (L : Nat) {β : Type} (h : H) (K : KK β) (x0 x1 x2 x3 x4 x5 x6 x7 x8 x9 x10 x15 x16 x17 x18 x19 x22 x26 x32 x45 : V)
noncomputable def c20a : Code := (Tryz.f20.body).getD .skip
noncomputable abbrev E20 (C : CF) (L : Nat) {β : Type} (h : H) (K : KK β) (n : Nat) (o : List Nat) (v : List (Nat × List Nat)) (r : T Value) : O β := execK prog C L 4 20 [6] (g c20a n) o v r h K
noncomputable def p20a (kr : K1 β) : O β :=
 bnd2 (C 27 [x0,x1] h) fun d e =>
 bnd (A.bin prog .eql 81 d (.pointer none)) fun j =>
 toBK j fun k =>
 (bif k then
 kr (.int .i64 8) e
 else
 bnd (A.nilCheck d) fun n =>
 bnd (A.fieldAddr 0 n) fun o =>
 bnd (A.load false 1 o e) fun p =>
 bnd2 (C 38 [p,x1,x2] e) fun s t =>
 toBK s fun u =>
 kr (.int .i64 0) t)
theorem ep20a : E20 C L h K 1 [6] [] (r3 0 1 2 x0 x1 x2)=p20a C h x0 x1 x2 (R1 K 6) := by kernel_rfl
noncomputable def F20 (C : CF) (L : Nat) (x0 x1 x2 : V) (h : H) : O (V × H) :=
 p20a C h x0 x1 x2 (fun x6 h=>some (x6,h))
theorem F20eq (Q : Orc) (n : Nat) (x0 x1 x2 : V) (h : H) (q : Q 20 [x0,x1,x2]=none) : callO prog 4 Q (n + 1) 20 [x0,x1,x2] h=F20 (callO prog 4 Q n) n x0 x1 x2 h :=
 (tp q Tryz.func20 (ep20a (callO prog 4 Q n) n h _ x0 x1 x2) (by kernel_rfl)).trans (by kernel_rfl)
noncomputable def c59a : Code := (Tryz.f59.body).getD .skip
noncomputable abbrev E59 (C : CF) (L : Nat) {β : Type} (h : H) (K : KK β) (n : Nat) (o : List Nat) (v : List (Nat × List Nat)) (r : T Value) : O β := execK prog C L 4 37 [2] (g c59a n) o v r h K
noncomputable def panN (kn : K1 β) : O β :=
 bnd2 (A.box 24 x0 h) fun a b =>
 kn a b
theorem epanN : E59 C L h K 2 [1] [] (r1 0 x0)=panN h x0 (N1 K 1) := by kernel_rfl
noncomputable def panO (kn : K2 β) : O β :=
 bnd (A.load true 24 x1 h) fun a =>
 bnd2 (C 57 [a] h) fun b c =>
 kn b x1 c
theorem epanO : E59 C L h K 6 [3,1] [] (r1 1 x1)=panO C h x1 (N2 K 3 1) := by kernel_rfl
noncomputable def panP (kr : K1 β) (kn : K2 β) : O β :=
 bnd (A.bin prog .lss 3 x3 (.int .i64 0)) fun b =>
 toBK b fun c =>
 (bif c then
 kr (.int .i64 (-1)) h
 else
 bnd (A.fieldAddr 23 x1) fun i =>
 bnd (A.load false 1 i h) fun j =>
 bnd (A.bin prog .eql 9 j (.string ⟨⟨[]⟩⟩)) fun k =>
 toBK k fun l =>
 (bif l then
 kr (.int .i64 (-1)) h
 else
 kn x3 x1 h))
theorem epanP : E59 C L h K 14 [3,1] [] (r2 3 1 x3 x1)=panP h x1 x3 (R1 K 2) (N2 K 3 1) := by kernel_rfl
noncomputable def patZ (kn : K4 β) : O β :=
 bnd (A.fieldAddr 23 x1) fun a =>
 bnd (A.load false 1 a h) fun b =>
 bnd (A.lenStr b) fun c =>
 kn c (.int .i64 0) x3 x1 h
theorem epatZ : E59 C L h K 60 [17,18,3,1] [] (r2 3 1 x3 x1)=patZ h x1 x3 (N4 K 17 18 3 1) := by kernel_rfl
noncomputable def pamD (kn : K5 β) : O β :=
 bnd (A.bin prog .lss 3 x18 x17) fun a =>
 toBK a fun b =>
 kn (.bool b) x17 x18 x3 x1 h
theorem epamD : E59 C L h K 488 [19,17,18,3,1] [(0,[3,1])] (r4 17 18 3 1 x17 x18 x3 x1)=pamD h x1 x3 x17 x18 (N5 K 19 17 18 3 1) := by kernel_rfl
noncomputable def pamE (kx0 : K2 β) (kn : K4 β) : O β :=
 condV x19 (
 kn x18 x17 x3 x1 h) (
 kx0 x3 x1 h)
theorem epamE : E59 C L h K 978 [18,17,3,1] [(0,[3,1])] (r5 19 17 18 3 1 x19 x17 x18 x3 x1)=pamE h x1 x3 x17 x18 x19 (X2 K 0 3 1) (N4 K 18 17 3 1) := by kernel_rfl
noncomputable def panQ (kr : K1 β) (kn : K4 β) : O β :=
 bnd (A.fieldAddr 23 x1) fun c =>
 bnd (A.load false 1 c h) fun d =>
 bnd (A.indexStr d x18) fun f =>
 bnd (A.bin prog .gtr 5 f (.int .u8 2)) fun k =>
 toBK k fun l =>
 (bif l then
 bnd (A.bin prog .neq 5 f (.int .u8 128)) fun o =>
 toBK o fun p =>
 (bif p then
 kr (.int .i64 (-1)) h
 else
 kn x18 x17 x3 x1 h)
 else
 kn x18 x17 x3 x1 h)
theorem epanQ : E59 C L h K 3916 [18,17,3,1] [(1,[18,17,3,1]),(0,[3,1])] (r4 18 17 3 1 x18 x17 x3 x1)=panQ h x1 x3 x17 x18 (R1 K 2) (N4 K 18 17 3 1) := by kernel_rfl
noncomputable def paqL (kn : K4 β) : O β :=
 bnd (A.bin prog .add 3 x18 (.int .i64 1)) fun a =>
 kn x17 a x3 x1 h
theorem epaqL : E59 C L h K 1959 [17,18,3,1] [(0,[3,1])] (r4 18 17 3 1 x18 x17 x3 x1)=paqL h x1 x3 x17 x18 (N4 K 17 18 3 1) := by kernel_rfl
noncomputable def pafA (kr : K1 β) (kx0 : K2 β) (kn : K4 β) : O β :=
 pamD h x1 x3 x17 x18 (fun x19 x17 x18 x3 x1 h=>pamE h x1 x3 x17 x18 x19 kx0 (fun x18 x17 x3 x1 h=>panQ h x1 x3 x17 x18 kr (fun x18 x17 x3 x1 h=>paqL h x1 x3 x17 x18 kn)))
def epafA:=(sq K (epamD C L h _ x1 x3 x17 x18) (congrArg _ (w5 fun x19 x17 x18 x3 x1 h=>sn (sq K (epamE C L h _ x1 x3 x17 x18 x19) (congrArg _ (w4 fun x18 x17 x3 x1 h=>sn (sq K (bk (epanQ C L h _ x1 x3 x17 x18)) (congrArg _ (w4 fun x18 x17 x3 x1 h=>sn (epaqL ..))) (by kernel_rfl)))) (by kernel_rfl)))) (by kernel_rfl) : _=pafA h x1 x3 x17 x18 (R1 K 2) (X2 K 0 3 1) (N4 K 17 18 3 1))
noncomputable def pajB (C : CF) (L : Nat) {β : Type} (kr : K1 β) (kx0 : K2 β) : Nat → K4 β
 | 0,_,_,_,_,_ => none
 | n + 1,x17,x18,x3,x1,h => pafA h x1 x3 x17 x18 kr kx0 (fun x17 x18 x3 x1 h=>pajB C L kr kx0 n x17 x18 x3 x1 h)
theorem epajB (C : CF) (L : Nat) {β : Type} (K : KK β) : ∀ (n : Nat) (x17 x18 x3 x1 : V) (h : H),loopK (fun fr h K=>execK prog C L 4 37 [2] (g c59a 244) [17,18,3,1] [(0,[3,1])] fr h K) n (r4 17 18 3 1 x17 x18 x3 x1) h K=pajB C L (R1 K 2) (X2 K 0 3 1) n x17 x18 x3 x1 h
 | 0,_,_,_,_,_ => rfl
 | n + 1,x17,x18,x3,x1,h => (cg (epafA C L h _ x1 x3 x17 x18) (by kernel_rfl)).trans (congrArg _ (w4 fun x17 x18 x3 x1 h=>sl (epajB C L K n x17 x18 x3 x1 h)))
noncomputable def paeA (kr : K1 β) (kx0 : K2 β) : O β :=
 pajB C L kr kx0 L x17 x18 x3 x1 h
def epaeA:=(lp [3,1] (r4 17 18 3 1 x17 x18 x3 x1) (epajB C L K L x17 x18 x3 x1 h) (by kernel_rfl) : _=paeA C L h x1 x3 x17 x18 (R1 K 2) (X2 K 0 3 1))
noncomputable def padL (kr : K1 β) (kn : K2 β) : O β :=
 patZ h x1 x3 (fun x17 x18 x3 x1 h=>paeA C L h x1 x3 x17 x18 kr kn)
def epadL:=(sq K (epatZ C L h _ x1 x3) (congrArg _ (w4 fun x17 x18 x3 x1 h=>sn (bk (epaeA ..)))) (by kernel_rfl) : _=padL C L h x1 x3 (R1 K 2) (N2 K 3 1))
noncomputable def paqM (C : CF) (L : Nat) {β : Type} (x3 x1 : V) (h : H) (kr : K1 β) : O β :=
 bnd (A.fieldAddr 23 x1) fun b =>
 bnd (A.load false 1 b h) fun c =>
 bnd (A.lenStr c) fun d =>
 bnd (A.bin prog .add 3 x3 d) fun e =>
 kr e h
theorem epaqM : E59 C L h K 31 [2] [] (r2 3 1 x3 x1)=paqM C L x3 x1 h (R1 K 2) := by kernel_rfl
noncomputable def p59a (kr : K1 β) : O β :=
 panN h x0 (fun x1 h=>panO C h x1 (fun x3 x1 h=>panP h x1 x3 kr (fun x3 x1 h=>padL C L h x1 x3 kr (fun x3 x1 h=>paqM C L x3 x1 h kr))))
def ep59a:=(sq K (epanN C L h _ x0) (congrArg _ (w1 fun x1 h=>sn (sq K (epanO C L h _ x1) (congrArg _ (w2 fun x3 x1 h=>sn (sq K (epanP C L h _ x1 x3) (congrArg _ (w2 fun x3 x1 h=>sn (sq K (epadL C L h _ x1 x3) (congrArg _ (w2 fun x3 x1 h=>sn (epaqM ..))) (by kernel_rfl)))) (by kernel_rfl)))) (by kernel_rfl)))) (by kernel_rfl) : _=p59a C L h x0 (R1 K 2))
noncomputable def F59 (C : CF) (L : Nat) (x0 : V) (h : H) : O (V × H) :=
 p59a C L h x0 (fun x2 h=>some (x2,h))
theorem F59eq (Q : Orc) (n : Nat) (x0 : V) (h : H) (q : Q 59 [x0]=none) : callO prog 4 Q (n + 1) 59 [x0] h=F59 (callO prog 4 Q n) n x0 h :=
 (tp q Tryz.func59 (ep59a (callO prog 4 Q n) n h _ x0) (by kernel_rfl)).trans (by kernel_rfl)
noncomputable def c78a : Code := (Tryz.f78.body).getD .skip
noncomputable abbrev E78 (C : CF) (L : Nat) {β : Type} (h : H) (K : KK β) (n : Nat) (o : List Nat) (v : List (Nat × List Nat)) (r : T Value) : O β := execK prog C L 4 14 [2] (g c78a n) o v r h K
noncomputable def p78a (kr : K1 β) : O β :=
 bnd (A.bin prog .neq 9 x0 (.string ⟨⟨[]⟩⟩)) fun c =>
 toBK c fun d =>
 (bif d then
 bnd2 (C 77 [x0] h) fun i j =>
 toBK i fun k =>
 (bif k then
 bnd2 (C 102 [x0,(.string ⟨⟨[43,35]⟩⟩)] j) fun o p =>
 toBK o fun q =>
 bnd (A.un prog .not (.bool q)) fun r =>
 toBK r fun s =>
 kr (.bool s) p
 else
 kr (.bool false) j)
 else
 kr (.bool false) h)
theorem ep78a : E78 C L h K 1 [2] [] (r1 0 x0)=p78a C h x0 (R1 K 2) := by kernel_rfl
noncomputable def F78 (C : CF) (L : Nat) (x0 : V) (h : H) : O (V × H) :=
 p78a C h x0 (fun x2 h=>some (x2,h))
theorem F78eq (Q : Orc) (n : Nat) (x0 : V) (h : H) (q : Q 78 [x0]=none) : callO prog 4 Q (n + 1) 78 [x0] h=F78 (callO prog 4 Q n) n x0 h :=
 (tp q Tryz.func78 (ep78a (callO prog 4 Q n) n h _ x0) (by kernel_rfl)).trans (by kernel_rfl)
noncomputable def c79a : Code := (Tryz.f79.body).getD .skip
noncomputable abbrev E79 (C : CF) (L : Nat) {β : Type} (h : H) (K : KK β) (n : Nat) (o : List Nat) (v : List (Nat × List Nat)) (r : T Value) : O β := execK prog C L 4 38 [2] (g c79a n) o v r h K
noncomputable def panR (kn : K1 β) : O β :=
 kn x0 h
theorem epanR : E79 C L h K 2 [0] [] (r1 0 x0)=panR h x0 (N1 K 0) := by kernel_rfl
noncomputable def panS (kr kn : K1 β) : O β :=
 bnd (A.bin prog .eql 9 x0 (.string ⟨⟨[]⟩⟩)) fun b =>
 toBK b fun c =>
 (bif c then
 kr (.bool false) h
 else
 bnd2 (C 77 [x0] h) fun j k =>
 toBK j fun l =>
 bnd (A.un prog .not (.bool l)) fun m =>
 toBK m fun n =>
 (bif n then
 kr (.bool false) k
 else
 kn x0 k))
theorem epanS : E79 C L h K 6 [0] [] (r1 0 x0)=panS C h x0 (R1 K 2) (N1 K 0) := by kernel_rfl
noncomputable def pauR (kn : K1 β) : O β :=
 bnd2 (C 103 [x0,(.string ⟨⟨[47]⟩⟩)] h) fun b c =>
 kn b c
theorem epauR : E79 C L h K 14 [3] [] (r1 0 x0)=pauR C h x0 (N1 K 3) := by kernel_rfl
noncomputable def pauS (kn : K4 β) : O β :=
 bnd (A.lenS x3) fun b =>
 kn b (.int .i64 0) x3 x3 h
theorem epauS : E79 C L h K 60 [16,17,3,15] [] (r1 3 x3)=pauS h x3 (N4 K 16 17 3 15) := by kernel_rfl
noncomputable def pamJ (kn : K5 β) : O β :=
 bnd (A.bin prog .lss 3 x17 x16) fun a =>
 kn a x15 x3 x16 x17 h
theorem epamJ : E79 C L h K 488 [18,15,3,16,17] [(0,[])] (r4 16 17 3 15 x16 x17 x3 x15)=pamJ h x3 x15 x16 x17 (N5 K 18 15 3 16 17) := by kernel_rfl
noncomputable def pamK (kx0 : K0 β) (kn : K4 β) : O β :=
 condV x18 (
 kn x17 x16 x3 x15 h) (
 kx0 h)
theorem epamK : E79 C L h K 978 [17,16,3,15] [(0,[])] (r5 18 15 3 16 17 x18 x15 x3 x16 x17)=pamK h x3 x15 x16 x17 x18 (X0 K 0) (N4 K 17 16 3 15) := by kernel_rfl
noncomputable def panT (kn : K6 β) : O β :=
 bnd (A.idxS 1 x15 x17) fun b =>
 bnd (A.load false 1 b h) fun c =>
 kn x17 c x17 x16 x3 x15 h
theorem epanT : E79 C L h K 7832 [4,5,17,16,3,15] [(1,[17,16,3,15]),(0,[])] (r4 17 16 3 15 x17 x16 x3 x15)=panT h x3 x15 x16 x17 (N6 K 4 5 17 16 3 15) := by kernel_rfl
noncomputable def pakO (C : CF) (L : Nat) {β : Type} (x4 x5 x17 x16 x3 x15 : V) (h : H) (kn : K6 β) : O β :=
 bnd (A.bin prog .eql 9 x5 (.string ⟨⟨[35]⟩⟩)) fun b =>
 toBK b fun c =>
 (bif c then
 bnd (A.lenS x3) fun i =>
 bnd (A.bin prog .sub 3 i (.int .i64 1)) fun j =>
 bnd (A.bin prog .eql 3 x4 j) fun k =>
 toBK k fun l =>
 (bif l then
 kn (.bool l) x5 x17 x16 x3 x15 h
 else
 bnd (A.bin prog .eql 9 x5 (.string ⟨⟨[43]⟩⟩)) fun p =>
 toBK p fun q =>
 kn (.bool q) x5 x17 x16 x3 x15 h)
 else
 bnd (A.bin prog .eql 9 x5 (.string ⟨⟨[43]⟩⟩)) fun v =>
 toBK v fun w =>
 kn (.bool w) x5 x17 x16 x3 x15 h)
theorem epakO : E79 C L h K 31332 [22,5,17,16,3,15] [(2,[17,16,3,15]),(1,[17,16,3,15]),(0,[])] (r6 4 5 17 16 3 15 x4 x5 x17 x16 x3 x15)=pakO C L x4 x5 x17 x16 x3 x15 h (N6 K 22 5 17 16 3 15) := by kernel_rfl
noncomputable def panU (kr : K1 β) (kn : K4 β) : O β :=
 condV x22 (
 kn x17 x16 x3 x15 h) (
 bnd2 (C 102 [x5,(.string ⟨⟨[43,35]⟩⟩)] h) fun b c =>
 toBK b fun d =>
 (bif d then
 kr (.bool false) c
 else
 kn x17 x16 x3 x15 c))
theorem epanU : E79 C L h K 31333 [17,16,3,15] [(2,[17,16,3,15]),(1,[17,16,3,15]),(0,[])] (r6 22 5 17 16 3 15 x22 x5 x17 x16 x3 x15)=panU C h x3 x5 x15 x16 x17 x22 (R1 K 2) (N4 K 17 16 3 15) := by kernel_rfl
noncomputable def pagT (kr : K1 β) (kn : K4 β) : O β :=
 pakO C L x4 x5 x17 x16 x3 x15 h (fun x22 x5 x17 x16 x3 x15 h=>panU C h x3 x5 x15 x16 x17 x22 kr kn)
def epagT:=(sq K (epakO C L h _ x3 x4 x5 x15 x16 x17) (congrArg _ (w6 fun x22 x5 x17 x16 x3 x15 h=>sn (epanU ..))) (by kernel_rfl) : _=pagT C L h x3 x4 x5 x15 x16 x17 (R1 K 2) (N4 K 17 16 3 15))
noncomputable def pafB (kr : K1 β) (kn : K4 β) : O β :=
 panT h x3 x15 x16 x17 (fun x4 x5 x17 x16 x3 x15 h=>pagT C L h x3 x4 x5 x15 x16 x17 kr kn)
def epafB:=(sq K (epanT C L h _ x3 x15 x16 x17) (congrArg _ (w6 fun x4 x5 x17 x16 x3 x15 h=>sn (bk (epagT ..)))) (by kernel_rfl) : _=pafB C L h x3 x15 x16 x17 (R1 K 2) (N4 K 17 16 3 15))
noncomputable def paqR (kn : K4 β) : O β :=
 bnd (A.bin prog .add 3 x17 (.int .i64 1)) fun a =>
 kn x16 a x3 x15 h
theorem epaqR : E79 C L h K 1959 [16,17,3,15] [(0,[])] (r4 17 16 3 15 x17 x16 x3 x15)=paqR h x3 x15 x16 x17 (N4 K 16 17 3 15) := by kernel_rfl
noncomputable def padH (kr : K1 β) (kx0 : K0 β) (kn : K4 β) : O β :=
 pamJ h x3 x15 x16 x17 (fun x18 x15 x3 x16 x17 h=>pamK h x3 x15 x16 x17 x18 kx0 (fun x17 x16 x3 x15 h=>pafB C L h x3 x15 x16 x17 kr (fun x17 x16 x3 x15 h=>paqR h x3 x15 x16 x17 kn)))
def epadH:=(sq K (epamJ C L h _ x3 x15 x16 x17) (congrArg _ (w5 fun x18 x15 x3 x16 x17 h=>sn (sq K (epamK C L h _ x3 x15 x16 x17 x18) (congrArg _ (w4 fun x17 x16 x3 x15 h=>sn (sq K (bk (epafB C L h _ x3 x15 x16 x17)) (congrArg _ (w4 fun x17 x16 x3 x15 h=>sn (epaqR ..))) (by kernel_rfl)))) (by kernel_rfl)))) (by kernel_rfl) : _=padH C L h x3 x15 x16 x17 (R1 K 2) (X0 K 0) (N4 K 16 17 3 15))
noncomputable def paiT (C : CF) (L : Nat) {β : Type} (kr : K1 β) (kx0 : K0 β) : Nat → K4 β
 | 0,_,_,_,_,_ => none
 | n + 1,x16,x17,x3,x15,h => padH C L h x3 x15 x16 x17 kr kx0 (fun x16 x17 x3 x15 h=>paiT C L kr kx0 n x16 x17 x3 x15 h)
theorem epaiT (C : CF) (L : Nat) {β : Type} (K : KK β) : ∀ (n : Nat) (x16 x17 x3 x15 : V) (h : H),loopK (fun fr h K=>execK prog C L 4 38 [2] (g c79a 244) [16,17,3,15] [(0,[])] fr h K) n (r4 16 17 3 15 x16 x17 x3 x15) h K=paiT C L (R1 K 2) (X0 K 0) n x16 x17 x3 x15 h
 | 0,_,_,_,_,_ => rfl
 | n + 1,x16,x17,x3,x15,h => (cg (epadH C L h _ x3 x15 x16 x17) (by kernel_rfl)).trans (congrArg _ (w4 fun x16 x17 x3 x15 h=>sl (epaiT C L K n x16 x17 x3 x15 h)))
noncomputable def pacO (kr : K1 β) (kx0 : K0 β) : O β :=
 paiT C L kr kx0 L x16 x17 x3 x15 h
def epacO:=(lp [] (r4 16 17 3 15 x16 x17 x3 x15) (epaiT C L K L x16 x17 x3 x15 h) (by kernel_rfl) : _=pacO C L h x3 x15 x16 x17 (R1 K 2) (X0 K 0))
noncomputable def pacE (kr : K1 β) (kn : K0 β) : O β :=
 pauS h x3 (fun x16 x17 x3 x15 h=>pacO C L h x3 x15 x16 x17 kr kn)
def epacE:=(sq K (epauS C L h _ x3) (congrArg _ (w4 fun x16 x17 x3 x15 h=>sn (bk (epacO ..)))) (by kernel_rfl) : _=pacE C L h x3 (R1 K 2) (N0 K))
noncomputable def panV (C : CF) (L : Nat) {β : Type} (h : H) (kr : K1 β) : O β :=
 kr (.bool true) h
theorem epanV : E79 C L h K 31 [2] [] r0=panV C L h (R1 K 2) := by kernel_rfl
noncomputable def p79a (kr : K1 β) : O β :=
 panR h x0 (fun x0 h=>panS C h x0 kr (fun x0 h=>pauR C h x0 (fun x3 h=>pacE C L h x3 kr (fun h=>panV C L h kr))))
def ep79a:=(sq K (epanR C L h _ x0) (congrArg _ (w1 fun x0 h=>sn (sq K (epanS C L h _ x0) (congrArg _ (w1 fun x0 h=>sn (sq K (epauR C L h _ x0) (congrArg _ (w1 fun x3 h=>sn (sq K (epacE C L h _ x3) (congrArg _ (w0 fun h=>sn (epanV ..))) (by kernel_rfl)))) (by kernel_rfl)))) (by kernel_rfl)))) (by kernel_rfl) : _=p79a C L h x0 (R1 K 2))
noncomputable def F79 (C : CF) (L : Nat) (x0 : V) (h : H) : O (V × H) :=
 p79a C L h x0 (fun x2 h=>some (x2,h))
theorem F79eq (Q : Orc) (n : Nat) (x0 : V) (h : H) (q : Q 79 [x0]=none) : callO prog 4 Q (n + 1) 79 [x0] h=F79 (callO prog 4 Q n) n x0 h :=
 (tp q Tryz.func79 (ep79a (callO prog 4 Q n) n h _ x0) (by kernel_rfl)).trans (by kernel_rfl)
noncomputable def c102a : Code := (Tryz.f102.body).getD .skip
noncomputable abbrev E102 (C : CF) (L : Nat) {β : Type} (h : H) (K : KK β) (n : Nat) (o : List Nat) (v : List (Nat × List Nat)) (r : T Value) : O β := execK prog C L 4 9 [4] (g c102a n) o v r h K
noncomputable def p102a (kr : K1 β) : O β :=
 bnd2 (C 132 [x0,x1] h) fun d e =>
 bnd (A.bin prog .geq 3 d (.int .i64 0)) fun f =>
 toBK f fun i =>
 kr (.bool i) e
theorem ep102a : E102 C L h K 1 [4] [] (r2 0 1 x0 x1)=p102a C h x0 x1 (R1 K 4) := by kernel_rfl
noncomputable def F102 (C : CF) (L : Nat) (x0 x1 : V) (h : H) : O (V × H) :=
 p102a C h x0 x1 (fun x4 h=>some (x4,h))
theorem F102eq (Q : Orc) (n : Nat) (x0 x1 : V) (h : H) (q : Q 102 [x0,x1]=none) : callO prog 4 Q (n + 1) 102 [x0,x1] h=F102 (callO prog 4 Q n) n x0 x1 h :=
 (tp q Tryz.func102 (ep102a (callO prog 4 Q n) n h _ x0 x1) (by kernel_rfl)).trans (by kernel_rfl)
noncomputable def c103a : Code := (Tryz.f103.body).getD .skip
noncomputable abbrev E103 (C : CF) (L : Nat) {β : Type} (h : H) (K : KK β) (n : Nat) (o : List Nat) (v : List (Nat × List Nat)) (r : T Value) : O β := execK prog C L 4 8 [4] (g c103a n) o v r h K
noncomputable def p103a (kr : K1 β) : O β :=
 bnd2 (C 133 [x0,x1,(.int .i64 0),(.int .i64 (-1))] h) fun d e =>
 kr d e
theorem ep103a : E103 C L h K 1 [4] [] (r2 0 1 x0 x1)=p103a C h x0 x1 (R1 K 4) := by kernel_rfl
noncomputable def F103 (C : CF) (L : Nat) (x0 x1 : V) (h : H) : O (V × H) :=
 p103a C h x0 x1 (fun x4 h=>some (x4,h))
theorem F103eq (Q : Orc) (n : Nat) (x0 x1 : V) (h : H) (q : Q 103 [x0,x1]=none) : callO prog 4 Q (n + 1) 103 [x0,x1] h=F103 (callO prog 4 Q n) n x0 x1 h :=
 (tp q Tryz.func103 (ep103a (callO prog 4 Q n) n h _ x0 x1) (by kernel_rfl)).trans (by kernel_rfl)
noncomputable def c132a : Code := (Tryz.f132.body).getD .skip
noncomputable abbrev E132 (C : CF) (L : Nat) {β : Type} (h : H) (K : KK β) (n : Nat) (o : List Nat) (v : List (Nat × List Nat)) (r : T Value) : O β := execK prog C L 4 55 [4] (g c132a n) o v r h K
noncomputable def paoJ (kn : K2 β) : O β :=
 kn x0 x1 h
theorem epaoJ : E132 C L h K 2 [0,1] [] (r2 0 1 x0 x1)=paoJ h x0 x1 (N2 K 0 1) := by kernel_rfl
noncomputable def paoK (kr : K1 β) (kn : K2 β) : O β :=
 bnd (A.bin prog .eql 9 x1 (.string ⟨⟨[]⟩⟩)) fun b =>
 toBK b fun c =>
 (bif c then
 kr (.int .i64 (-1)) h
 else
 kn x0 x1 h)
theorem epaoK : E132 C L h K 6 [0,1] [] (r2 0 1 x0 x1)=paoK h x0 x1 (R1 K 4) (N2 K 0 1) := by kernel_rfl
noncomputable def paoL (kr : K1 β) (kn : K2 β) : O β :=
 bnd (A.lenStr x1) fun b =>
 bnd (A.bin prog .eql 3 b (.int .i64 1)) fun c =>
 toBK c fun d =>
 (bif d then
 bnd (A.indexStr x1 (.int .i64 0)) fun f =>
 bnd (A.conv prog 5 21 f) fun i =>
 bnd (A.bin prog .geq 21 i (.int .i32 128)) fun l =>
 toBK l fun m =>
 (bif m then
 bnd2 (C 160 [x0,(.int .i32 65533)] h) fun q r =>
 kr q r
 else
 bnd2 (C 160 [x0,i] h) fun v w =>
 kr v w)
 else
 kn x0 x1 h)
theorem epaoL : E132 C L h K 14 [0,1] [] (r2 0 1 x0 x1)=paoL C h x0 x1 (R1 K 4) (N2 K 0 1) := by kernel_rfl
noncomputable def paoM (kn : K3 β) : O β :=
 bnd (A.lenStr x0) fun b =>
 bnd2 (C 161 [b] h) fun c d =>
 toBK c fun e =>
 kn (.bool e) x0 x1 d
theorem epaoM : E132 C L h K 60 [26,0,1] [] (r2 0 1 x0 x1)=paoM C h x0 x1 (N3 K 26 0 1) := by kernel_rfl
noncomputable def parA (kn : K4 β) : O β :=
 bnd2 (C 162 [x1] h) fun b c =>
 bnd (A.extract 0 b) fun e =>
 bnd (A.extract 1 b) fun f =>
 toBK f fun i =>
 bnd2 (A.box 256 Z264 c) fun j k =>
 bnd (A.store 256 j e k) fun m =>
 kn (.bool i) j x0 x1 m
theorem eparA : E132 C L h K 244 [7,6,0,1] [] (r3 26 0 1 x26 x0 x1)=parA C h x0 x1 (N4 K 7 6 0 1) := by kernel_rfl
noncomputable def parB (kn : K4 β) : O β :=
 toBK x7 fun b =>
 kn (.bool b) x6 x0 x1 h
theorem eparB : E132 C L h K 490 [32,6,0,1] [] (r4 7 6 0 1 x7 x6 x0 x1)=parB h x0 x1 x6 x7 (N4 K 32 6 0 1) := by kernel_rfl
noncomputable def parC (kn : K3 β) : O β :=
 kn (.int .i64 0) x6 x0 h
theorem eparC : E132 C L h K 3928 [8,6,0] [] (r4 32 6 0 1 x32 x6 x0 x1)=parC h x0 x6 (N3 K 8 6 0) := by kernel_rfl
noncomputable def pamV (kr : K1 β) (kx0 : K0 β) (kn : K3 β) : O β :=
 bnd (A.lenStr x0) fun c =>
 bnd (A.bin prog .lss 3 x8 c) fun d =>
 toBK d fun e =>
 (bif e then
 bnd (A.indexStr x0 x8) fun j =>
 bnd2 (C 163 [x6,j] h) fun k l =>
 toBK k fun m =>
 (bif m then
 kr x8 l
 else
 bnd (A.bin prog .add 3 x8 (.int .i64 1)) fun q =>
 kn q x6 x0 l)
 else
 kx0 h)
theorem epamV : E132 C L h K 15716 [8,6,0] [(0,[])] (r3 8 6 0 x8 x6 x0)=pamV C h x0 x6 x8 (R1 K 4) (X0 K 0) (N3 K 8 6 0) := by kernel_rfl
noncomputable def paiU (C : CF) (L : Nat) {β : Type} (kr : K1 β) (kx0 : K0 β) : Nat → K3 β
 | 0,_,_,_,_ => none
 | n + 1,x8,x6,x0,h => pamV C h x0 x6 x8 kr kx0 (fun x8 x6 x0 h=>paiU C L kr kx0 n x8 x6 x0 h)
theorem epaiU (C : CF) (L : Nat) {β : Type} (K : KK β) : ∀ (n : Nat) (x8 x6 x0 : V) (h : H),loopK (fun fr h K=>execK prog C L 4 55 [4] (g c132a 15716) [8,6,0] [(0,[])] fr h K) n (r3 8 6 0 x8 x6 x0) h K=paiU C L (R1 K 4) (X0 K 0) n x8 x6 x0 h
 | 0,_,_,_,_ => rfl
 | n + 1,x8,x6,x0,h => (cg (epamV C L h _ x0 x6 x8) (by kernel_rfl)).trans (congrArg _ (w3 fun x8 x6 x0 h=>sl (epaiU C L K n x8 x6 x0 h)))
noncomputable def pagP (kr : K1 β) (kx0 : K0 β) : O β :=
 paiU C L kr kx0 L x8 x6 x0 h
def epagP:=(lp [] (r3 8 6 0 x8 x6 x0) (epaiU C L K L x8 x6 x0 h) (by kernel_rfl) : _=pagP C L h x0 x6 x8 (R1 K 4) (X0 K 0))
noncomputable def pafG (kr : K1 β) (kn : K0 β) : O β :=
 parC h x0 x6 (fun x8 x6 x0 h=>pagP C L h x0 x6 x8 kr kn)
def epafG:=(sq K (eparC C L h _ x0 x1 x6 x32) (congrArg _ (w3 fun x8 x6 x0 h=>sn (bk (epagP ..)))) (by kernel_rfl) : _=pafG C L h x0 x6 (R1 K 4) (N0 K))
noncomputable def pamW (C : CF) (L : Nat) {β : Type} (h : H) (kr : K1 β) : O β :=
 kr (.int .i64 (-1)) h
theorem epamW : E132 C L h K 1965 [0,1] [] r0=pamW C L h (R1 K 4) := by kernel_rfl
noncomputable def paeJ (kr : K1 β) : O β :=
 pafG C L h x0 x6 kr (fun h=>pamW C L h kr)
def epaeJ:=(sq K (epafG C L h _ x0 x1 x6 x32) (congrArg _ (w0 fun h=>sn (epamW ..))) (by kernel_rfl) : _=paeJ C L h x0 x6 (R1 K 4))
noncomputable def pavC (kn : K2 β) : O β :=
 kn x0 x1 h
theorem epavC : E132 C L h K 983 [0,1] [] (r4 32 6 0 1 x32 x6 x0 x1)=pavC h x0 x1 (N2 K 0 1) := by kernel_rfl
noncomputable def padQ (kr : K1 β) (kn : K2 β) : O β :=
 condV x32 (paeJ C L h x0 x6 kr) (pavC h x0 x1 kn)
def epadQ:=(cd K (.tmp 32) x32 (epaeJ C L h K x0 x1 x6 x32) (epavC C L h K x0 x1 x6 x32) (by kernel_rfl) : _=padQ C L h x0 x1 x6 x32 (R1 K 4) (N2 K 0 1))
noncomputable def padC (kr : K1 β) (kn : K2 β) : O β :=
 parA C h x0 x1 (fun x7 x6 x0 x1 h=>parB h x0 x1 x6 x7 (fun x32 x6 x0 x1 h=>padQ C L h x0 x1 x6 x32 kr kn))
def epadC:=(sq K (eparA C L h _ x0 x1 x26) (congrArg _ (w4 fun x7 x6 x0 x1 h=>sn (sq K (eparB C L h _ x0 x1 x6 x7) (congrArg _ (w4 fun x32 x6 x0 x1 h=>sn (epadQ ..))) (by kernel_rfl)))) (by kernel_rfl) : _=padC C L h x0 x1 (R1 K 4) (N2 K 0 1))
noncomputable def paqZ (kn : K2 β) : O β :=
 kn x0 x1 h
theorem epaqZ : E132 C L h K 123 [0,1] [] (r3 26 0 1 x26 x0 x1)=paqZ h x0 x1 (N2 K 0 1) := by kernel_rfl
noncomputable def pacP (kr : K1 β) (kn : K2 β) : O β :=
 condV x26 (padC C L h x0 x1 kr kn) (paqZ h x0 x1 kn)
def epacP:=(cd K (.tmp 26) x26 (epadC C L h K x0 x1 x26) (epaqZ C L h K x0 x1 x26) (by kernel_rfl) : _=pacP C L h x0 x1 x26 (R1 K 4) (N2 K 0 1))
noncomputable def pacD (kr : K1 β) (kn : K2 β) : O β :=
 paoM C h x0 x1 (fun x26 x0 x1 h=>pacP C L h x0 x1 x26 kr kn)
def epacD:=(sq K (epaoM C L h _ x0 x1) (congrArg _ (w3 fun x26 x0 x1 h=>sn (epacP ..))) (by kernel_rfl) : _=pacD C L h x0 x1 (R1 K 4) (N2 K 0 1))
noncomputable def parD (kn : K2 β) : O β :=
 bnd2 (A.rangeS x0 h) fun b c =>
 kn b x1 c
theorem eparD : E132 C L h K 124 [45,1] [] (r2 0 1 x0 x1)=parD h x0 x1 (N2 K 45 1) := by kernel_rfl
noncomputable def pakZ (kr : K1 β) (kx2 : K0 β) (kn : K2 β) : O β :=
 bnd2 (A.nextS x45 h) fun a b =>
 bnd (A.extract 0 a) fun c =>
 toBK c fun d =>
 (bif d then
 bnd (A.extract 1 a) fun e =>
 bnd (A.extract 2 a) fun f =>
 bnd2 (C 160 [x1,f] b) fun m n =>
 bnd (A.bin prog .geq 3 m (.int .i64 0)) fun o =>
 toBK o fun p =>
 (bif p then
 kr e n
 else
 kn x45 x1 n)
 else
 kx2 b)
theorem epakZ : E132 C L h K 500 [45,1] [(2,[])] (r2 45 1 x45 x1)=pakZ C h x1 x45 (R1 K 4) (X0 K 2) (N2 K 45 1) := by kernel_rfl
noncomputable def paiM (C : CF) (L : Nat) {β : Type} (kr : K1 β) (kx2 : K0 β) : Nat → K2 β
 | 0,_,_,_ => none
 | n + 1,x45,x1,h => pakZ C h x1 x45 kr kx2 (fun x45 x1 h=>paiM C L kr kx2 n x45 x1 h)
theorem epaiM (C : CF) (L : Nat) {β : Type} (K : KK β) : ∀ (n : Nat) (x45 x1 : V) (h : H),loopK (fun fr h K=>execK prog C L 4 55 [4] (g c132a 500) [45,1] [(2,[])] fr h K) n (r2 45 1 x45 x1) h K=paiM C L (R1 K 4) (X0 K 2) n x45 x1 h
 | 0,_,_,_ => rfl
 | n + 1,x45,x1,h => (cg (epakZ C L h _ x1 x45) (by kernel_rfl)).trans (congrArg _ (w2 fun x45 x1 h=>sl (epaiM C L K n x45 x1 h)))
noncomputable def pafW (kr : K1 β) (kx2 : K0 β) : O β :=
 paiM C L kr kx2 L x45 x1 h
def epafW:=(lp [] (r2 45 1 x45 x1) (epaiM C L K L x45 x1 h) (by kernel_rfl) : _=pafW C L h x1 x45 (R1 K 4) (X0 K 2))
noncomputable def pafD (kr : K1 β) (kn : K0 β) : O β :=
 parD h x0 x1 (fun x45 x1 h=>pafW C L h x1 x45 kr kn)
def epafD:=(sq K (eparD C L h _ x0 x1) (congrArg _ (w2 fun x45 x1 h=>sn (bk (epafW ..)))) (by kernel_rfl) : _=pafD C L h x0 x1 (R1 K 4) (N0 K))
noncomputable def palA (C : CF) (L : Nat) {β : Type} (h : H) (kr : K1 β) : O β :=
 kr (.int .i64 (-1)) h
theorem epalA : E132 C L h K 63 [4] [] r0=palA C L h (R1 K 4) := by kernel_rfl
noncomputable def p132a (kr : K1 β) : O β :=
 paoJ h x0 x1 (fun x0 x1 h=>paoK h x0 x1 kr (fun x0 x1 h=>paoL C h x0 x1 kr (fun x0 x1 h=>pacD C L h x0 x1 kr (fun x0 x1 h=>pafD C L h x0 x1 kr (fun h=>palA C L h kr)))))
def ep132a:=(sq K (epaoJ C L h _ x0 x1) (congrArg _ (w2 fun x0 x1 h=>sn (sq K (epaoK C L h _ x0 x1) (congrArg _ (w2 fun x0 x1 h=>sn (sq K (epaoL C L h _ x0 x1) (congrArg _ (w2 fun x0 x1 h=>sn (sq K (epacD C L h _ x0 x1) (congrArg _ (w2 fun x0 x1 h=>sn (sq K (epafD C L h _ x0 x1) (congrArg _ (w0 fun h=>sn (epalA ..))) (by kernel_rfl)))) (by kernel_rfl)))) (by kernel_rfl)))) (by kernel_rfl)))) (by kernel_rfl) : _=p132a C L h x0 x1 (R1 K 4))
noncomputable def F132 (C : CF) (L : Nat) (x0 x1 : V) (h : H) : O (V × H) :=
 p132a C L h x0 x1 (fun x4 h=>some (x4,h))
theorem F132eq (Q : Orc) (n : Nat) (x0 x1 : V) (h : H) (q : Q 132 [x0,x1]=none) : callO prog 4 Q (n + 1) 132 [x0,x1] h=F132 (callO prog 4 Q n) n x0 x1 h :=
 (tp q Tryz.func132 (ep132a (callO prog 4 Q n) n h _ x0 x1) (by kernel_rfl)).trans (by kernel_rfl)
noncomputable def c133a : Code := (Tryz.f133.body).getD .skip
noncomputable abbrev E133 (C : CF) (L : Nat) {β : Type} (h : H) (K : KK β) (n : Nat) (o : List Nat) (v : List (Nat × List Nat)) (r : T Value) : O β := execK prog C L 4 66 [8] (g c133a n) o v r h K
noncomputable def parE (kn : K4 β) : O β :=
 kn x3 x1 x2 x0 h
theorem eparE : E133 C L h K 2 [3,1,2,0] [] (r4 0 1 2 3 x0 x1 x2 x3)=parE h x0 x1 x2 x3 (N4 K 3 1 2 0) := by kernel_rfl
noncomputable def parF (kr : K1 β) (kn : K4 β) : O β :=
 bnd (A.bin prog .eql 3 x3 (.int .i64 0)) fun b =>
 toBK b fun c =>
 (bif c then
 kr (.slice none 0 0) h
 else
 kn x3 x1 x2 x0 h)
theorem eparF : E133 C L h K 6 [3,1,2,0] [] (r4 3 1 2 0 x3 x1 x2 x0)=parF h x0 x1 x2 x3 (R1 K 8) (N4 K 3 1 2 0) := by kernel_rfl
noncomputable def parG (kr : K1 β) (kn : K4 β) : O β :=
 bnd (A.bin prog .eql 9 x1 (.string ⟨⟨[]⟩⟩)) fun b =>
 toBK b fun c =>
 (bif c then
 bnd2 (C 164 [x0,x3] h) fun f i =>
 kr f i
 else
 kn x3 x1 x2 x0 h)
theorem eparG : E133 C L h K 14 [3,1,2,0] [] (r4 3 1 2 0 x3 x1 x2 x0)=parG C h x0 x1 x2 x3 (R1 K 8) (N4 K 3 1 2 0) := by kernel_rfl
noncomputable def parH (kn : K4 β) : O β :=
 bnd (A.bin prog .lss 3 x3 (.int .i64 0)) fun b =>
 toBK b fun c =>
 (bif c then
 bnd2 (C 165 [x0,x1] h) fun f i =>
 bnd (A.bin prog .add 3 f (.int .i64 1)) fun j =>
 kn j x1 x2 x0 i
 else
 kn x3 x1 x2 x0 h)
theorem eparH : E133 C L h K 30 [3,1,2,0] [] (r4 3 1 2 0 x3 x1 x2 x0)=parH C h x0 x1 x2 x3 (N4 K 3 1 2 0) := by kernel_rfl
noncomputable def parI (kn : K4 β) : O β :=
 bnd (A.lenStr x0) fun c =>
 bnd (A.bin prog .add 3 c (.int .i64 1)) fun d =>
 bnd (A.pureB prog .min ⟨[3,3]⟩ 3 [x3,d]) fun e =>
 kn e x1 x2 x0 h
theorem eparI : E133 C L h K 62 [3,1,2,0] [] (r4 3 1 2 0 x3 x1 x2 x0)=parI h x0 x1 x2 x3 (N4 K 3 1 2 0) := by kernel_rfl
noncomputable def parJ (kn : K5 β) : O β :=
 bnd2 (A.makeSlice 1 16 Z9L x3 x3 h) fun b c =>
 kn x3 x1 x2 x0 b c
theorem eparJ : E133 C L h K 126 [3,1,2,0,9] [] (r4 3 1 2 0 x3 x1 x2 x0)=parJ h x0 x1 x2 x3 (N5 K 3 1 2 0 9) := by kernel_rfl
noncomputable def parK (kn : K5 β) : O β :=
 bnd (A.bin prog .sub 3 x3 (.int .i64 1)) fun b =>
 kn b x1 x2 x0 x9 h
theorem eparK : E133 C L h K 254 [3,1,2,0,9] [] (r5 3 1 2 0 9 x3 x1 x2 x0 x9)=parK h x0 x1 x2 x3 x9 (N5 K 3 1 2 0 9) := by kernel_rfl
noncomputable def parL (kn : K6 β) : O β :=
 kn x3 x1 x2 x0 x9 (.int .i64 0) h
theorem eparL : E133 C L h K 510 [3,1,2,0,9,10] [] (r5 3 1 2 0 9 x3 x1 x2 x0 x9)=parL h x0 x1 x2 x3 x9 (N6 K 3 1 2 0 9 10) := by kernel_rfl
noncomputable def pamX (kx0 : K3 β) (kn : K6 β) : O β :=
 bnd (A.bin prog .lss 3 x10 x3) fun c =>
 toBK c fun d =>
 (bif d then
 bnd2 (C 166 [x0,x1] h) fun i j =>
 bnd (A.bin prog .lss 3 i (.int .i64 0)) fun m =>
 toBK m fun n =>
 (bif n then
 kx0 x0 x9 x10 j
 else
 bnd (A.bin prog .add 3 i x2) fun t =>
 bnd (A.sliceStr x0 none (some t)) fun u =>
 bnd (A.idxS 1 x9 x10) fun v =>
 bnd (A.store 1 v u j) fun y =>
 bnd (A.lenStr x1) fun c1 =>
 bnd (A.bin prog .add 3 i c1) fun d1 =>
 bnd (A.sliceStr x0 (some d1) none) fun e1 =>
 bnd (A.bin prog .add 3 x10 (.int .i64 1)) fun j1 =>
 kn x3 x1 x2 e1 x9 j1 y)
 else
 kx0 x0 x9 x10 h)
theorem epamX : E133 C L h K 4088 [3,1,2,0,9,10] [(0,[0,9,10])] (r6 3 1 2 0 9 10 x3 x1 x2 x0 x9 x10)=pamX C h x0 x1 x2 x3 x9 x10 (X3 K 0 0 9 10) (N6 K 3 1 2 0 9 10) := by kernel_rfl
noncomputable def paiV (C : CF) (L : Nat) {β : Type} (kx0 : K3 β) : Nat → K6 β
 | 0,_,_,_,_,_,_,_ => none
 | n + 1,x3,x1,x2,x0,x9,x10,h => pamX C h x0 x1 x2 x3 x9 x10 kx0 (fun x3 x1 x2 x0 x9 x10 h=>paiV C L kx0 n x3 x1 x2 x0 x9 x10 h)
theorem epaiV (C : CF) (L : Nat) {β : Type} (K : KK β) : ∀ (n : Nat) (x3 x1 x2 x0 x9 x10 : V) (h : H),loopK (fun fr h K=>execK prog C L 4 66 [8] (g c133a 4088) [3,1,2,0,9,10] [(0,[0,9,10])] fr h K) n (r6 3 1 2 0 9 10 x3 x1 x2 x0 x9 x10) h K=paiV C L (X3 K 0 0 9 10) n x3 x1 x2 x0 x9 x10 h
 | 0,_,_,_,_,_,_,_ => rfl
 | n + 1,x3,x1,x2,x0,x9,x10,h => (cg (epamX C L h _ x0 x1 x2 x3 x9 x10) (by kernel_rfl)).trans (congrArg _ (w6 fun x3 x1 x2 x0 x9 x10 h=>sl (epaiV C L K n x3 x1 x2 x0 x9 x10 h)))
noncomputable def pagQ (kx0 : K3 β) : O β :=
 paiV C L kx0 L x3 x1 x2 x0 x9 x10 h
def epagQ:=(lp [0,9,10] (r6 3 1 2 0 9 10 x3 x1 x2 x0 x9 x10) (epaiV C L K L x3 x1 x2 x0 x9 x10 h) (by kernel_rfl) : _=pagQ C L h x0 x1 x2 x3 x9 x10 (X3 K 0 0 9 10))
noncomputable def pamY (C : CF) (L : Nat) {β : Type} (x0 x9 x10 : V) (h : H) (kr : K1 β) : O β :=
 bnd (A.idxS 1 x9 x10) fun d =>
 bnd (A.store 1 d x0 h) fun f =>
 bnd (A.bin prog .add 3 x10 (.int .i64 1)) fun k =>
 bnd (A.sliceS 1 x9 none (some k) none f) fun l =>
 kr l f
theorem epamY : E133 C L h K 1023 [8] [] (r3 0 9 10 x0 x9 x10)=pamY C L x0 x9 x10 h (R1 K 8) := by kernel_rfl
noncomputable def p133a (kr : K1 β) : O β :=
 parE h x0 x1 x2 x3 (fun x3 x1 x2 x0 h=>parF h x0 x1 x2 x3 kr (fun x3 x1 x2 x0 h=>parG C h x0 x1 x2 x3 kr (fun x3 x1 x2 x0 h=>parH C h x0 x1 x2 x3 (fun x3 x1 x2 x0 h=>parI h x0 x1 x2 x3 (fun x3 x1 x2 x0 h=>parJ h x0 x1 x2 x3 (fun x3 x1 x2 x0 x9 h=>parK h x0 x1 x2 x3 x9 (fun x3 x1 x2 x0 x9 h=>parL h x0 x1 x2 x3 x9 (fun x3 x1 x2 x0 x9 x10 h=>pagQ C L h x0 x1 x2 x3 x9 x10 (fun x0 x9 x10 h=>pamY C L x0 x9 x10 h kr)))))))))
def ep133a:=(sq K (eparE C L h _ x0 x1 x2 x3) (congrArg _ (w4 fun x3 x1 x2 x0 h=>sn (sq K (eparF C L h _ x0 x1 x2 x3) (congrArg _ (w4 fun x3 x1 x2 x0 h=>sn (sq K (eparG C L h _ x0 x1 x2 x3) (congrArg _ (w4 fun x3 x1 x2 x0 h=>sn (sq K (eparH C L h _ x0 x1 x2 x3) (congrArg _ (w4 fun x3 x1 x2 x0 h=>sn (sq K (eparI C L h _ x0 x1 x2 x3) (congrArg _ (w4 fun x3 x1 x2 x0 h=>sn (sq K (eparJ C L h _ x0 x1 x2 x3) (congrArg _ (w5 fun x3 x1 x2 x0 x9 h=>sn (sq K (eparK C L h _ x0 x1 x2 x3 x9) (congrArg _ (w5 fun x3 x1 x2 x0 x9 h=>sn (sq K (eparL C L h _ x0 x1 x2 x3 x9) (congrArg _ (w6 fun x3 x1 x2 x0 x9 x10 h=>sn (sq K (bk (epagQ C L h _ x0 x1 x2 x3 x9 x10)) (congrArg _ (w3 fun x0 x9 x10 h=>sn (epamY ..))) (by kernel_rfl)))) (by kernel_rfl)))) (by kernel_rfl)))) (by kernel_rfl)))) (by kernel_rfl)))) (by kernel_rfl)))) (by kernel_rfl)))) (by kernel_rfl)))) (by kernel_rfl) : _=p133a C L h x0 x1 x2 x3 (R1 K 8))
noncomputable def F133 (C : CF) (L : Nat) (x0 x1 x2 x3 : V) (h : H) : O (V × H) :=
 p133a C L h x0 x1 x2 x3 (fun x8 h=>some (x8,h))
theorem F133eq (Q : Orc) (n : Nat) (x0 x1 x2 x3 : V) (h : H) (q : Q 133 [x0,x1,x2,x3]=none) : callO prog 4 Q (n + 1) 133 [x0,x1,x2,x3] h=F133 (callO prog 4 Q n) n x0 x1 x2 x3 h :=
 (tp q Tryz.func133 (ep133a (callO prog 4 Q n) n h _ x0 x1 x2 x3) (by kernel_rfl)).trans (by kernel_rfl)
end Go.Proofs.YtfodhidpefednaaGreatDoor.AnE
