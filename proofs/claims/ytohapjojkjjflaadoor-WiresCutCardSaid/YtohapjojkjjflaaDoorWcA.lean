import Derived.Test.YtohapjojkjjflaaDoorProg
import Derived.Test.YtohapjojkjjflaaDoorRq
set_option linter.unusedVariables false
set_option linter.defProp false
set_option maxRecDepth 100000
namespace Go.Proofs.YtohapjojkjjflaaDoor.WcA
open Tryd (prog)
open Go Go.AM Go.AM.Pk
noncomputable def Z9L : List V := [(.string ⟨⟨[]⟩⟩)]
noncomputable def Z30L : List V := [(.int .u8 0),(.bool false),(.int .u8 0),(.bool false),(.int .u16 0),(.string ⟨⟨[]⟩⟩),(.string ⟨⟨[]⟩⟩),(.int .u8 0),(.bool false),(.int .u16 0),(.string ⟨⟨[]⟩⟩),(.bool false),(.string ⟨⟨[]⟩⟩),(.string ⟨⟨[]⟩⟩),(.int .u8 0),(.bool false),(.bool false),(.bool false),(.string ⟨⟨[]⟩⟩),(.string ⟨⟨[]⟩⟩),(.bool false),(.int .u8 0),(.slice none 0 0),(.string ⟨⟨[]⟩⟩)]
noncomputable def Z30 : V := .agg ⟨Z30L⟩
noncomputable def Z5L : List V := [(.int .u8 0)]
noncomputable def Z43L : List V := [(.string ⟨⟨[]⟩⟩),(.int .u8 0)]
noncomputable def Z43 : V := .agg ⟨Z43L⟩
noncomputable def Z70L : List V := [(.string ⟨⟨[]⟩⟩),(.bool false)]
noncomputable def Z72L : List V := [(.string ⟨⟨[]⟩⟩),(.bool false),(.int .u8 0),(.bool false),(.int .u8 0),(.bool false),(.int .u16 0),(.string ⟨⟨[]⟩⟩),(.string ⟨⟨[]⟩⟩),(.int .u8 0),(.bool false),(.int .u16 0),(.string ⟨⟨[]⟩⟩),(.bool false),(.string ⟨⟨[]⟩⟩),(.string ⟨⟨[]⟩⟩),(.int .u8 0),(.bool false),(.bool false),(.bool false),(.string ⟨⟨[]⟩⟩),(.string ⟨⟨[]⟩⟩),(.bool false),(.int .u8 0),(.slice none 0 0),(.string ⟨⟨[]⟩⟩)]
noncomputable def Z53L : List V := [(.int .u8 0),(.int .u8 0),(.int .u8 0),(.int .u8 0),(.bool false),(.bool false),(.bool false),(.bool false),(.bool false),(.bool false),(.bool false),(.int .u16 0),(.int .u16 0),(.string ⟨⟨[]⟩⟩),(.string ⟨⟨[]⟩⟩),(.string ⟨⟨[]⟩⟩),(.string ⟨⟨[]⟩⟩),(.string ⟨⟨[]⟩⟩),(.string ⟨⟨[]⟩⟩),(.string ⟨⟨[]⟩⟩),(.string ⟨⟨[]⟩⟩),(.int .u8 0),(.bool false)]
noncomputable def Z53 : V := .agg ⟨Z53L⟩
noncomputable def Z27L : List V := [(.string ⟨⟨[]⟩⟩),(.string ⟨⟨[]⟩⟩),(.int .u8 0),(.bool false)]
noncomputable def Z3L : List V := [(.int .i64 0)]
noncomputable def Z105L : List V := [(.bool false),(.bool false),(.bool false),(.bool false),(.bool false),(.bool false),(.bool false),(.bool false),(.bool false),(.bool false),(.bool false),(.bool false),(.bool false),(.bool false),(.bool false),(.bool false),(.bool false),(.bool false),(.bool false),(.bool false),(.bool false),(.bool false),(.bool false),(.bool false),(.bool false),(.bool false),(.bool false),(.bool false),(.bool false),(.bool false),(.bool false),(.bool false),(.bool false),(.bool false),(.bool false),(.bool false),(.bool false),(.bool false),(.bool false),(.bool false),(.bool false),(.bool false),(.bool false),(.bool false),(.bool false),(.bool false),(.bool false),(.bool false),(.bool false),(.bool false),(.bool false),(.bool false),(.bool false),(.bool false),(.bool false),(.bool false),(.bool false),(.bool false),(.bool false),(.bool false),(.bool false),(.bool false),(.bool false),(.bool false),(.bool false),(.bool false),(.bool false),(.bool false),(.bool false),(.bool false),(.bool false),(.bool false),(.bool false),(.bool false),(.bool false),(.bool false),(.bool false),(.bool false),(.bool false),(.bool false),(.bool false),(.bool false),(.bool false),(.bool false),(.bool false),(.bool false),(.bool false),(.bool false),(.bool false),(.bool false),(.bool false),(.bool false),(.bool false),(.bool false),(.bool false),(.bool false),(.bool false),(.bool false),(.bool false),(.bool false),(.bool false),(.bool false),(.bool false),(.bool false),(.bool false),(.bool false),(.bool false),(.bool false),(.bool false),(.bool false),(.bool false),(.bool false),(.bool false),(.bool false),(.bool false),(.bool false),(.bool false),(.bool false),(.bool false),(.bool false),(.bool false),(.bool false),(.bool false),(.bool false),(.bool false),(.bool false),(.bool false),(.bool false),(.bool false),(.bool false),(.bool false),(.bool false),(.bool false),(.bool false),(.bool false),(.bool false),(.bool false),(.bool false),(.bool false),(.bool false),(.bool false),(.bool false),(.bool false),(.bool false),(.bool false),(.bool false),(.bool false),(.bool false),(.bool false),(.bool false),(.bool false),(.bool false),(.bool false),(.bool false),(.bool false),(.bool false),(.bool false),(.bool false),(.bool false),(.bool false),(.bool false),(.bool false),(.bool false),(.bool false),(.bool false),(.bool false),(.bool false),(.bool false),(.bool false),(.bool false),(.bool false),(.bool false),(.bool false),(.bool false),(.bool false),(.bool false),(.bool false),(.bool false),(.bool false),(.bool false),(.bool false),(.bool false),(.bool false),(.bool false),(.bool false),(.bool false),(.bool false),(.bool false),(.bool false),(.bool false),(.bool false),(.bool false),(.bool false),(.bool false),(.bool false),(.bool false),(.bool false),(.bool false),(.bool false),(.bool false),(.bool false),(.bool false),(.bool false),(.bool false),(.bool false),(.bool false),(.bool false),(.bool false),(.bool false),(.bool false),(.bool false),(.bool false),(.bool false),(.bool false),(.bool false),(.bool false),(.bool false),(.bool false),(.bool false),(.bool false),(.bool false),(.bool false),(.bool false),(.bool false),(.bool false),(.bool false),(.bool false),(.bool false),(.bool false),(.bool false),(.bool false),(.bool false),(.bool false),(.bool false),(.bool false),(.bool false),(.bool false),(.bool false),(.bool false),(.bool false),(.bool false),(.bool false),(.bool false),(.bool false),(.bool false),(.bool false),(.bool false),(.bool false),(.bool false),(.bool false),(.bool false),(.bool false),(.bool false),(.bool false),(.bool false),(.bool false)]
noncomputable def Z105 : V := .agg ⟨Z105L⟩
noncomputable def Z114L : List V := [(.int .u8 0),(.int .u8 0)]
noncomputable def Z114 : V := .agg ⟨Z114L⟩
variable (C : CF) (L : Nat) {β : Type} (h : H) (K : KK β) (x0 x1 x2 x3 x4 x5 x6 x7 x8 x9 x10 x11 x12 x13 x14 x15 x16 x17 x18 x19 x20 x21 x22 x23 x24 x25 x26 x27 x29 x30 x31 x32 x33 x36 x37 x38 x39 x40 x42 x45 x46 x53 x54 x57 x68 x70 x75 x79 x107 x110 x115 x132 x160 x171 x175 x183 : V)
noncomputable def c3a : Code := (Tryd.f3.body).getD .skip
noncomputable abbrev E3 (C : CF) (L : Nat) {β : Type} (h : H) (K : KK β) (n : Nat) (o : List Nat) (v : List (Nat × List Nat)) (r : T Value) : O β := execK prog C L 2 124 [4] (g c3a n) o v r h K
noncomputable def padK (kn : K2 β) : O β :=
 kn x1 x0 h
theorem epadK : E3 C L h K 2 [1,0] [] (r2 0 1 x0 x1)=padK h x0 x1 (N2 K 1 0) := by kernel_rfl
noncomputable def padL (kr : K1 β) (kn : K2 β) : O β :=
 bnd (A.lenS x0) fun b =>
 bnd (A.bin prog .gtr 3 b (.int .i64 20)) fun c =>
 toBK c fun d =>
 (bif d then
 bnd2 (C 4 [] h) fun i j =>
 toBK i fun k =>
 kr (.bool k) j
 else
 bnd (A.lenStr x1) fun n =>
 bnd (A.bin prog .gtr 3 n (.int .i64 20)) fun o =>
 toBK o fun p =>
 (bif p then
 bnd2 (C 4 [] h) fun r s =>
 toBK r fun t =>
 kr (.bool t) s
 else
 kn x1 x0 h))
theorem epadL : E3 C L h K 6 [1,0] [] (r2 1 0 x1 x0)=padL C h x0 x1 (R1 K 4) (N2 K 1 0) := by kernel_rfl
noncomputable def pagO (kn : K3 β) : O β :=
 kn (.int .i64 0) x1 x0 h
theorem epagO : E3 C L h K 28 [5,1,0] [] (r2 1 0 x1 x0)=pagO h x0 x1 (N3 K 5 1 0) := by kernel_rfl
noncomputable def palY (kr : K1 β) (kx0 : K2 β) (kn : K3 β) : O β :=
 bnd (A.lenS x0) fun c =>
 bnd (A.bin prog .lss 3 x5 c) fun d =>
 toBK d fun e =>
 (bif e then
 bnd (A.idxS 24 x0 x5) fun j =>
 bnd (A.load true 24 j h) fun k =>
 bnd2 (C 5 [k] h) fun l m =>
 toBK l fun n =>
 (bif n then
 bnd2 (C 4 [] m) fun o p =>
 toBK o fun q =>
 kr (.bool q) p
 else
 bnd (A.bin prog .add 3 x5 (.int .i64 1)) fun t =>
 kn t x1 x0 m)
 else
 kx0 x1 x0 h)
theorem epalY : E3 C L h K 116 [5,1,0] [(0,[1,0])] (r3 5 1 0 x5 x1 x0)=palY C h x0 x1 x5 (R1 K 4) (X2 K 0 1 0) (N3 K 5 1 0) := by kernel_rfl
noncomputable def pahB (C : CF) (L : Nat) {β : Type} (kr : K1 β) (kx0 : K2 β) : Nat → K3 β
 | 0,_,_,_,_ => none
 | n + 1,x5,x1,x0,h => palY C h x0 x1 x5 kr kx0 (fun x5 x1 x0 h=>pahB C L kr kx0 n x5 x1 x0 h)
theorem epahB (C : CF) (L : Nat) {β : Type} (K : KK β) : ∀ (n : Nat) (x5 x1 x0 : V) (h : H),loopK (fun fr h K=>execK prog C L 2 124 [4] (g c3a 116) [5,1,0] [(0,[1,0])] fr h K) n (r3 5 1 0 x5 x1 x0) h K=pahB C L (R1 K 4) (X2 K 0 1 0) n x5 x1 x0 h
 | 0,_,_,_,_ => rfl
 | n + 1,x5,x1,x0,h => (cg (epalY C L h _ x0 x1 x5) (by kernel_rfl)).trans (congrArg _ (w3 fun x5 x1 x0 h=>sl (epahB C L K n x5 x1 x0 h)))
noncomputable def paaB (kr : K1 β) (kx0 : K2 β) : O β :=
 pahB C L kr kx0 L x5 x1 x0 h
def epaaB:=(lp [1,0] (r3 5 1 0 x5 x1 x0) (epahB C L K L x5 x1 x0 h) (by kernel_rfl) : _=paaB C L h x0 x1 x5 (R1 K 4) (X2 K 0 1 0))
noncomputable def paaA (kr : K1 β) (kn : K2 β) : O β :=
 pagO h x0 x1 (fun x5 x1 x0 h=>paaB C L h x0 x1 x5 kr kn)
def epaaA:=(sq K (epagO C L h _ x0 x1) (congrArg _ (w3 fun x5 x1 x0 h=>sn (bk (epaaB ..)))) (by kernel_rfl) : _=paaA C L h x0 x1 (R1 K 4) (N2 K 1 0))
noncomputable def pabV (kn : K4 β) : O β :=
 bnd2 (C 6 [x0] h) fun b c =>
 bnd (A.extract 0 b) fun e =>
 bnd (A.extract 1 b) fun f =>
 kn f x1 x0 e c
theorem epabV : E3 C L h K 30 [7,1,0,6] [] (r2 1 0 x1 x0)=pabV C h x0 x1 (N4 K 7 1 0 6) := by kernel_rfl
noncomputable def pafU (kr : K1 β) (kn : K3 β) : O β :=
 bnd (A.bin prog .neq 31 x7 (.int .i64 0)) fun b =>
 toBK b fun c =>
 (bif c then
 bnd2 (C 4 [] h) fun d e =>
 toBK d fun f =>
 kr (.bool f) e
 else
 kn x1 x0 x6 h)
theorem epafU : E3 C L h K 62 [1,0,6] [] (r4 7 1 0 6 x7 x1 x0 x6)=pafU C h x0 x1 x6 x7 (R1 K 4) (N3 K 1 0 6) := by kernel_rfl
noncomputable def pagA (kn : K5 β) : O β :=
 bnd (A.bin prog .add 9 x6 x1) fun c =>
 bnd2 (C 7 [c] h) fun d e =>
 bnd (A.extract 0 d) fun i =>
 bnd (A.extract 1 d) fun j =>
 kn x1 i x0 j x6 e
theorem epagA : E3 C L h K 126 [1,8,0,9,6] [] (r3 1 0 6 x1 x0 x6)=pagA C h x0 x1 x6 (N5 K 1 8 0 9 6) := by kernel_rfl
noncomputable def paqH (kn : K6 β) : O β :=
 bnd (A.lenS x8) fun b =>
 bnd (A.lenS x0) fun d =>
 bnd (A.bin prog .lss 3 b d) fun e =>
 toBK e fun f =>
 (bif f then
 kn (.bool true) x1 x8 x0 x9 x6 h
 else
 bnd (A.lenStr x6) fun o =>
 bnd (A.bin prog .lss 3 x9 o) fun p =>
 toBK p fun q =>
 (bif q then
 kn (.bool true) x1 x8 x0 x9 x6 h
 else
 bnd (A.lenStr x6) fun w =>
 bnd (A.lenStr x1) fun z =>
 bnd (A.bin prog .add 3 w z) fun a1 =>
 bnd (A.bin prog .gtr 3 x9 a1) fun b1 =>
 toBK b1 fun c1 =>
 kn (.bool c1) x1 x8 x0 x9 x6 h))
theorem epaqH : E3 C L h K 508 [70,1,8,0,9,6] [] (r5 1 8 0 9 6 x1 x8 x0 x9 x6)=paqH h x0 x1 x6 x8 x9 (N6 K 70 1 8 0 9 6) := by kernel_rfl
noncomputable def paqI (kr : K1 β) (kn : K5 β) : O β :=
 condV x70 (
 kr (.bool false) h) (
 kn x1 x8 x0 x9 x6 h)
theorem epaqI : E3 C L h K 509 [1,8,0,9,6] [] (r6 70 1 8 0 9 6 x70 x1 x8 x0 x9 x6)=paqI h x0 x1 x6 x8 x9 x70 (R1 K 4) (N5 K 1 8 0 9 6) := by kernel_rfl
noncomputable def paeS (kr : K1 β) (kn : K5 β) : O β :=
 paqH h x0 x1 x6 x8 x9 (fun x70 x1 x8 x0 x9 x6 h=>paqI h x0 x1 x6 x8 x9 x70 kr kn)
def epaeS:=(sq K (epaqH C L h _ x0 x1 x6 x8 x9) (congrArg _ (w6 fun x70 x1 x8 x0 x9 x6 h=>sn (epaqI ..))) (by kernel_rfl) : _=paeS h x0 x1 x6 x8 x9 (R1 K 4) (N5 K 1 8 0 9 6))
noncomputable def paqJ (kn : K6 β) : O β :=
 kn (.int .i64 0) x1 x8 x0 x9 x6 h
theorem epaqJ : E3 C L h K 1020 [10,1,8,0,9,6] [] (r5 1 8 0 9 6 x1 x8 x0 x9 x6)=paqJ h x0 x1 x6 x8 x9 (N6 K 10 1 8 0 9 6) := by kernel_rfl
noncomputable def panD (kr : K1 β) (kx2 : K5 β) (kn : K6 β) : O β :=
 bnd (A.lenS x0) fun c =>
 bnd (A.bin prog .lss 3 x10 c) fun d =>
 toBK d fun e =>
 (bif e then
 bnd (A.idxS 24 x8 x10) fun j =>
 bnd (A.load true 24 j h) fun k =>
 bnd (A.idxS 24 x0 x10) fun n =>
 bnd (A.load true 24 n h) fun o =>
 bnd2 (C 8 [k,o] h) fun p q =>
 toBK p fun r =>
 bnd (A.un prog .not (.bool r)) fun s =>
 toBK s fun t =>
 (bif t then
 kr (.bool false) q
 else
 bnd (A.bin prog .add 3 x10 (.int .i64 1)) fun w =>
 kn w x1 x8 x0 x9 x6 q)
 else
 kx2 x1 x8 x0 x9 x6 h)
theorem epanD : E3 C L h K 4084 [10,1,8,0,9,6] [(2,[1,8,0,9,6])] (r6 10 1 8 0 9 6 x10 x1 x8 x0 x9 x6)=panD C h x0 x1 x6 x8 x9 x10 (R1 K 4) (X5 K 2 1 8 0 9 6) (N6 K 10 1 8 0 9 6) := by kernel_rfl
noncomputable def paiG (C : CF) (L : Nat) {β : Type} (kr : K1 β) (kx2 : K5 β) : Nat → K6 β
 | 0,_,_,_,_,_,_,_ => none
 | n + 1,x10,x1,x8,x0,x9,x6,h => panD C h x0 x1 x6 x8 x9 x10 kr kx2 (fun x10 x1 x8 x0 x9 x6 h=>paiG C L kr kx2 n x10 x1 x8 x0 x9 x6 h)
theorem epaiG (C : CF) (L : Nat) {β : Type} (K : KK β) : ∀ (n : Nat) (x10 x1 x8 x0 x9 x6 : V) (h : H),loopK (fun fr h K=>execK prog C L 2 124 [4] (g c3a 4084) [10,1,8,0,9,6] [(2,[1,8,0,9,6])] fr h K) n (r6 10 1 8 0 9 6 x10 x1 x8 x0 x9 x6) h K=paiG C L (R1 K 4) (X5 K 2 1 8 0 9 6) n x10 x1 x8 x0 x9 x6 h
 | 0,_,_,_,_,_,_,_ => rfl
 | n + 1,x10,x1,x8,x0,x9,x6,h => (cg (epanD C L h _ x0 x1 x6 x8 x9 x10) (by kernel_rfl)).trans (congrArg _ (w6 fun x10 x1 x8 x0 x9 x6 h=>sl (epaiG C L K n x10 x1 x8 x0 x9 x6 h)))
noncomputable def pagE (kr : K1 β) (kx2 : K5 β) : O β :=
 paiG C L kr kx2 L x10 x1 x8 x0 x9 x6 h
def epagE:=(lp [1,8,0,9,6] (r6 10 1 8 0 9 6 x10 x1 x8 x0 x9 x6) (epaiG C L K L x10 x1 x8 x0 x9 x6 h) (by kernel_rfl) : _=pagE C L h x0 x1 x6 x8 x9 x10 (R1 K 4) (X5 K 2 1 8 0 9 6))
noncomputable def padJ (kr : K1 β) (kn : K5 β) : O β :=
 paqJ h x0 x1 x6 x8 x9 (fun x10 x1 x8 x0 x9 x6 h=>pagE C L h x0 x1 x6 x8 x9 x10 kr kn)
def epadJ:=(sq K (epaqJ C L h _ x0 x1 x6 x8 x9) (congrArg _ (w6 fun x10 x1 x8 x0 x9 x6 h=>sn (bk (epagE ..)))) (by kernel_rfl) : _=padJ C L h x0 x1 x6 x8 x9 (R1 K 4) (N5 K 1 8 0 9 6))
noncomputable def padT (kn : K7 β) : O β :=
 bnd2 (C 7 [x1] h) fun b c =>
 bnd (A.extract 0 b) fun e =>
 bnd (A.extract 1 b) fun f =>
 kn x1 x8 x0 e x9 x6 f c
theorem epadT : E3 C L h K 1022 [1,8,0,11,9,6,12] [] (r5 1 8 0 9 6 x1 x8 x0 x9 x6)=padT C h x0 x1 x6 x8 x9 (N7 K 1 8 0 11 9 6 12) := by kernel_rfl
noncomputable def paaY (kr : K1 β) : O β :=
 bnd (A.bin prog .add 9 x6 x1) fun c =>
 bnd (A.sliceStr c (some x9) none) fun e =>
 bnd2 (C 7 [e] h) fun f i =>
 bnd (A.extract 0 f) fun k =>
 bnd (A.extract 1 f) fun l =>
 bnd (A.lenS x8) fun p =>
 bnd (A.lenS x0) fun r =>
 bnd (A.lenS x11) fun t =>
 bnd (A.bin prog .add 3 r t) fun u =>
 bnd (A.bin prog .eql 3 p u) fun v =>
 toBK v fun w =>
 (bif w then
 bnd (A.lenStr x6) fun b1 =>
 bnd (A.bin prog .add 3 b1 x12) fun d1 =>
 bnd (A.bin prog .eql 3 x9 d1) fun e1 =>
 toBK e1 fun f1 =>
 (bif f1 then
 bnd (A.bin prog .eql 3 l (.int .i64 0)) fun l1 =>
 toBK l1 fun m1 =>
 (bif m1 then
 bnd2 (C 4 [] i) fun p1 q1 =>
 toBK p1 fun r1 =>
 kr (.bool r1) q1
 else
 kr (.bool false) i)
 else
 kr (.bool false) i)
 else
 kr (.bool false) i)
theorem epaaY : E3 C L h K 1023 [4] [] (r7 1 8 0 11 9 6 12 x1 x8 x0 x11 x9 x6 x12)=paaY C h x0 x1 x6 x8 x9 x11 x12 (R1 K 4) := by kernel_rfl
noncomputable def p3a (kr : K1 β) : O β :=
 padK h x0 x1 (fun x1 x0 h=>padL C h x0 x1 kr (fun x1 x0 h=>paaA C L h x0 x1 kr (fun x1 x0 h=>pabV C h x0 x1 (fun x7 x1 x0 x6 h=>pafU C h x0 x1 x6 x7 kr (fun x1 x0 x6 h=>pagA C h x0 x1 x6 (fun x1 x8 x0 x9 x6 h=>paeS h x0 x1 x6 x8 x9 kr (fun x1 x8 x0 x9 x6 h=>padJ C L h x0 x1 x6 x8 x9 kr (fun x1 x8 x0 x9 x6 h=>padT C h x0 x1 x6 x8 x9 (fun x1 x8 x0 x11 x9 x6 x12 h=>paaY C h x0 x1 x6 x8 x9 x11 x12 kr)))))))))
def ep3a:=(sq K (epadK C L h _ x0 x1) (congrArg _ (w2 fun x1 x0 h=>sn (sq K (epadL C L h _ x0 x1) (congrArg _ (w2 fun x1 x0 h=>sn (sq K (epaaA C L h _ x0 x1) (congrArg _ (w2 fun x1 x0 h=>sn (sq K (epabV C L h _ x0 x1) (congrArg _ (w4 fun x7 x1 x0 x6 h=>sn (sq K (epafU C L h _ x0 x1 x6 x7) (congrArg _ (w3 fun x1 x0 x6 h=>sn (sq K (epagA C L h _ x0 x1 x6) (congrArg _ (w5 fun x1 x8 x0 x9 x6 h=>sn (sq K (epaeS C L h _ x0 x1 x6 x8 x9) (congrArg _ (w5 fun x1 x8 x0 x9 x6 h=>sn (sq K (epadJ C L h _ x0 x1 x6 x8 x9) (congrArg _ (w5 fun x1 x8 x0 x9 x6 h=>sn (sq K (epadT C L h _ x0 x1 x6 x8 x9) (congrArg _ (w7 fun x1 x8 x0 x11 x9 x6 x12 h=>sn (epaaY ..))) (by kernel_rfl)))) (by kernel_rfl)))) (by kernel_rfl)))) (by kernel_rfl)))) (by kernel_rfl)))) (by kernel_rfl)))) (by kernel_rfl)))) (by kernel_rfl)))) (by kernel_rfl) : _=p3a C L h x0 x1 (R1 K 4))
noncomputable def F3 (C : CF) (L : Nat) (x0 x1 : V) (h : H) : O (V × H) :=
 p3a C L h x0 x1 (fun x4 h=>some (x4,h))
theorem F3eq (Q : Orc) (n : Nat) (x0 x1 : V) (h : H) (q : Q 3 [x0,x1]=none) : callO prog 2 Q (n + 1) 3 [x0,x1] h=F3 (callO prog 2 Q n) n x0 x1 h :=
 (tp q Tryd.func3 (ep3a (callO prog 2 Q n) n h _ x0 x1) (by kernel_rfl)).trans (by kernel_rfl)
noncomputable def c5a : Code := (Tryd.f5.body).getD .skip
noncomputable abbrev E5 (C : CF) (L : Nat) {β : Type} (h : H) (K : KK β) (n : Nat) (o : List Nat) (v : List (Nat × List Nat)) (r : T Value) : O β := execK prog C L 2 66 [2] (g c5a n) o v r h K
noncomputable def paeW (kn : K1 β) : O β :=
 bnd2 (A.box 24 x0 h) fun a b =>
 kn a b
theorem epaeW : E5 C L h K 2 [1] [] (r1 0 x0)=paeW h x0 (N1 K 1) := by kernel_rfl
noncomputable def pabI (kr kn : K1 β) : O β :=
 bnd (A.fieldAddr 22 x1) fun a =>
 bnd (A.load false 1 a h) fun b =>
 bnd (A.lenS b) fun c =>
 bnd (A.bin prog .gtr 3 c (.int .i64 100)) fun d =>
 toBK d fun e =>
 (bif e then
 kr (.bool true) h
 else
 kn x1 h)
theorem epabI : E5 C L h K 6 [1] [] (r1 1 x1)=pabI h x1 (R1 K 2) (N1 K 1) := by kernel_rfl
noncomputable def pagL (kn : K2 β) : O β :=
 kn x1 (.int .i64 10000) h
theorem epagL : E5 C L h K 14 [1,3] [] (r1 1 x1)=pagL h x1 (N2 K 1 3) := by kernel_rfl
noncomputable def padQ (kn : K3 β) : O β :=
 bnd (A.fieldAddr 5 x1) fun a =>
 bnd (A.load false 1 a h) fun b =>
 bnd (A.fieldAddr 6 x1) fun c =>
 bnd (A.load false 1 c h) fun d =>
 bnd (A.fieldAddr 10 x1) fun e =>
 bnd (A.load false 1 e h) fun f =>
 bnd (A.fieldAddr 12 x1) fun i =>
 bnd (A.fieldAddr 0 i) fun j =>
 bnd (A.load false 1 j h) fun k =>
 bnd (A.fieldAddr 12 x1) fun l =>
 bnd (A.fieldAddr 1 l) fun m =>
 bnd (A.load false 1 m h) fun n =>
 bnd (A.fieldAddr 18 x1) fun o =>
 bnd (A.load false 1 o h) fun p =>
 bnd (A.fieldAddr 19 x1) fun q =>
 bnd (A.load false 1 q h) fun r =>
 bnd (A.fieldAddr 23 x1) fun s =>
 bnd (A.load false 1 s h) fun t =>
 bnd2 (A.buildSlice 1 8 Z9L [(0,1,b),(1,1,d),(2,1,f),(3,1,k),(4,1,n),(5,1,p),(6,1,r),(7,1,t)] h) fun u v =>
 kn x1 u x3 v
theorem epadQ : E5 C L h K 30 [1,4,3] [] (r2 1 3 x1 x3)=padQ h x1 x3 (N3 K 1 4 3) := by kernel_rfl
noncomputable def pahT (kn : K4 β) : O β :=
 kn (.int .i64 0) x1 x4 x3 h
theorem epahT : E5 C L h K 124 [5,1,4,3] [] (r3 1 4 3 x1 x4 x3)=pahT h x1 x3 x4 (N4 K 5 1 4 3) := by kernel_rfl
noncomputable def padU (kx0 : K2 β) (kn : K4 β) : O β :=
 bnd (A.fieldAddr 22 x1) fun b =>
 bnd (A.load false 1 b h) fun c =>
 bnd (A.lenS c) fun d =>
 bnd (A.bin prog .lss 3 x5 d) fun e =>
 toBK e fun f =>
 (bif f then
 bnd (A.fieldAddr 22 x1) fun j =>
 bnd (A.load false 1 j h) fun k =>
 bnd (A.idxS 2 k x5) fun m =>
 bnd (A.fieldAddr 0 m) fun n =>
 bnd (A.load false 1 n h) fun o =>
 bnd2 (A.buildSlice 1 1 Z9L [(0,1,o)] h) fun p q =>
 bnd2 (A.append 1 16 x4 p q) fun r s =>
 bnd (A.bin prog .add 3 x5 (.int .i64 1)) fun v =>
 kn v x1 r x3 s
 else
 kx0 x4 x3 h)
theorem epadU : E5 C L h K 500 [5,1,4,3] [(0,[4,3])] (r4 5 1 4 3 x5 x1 x4 x3)=padU h x1 x3 x4 x5 (X2 K 0 4 3) (N4 K 5 1 4 3) := by kernel_rfl
noncomputable def pagI (C : CF) (L : Nat) {β : Type} (kx0 : K2 β) : Nat → K4 β
 | 0,_,_,_,_,_ => none
 | n + 1,x5,x1,x4,x3,h => padU h x1 x3 x4 x5 kx0 (fun x5 x1 x4 x3 h=>pagI C L kx0 n x5 x1 x4 x3 h)
theorem epagI (C : CF) (L : Nat) {β : Type} (K : KK β) : ∀ (n : Nat) (x5 x1 x4 x3 : V) (h : H),loopK (fun fr h K=>execK prog C L 2 66 [2] (g c5a 500) [5,1,4,3] [(0,[4,3])] fr h K) n (r4 5 1 4 3 x5 x1 x4 x3) h K=pagI C L (X2 K 0 4 3) n x5 x1 x4 x3 h
 | 0,_,_,_,_,_ => rfl
 | n + 1,x5,x1,x4,x3,h => (cg (epadU C L h _ x1 x3 x4 x5) (by kernel_rfl)).trans (congrArg _ (w4 fun x5 x1 x4 x3 h=>sl (epagI C L K n x5 x1 x4 x3 h)))
noncomputable def pacC (kx0 : K2 β) : O β :=
 pagI C L kx0 L x5 x1 x4 x3 h
def epacC:=(lp [4,3] (r4 5 1 4 3 x5 x1 x4 x3) (epagI C L K L x5 x1 x4 x3 h) (by kernel_rfl) : _=pacC C L h x1 x3 x4 x5 (X2 K 0 4 3))
noncomputable def pabM (kn : K2 β) : O β :=
 pahT h x1 x3 x4 (fun x5 x1 x4 x3 h=>pacC C L h x1 x3 x4 x5 kn)
def epabM:=(sq K (epahT C L h _ x1 x3 x4) (congrArg _ (w4 fun x5 x1 x4 x3 h=>sn (bk (epacC ..)))) (by kernel_rfl) : _=pabM C L h x1 x3 x4 (N2 K 4 3))
noncomputable def parJ (kn : K3 β) : O β :=
 kn (.int .i64 0) x4 x3 h
theorem eparJ : E5 C L h K 252 [6,4,3] [] (r2 4 3 x4 x3)=parJ h x3 x4 (N3 K 6 4 3) := by kernel_rfl
noncomputable def pamG (kr : K1 β) (kx2 : K0 β) (kn : K3 β) : O β :=
 bnd (A.lenS x4) fun c =>
 bnd (A.bin prog .lss 3 x6 c) fun d =>
 toBK d fun e =>
 (bif e then
 bnd (A.idxS 1 x4 x6) fun j =>
 bnd (A.load false 1 j h) fun k =>
 bnd (A.lenStr k) fun l =>
 bnd (A.bin prog .gtr 3 l x3) fun n =>
 toBK n fun o =>
 (bif o then
 kr (.bool true) h
 else
 bnd (A.idxS 1 x4 x6) fun t =>
 bnd (A.load false 1 t h) fun u =>
 bnd (A.lenStr u) fun v =>
 bnd (A.bin prog .sub 3 x3 v) fun w =>
 bnd (A.bin prog .add 3 x6 (.int .i64 1)) fun a1 =>
 kn a1 x4 w h)
 else
 kx2 h)
theorem epamG : E5 C L h K 1012 [6,4,3] [(2,[])] (r3 6 4 3 x6 x4 x3)=pamG h x3 x4 x6 (R1 K 2) (X0 K 2) (N3 K 6 4 3) := by kernel_rfl
noncomputable def pahU (C : CF) (L : Nat) {β : Type} (kr : K1 β) (kx2 : K0 β) : Nat → K3 β
 | 0,_,_,_,_ => none
 | n + 1,x6,x4,x3,h => pamG h x3 x4 x6 kr kx2 (fun x6 x4 x3 h=>pahU C L kr kx2 n x6 x4 x3 h)
theorem epahU (C : CF) (L : Nat) {β : Type} (K : KK β) : ∀ (n : Nat) (x6 x4 x3 : V) (h : H),loopK (fun fr h K=>execK prog C L 2 66 [2] (g c5a 1012) [6,4,3] [(2,[])] fr h K) n (r3 6 4 3 x6 x4 x3) h K=pahU C L (R1 K 2) (X0 K 2) n x6 x4 x3 h
 | 0,_,_,_,_ => rfl
 | n + 1,x6,x4,x3,h => (cg (epamG C L h _ x3 x4 x6) (by kernel_rfl)).trans (congrArg _ (w3 fun x6 x4 x3 h=>sl (epahU C L K n x6 x4 x3 h)))
noncomputable def pafW (kr : K1 β) (kx2 : K0 β) : O β :=
 pahU C L kr kx2 L x6 x4 x3 h
def epafW:=(lp [] (r3 6 4 3 x6 x4 x3) (epahU C L K L x6 x4 x3 h) (by kernel_rfl) : _=pafW C L h x3 x4 x6 (R1 K 2) (X0 K 2))
noncomputable def paeO (kr : K1 β) (kn : K0 β) : O β :=
 parJ h x3 x4 (fun x6 x4 x3 h=>pafW C L h x3 x4 x6 kr kn)
def epaeO:=(sq K (eparJ C L h _ x3 x4) (congrArg _ (w3 fun x6 x4 x3 h=>sn (bk (epafW ..)))) (by kernel_rfl) : _=paeO C L h x3 x4 (R1 K 2) (N0 K))
noncomputable def parK (kr : K1 β) : O β :=
 kr (.bool false) h
theorem eparK : E5 C L h K 127 [2] [] r0=parK h (R1 K 2) := by kernel_rfl
noncomputable def p5a (kr : K1 β) : O β :=
 paeW h x0 (fun x1 h=>pabI h x1 kr (fun x1 h=>pagL h x1 (fun x1 x3 h=>padQ h x1 x3 (fun x1 x4 x3 h=>pabM C L h x1 x3 x4 (fun x4 x3 h=>paeO C L h x3 x4 kr (fun h=>parK h kr))))))
def ep5a:=(sq K (epaeW C L h _ x0) (congrArg _ (w1 fun x1 h=>sn (sq K (epabI C L h _ x1) (congrArg _ (w1 fun x1 h=>sn (sq K (epagL C L h _ x1) (congrArg _ (w2 fun x1 x3 h=>sn (sq K (epadQ C L h _ x1 x3) (congrArg _ (w3 fun x1 x4 x3 h=>sn (sq K (epabM C L h _ x1 x3 x4) (congrArg _ (w2 fun x4 x3 h=>sn (sq K (epaeO C L h _ x3 x4) (congrArg _ (w0 fun h=>sn (eparK ..))) (by kernel_rfl)))) (by kernel_rfl)))) (by kernel_rfl)))) (by kernel_rfl)))) (by kernel_rfl)))) (by kernel_rfl) : _=p5a C L h x0 (R1 K 2))
noncomputable def F5 (C : CF) (L : Nat) (x0 : V) (h : H) : O (V × H) :=
 p5a C L h x0 (fun x2 h=>some (x2,h))
theorem F5eq (Q : Orc) (n : Nat) (x0 : V) (h : H) (q : Q 5 [x0]=none) : callO prog 2 Q (n + 1) 5 [x0] h=F5 (callO prog 2 Q n) n x0 h :=
 (tp q Tryd.func5 (ep5a (callO prog 2 Q n) n h _ x0) (by kernel_rfl)).trans (by kernel_rfl)
noncomputable def c6a : Code := (Tryd.f6.body).getD .skip
noncomputable abbrev E6 (C : CF) (L : Nat) {β : Type} (h : H) (K : KK β) (n : Nat) (o : List Nat) (v : List (Nat × List Nat)) (r : T Value) : O β := execK prog C L 2 59 [2,3] (g c6a n) o v r h K
noncomputable def paeV (kn : K1 β) : O β :=
 kn x0 h
theorem epaeV : E6 C L h K 2 [0] [] (r1 0 x0)=paeV h x0 (N1 K 0) := by kernel_rfl
noncomputable def pafO (kn : K2 β) : O β :=
 kn (.int .i64 0) x0 h
theorem epafO : E6 C L h K 6 [4,0] [] (r1 0 x0)=pafO h x0 (N2 K 4 0) := by kernel_rfl
noncomputable def panY (kn : K5 β) : O β :=
 bnd (A.lenS x0) fun b =>
 kn b (.int .i64 0) x0 x4 x0 h
theorem epanY : E6 C L h K 28 [14,15,13,4,0] [] (r2 4 0 x4 x0)=panY h x0 x4 (N5 K 14 15 13 4 0) := by kernel_rfl
noncomputable def pakU (kr kx0 : K2 β) (kn : K5 β) : O β :=
 bnd (A.bin prog .lss 3 x15 x14) fun a =>
 condV a (
 bnd (A.idxS 24 x13 x15) fun b =>
 bnd (A.load true 24 b h) fun c =>
 bnd2 (A.box 24 Z30 h) fun d e =>
 bnd (A.store 24 d c e) fun i =>
 bnd (A.load true 24 d i) fun j =>
 bnd2 (C 11 [j] i) fun k l =>
 bnd (A.bin prog .eql 3 k (.int .i64 0)) fun o =>
 toBK o fun p =>
 (bif p then
 kr (.string ⟨⟨[]⟩⟩) (.int .i64 4) l
 else
 bnd (A.bin prog .add 3 x4 k) fun u =>
 bnd (A.bin prog .add 3 x15 (.int .i64 1)) fun w =>
 kn x14 w x13 u x0 l)) (
 kx0 x4 x0 h)
theorem epakU : E6 C L h K 116 [14,15,13,4,0] [(0,[4,0])] (r5 14 15 13 4 0 x14 x15 x13 x4 x0)=pakU C h x0 x4 x13 x14 x15 (R2 K 2 3) (X2 K 0 4 0) (N5 K 14 15 13 4 0) := by kernel_rfl
noncomputable def pagV (C : CF) (L : Nat) {β : Type} (kr kx0 : K2 β) : Nat → K5 β
 | 0,_,_,_,_,_,_ => none
 | n + 1,x14,x15,x13,x4,x0,h => pakU C h x0 x4 x13 x14 x15 kr kx0 (fun x14 x15 x13 x4 x0 h=>pagV C L kr kx0 n x14 x15 x13 x4 x0 h)
theorem epagV (C : CF) (L : Nat) {β : Type} (K : KK β) : ∀ (n : Nat) (x14 x15 x13 x4 x0 : V) (h : H),loopK (fun fr h K=>execK prog C L 2 59 [2,3] (g c6a 116) [14,15,13,4,0] [(0,[4,0])] fr h K) n (r5 14 15 13 4 0 x14 x15 x13 x4 x0) h K=pagV C L (R2 K 2 3) (X2 K 0 4 0) n x14 x15 x13 x4 x0 h
 | 0,_,_,_,_,_,_ => rfl
 | n + 1,x14,x15,x13,x4,x0,h => (cg (epakU C L h _ x0 x4 x13 x14 x15) (by kernel_rfl)).trans (congrArg _ (w5 fun x14 x15 x13 x4 x0 h=>sl (epagV C L K n x14 x15 x13 x4 x0 h)))
noncomputable def paeX (kr kx0 : K2 β) : O β :=
 pagV C L kr kx0 L x14 x15 x13 x4 x0 h
def epaeX:=(lp [4,0] (r5 14 15 13 4 0 x14 x15 x13 x4 x0) (epagV C L K L x14 x15 x13 x4 x0 h) (by kernel_rfl) : _=paeX C L h x0 x4 x13 x14 x15 (R2 K 2 3) (X2 K 0 4 0))
noncomputable def pacT (kr kn : K2 β) : O β :=
 panY h x0 x4 (fun x14 x15 x13 x4 x0 h=>paeX C L h x0 x4 x13 x14 x15 kr kn)
def epacT:=(sq K (epanY C L h _ x0 x4) (congrArg _ (w5 fun x14 x15 x13 x4 x0 h=>sn (bk (epaeX ..)))) (by kernel_rfl) : _=pacT C L h x0 x4 (R2 K 2 3) (N2 K 4 0))
noncomputable def pabZ (kn : K2 β) : O β :=
 bnd2 (A.makeSlice 1 1 Z5L (.int .i64 0) x4 h) fun b c =>
 kn x0 b c
theorem epabZ : E6 C L h K 30 [0,8] [] (r2 4 0 x4 x0)=pabZ h x0 x4 (N2 K 0 8) := by kernel_rfl
noncomputable def pasG (kn : K4 β) : O β :=
 bnd (A.lenS x0) fun b =>
 kn b (.int .i64 0) x0 x8 h
theorem epasG : E6 C L h K 124 [30,31,29,8] [] (r2 0 8 x0 x8)=pasG h x0 x8 (N4 K 30 31 29 8) := by kernel_rfl
noncomputable def panZ (kn : K5 β) : O β :=
 bnd (A.bin prog .lss 3 x31 x30) fun a =>
 kn a x29 x30 x31 x8 h
theorem epanZ : E6 C L h K 1000 [32,29,30,31,8] [(2,[8])] (r4 30 31 29 8 x30 x31 x29 x8)=panZ h x8 x29 x30 x31 (N5 K 32 29 30 31 8) := by kernel_rfl
noncomputable def paoA (kx2 : K1 β) (kn : K4 β) : O β :=
 condV x32 (
 kn x8 x31 x30 x29 h) (
 kx2 x8 h)
theorem epaoA : E6 C L h K 2002 [8,31,30,29] [(2,[8])] (r5 32 29 30 31 8 x32 x29 x30 x31 x8)=paoA h x8 x29 x30 x31 x32 (X1 K 2 8) (N4 K 8 31 30 29) := by kernel_rfl
noncomputable def pasH (kn : K5 β) : O β :=
 bnd (A.idxS 24 x29 x31) fun a =>
 bnd (A.load true 24 a h) fun b =>
 bnd2 (A.box 24 Z30 h) fun c d =>
 bnd (A.store 24 c b d) fun f =>
 kn x8 c x31 x30 x29 f
theorem epasH : E6 C L h K 16024 [8,10,31,30,29] [(3,[31,30,29,8]),(2,[8])] (r4 8 31 30 29 x8 x31 x30 x29)=pasH h x8 x29 x30 x31 (N5 K 8 10 31 30 29) := by kernel_rfl
noncomputable def pasI (kn : K6 β) : O β :=
 bnd (A.load true 24 x10 h) fun a =>
 bnd2 (C 13 [a] h) fun b c =>
 bnd2 (C 12 [b] c) fun d e =>
 bnd (A.extract 0 d) fun i =>
 bnd (A.extract 1 d) fun j =>
 kn x8 i x10 x31 x30 x29 e
theorem epasI : E6 C L h K 32050 [8,11,10,31,30,29] [(3,[31,30,29,8]),(2,[8])] (r5 8 10 31 30 29 x8 x10 x31 x30 x29)=pasI C h x8 x10 x29 x30 x31 (N6 K 8 11 10 31 30 29) := by kernel_rfl
noncomputable def pasJ (kn : K4 β) : O β :=
 bnd (A.fieldAddr 0 x10) fun b =>
 bnd (A.load false 1 b h) fun c =>
 bnd (A.bin prog .shl 5 c (.int .u64 4)) fun d =>
 bnd (A.load true 24 x10 h) fun e =>
 bnd2 (C 14 [e] h) fun f i =>
 bif (chk (bnd (A.load false 1 b i) fun v => some v) c && true) then
 bnd (A.bin prog .or 5 d f) fun j =>
 bnd2 (A.buildSlice 1 1 Z5L [(0,1,j)] i) fun k l =>
 bnd2 (A.append 1 1 x8 k l) fun m n =>
 bnd2 (A.append 1 1 m x11 n) fun r s =>
 bnd (A.load true 24 x10 s) fun v =>
 bnd2 (C 15 [r,v] s) fun w y =>
 kn x31 x30 x29 w y
 else none
theorem epasJ : E6 C L h K 32051 [31,30,29,8] [(3,[31,30,29,8]),(2,[8])] (r6 8 11 10 31 30 29 x8 x11 x10 x31 x30 x29)=pasJ C h x8 x10 x11 x29 x30 x31 (N4 K 31 30 29 8) := by kernel_rfl
noncomputable def pagB (C : CF) (L : Nat) {β : Type} (x8 x31 x30 x29 : V) (h : H) (kn : K4 β) : O β :=
 pasH h x8 x29 x30 x31 (fun x8 x10 x31 x30 x29 h=>pasI C h x8 x10 x29 x30 x31 (fun x8 x11 x10 x31 x30 x29 h=>pasJ C h x8 x10 x11 x29 x30 x31 kn))
def epagB:=(sq K (epasH C L h _ x8 x29 x30 x31) (congrArg _ (w5 fun x8 x10 x31 x30 x29 h=>sn (sq K (epasI C L h _ x8 x10 x29 x30 x31) (congrArg _ (w6 fun x8 x11 x10 x31 x30 x29 h=>sn (epasJ ..))) (by kernel_rfl)))) (by kernel_rfl) : _=pagB C L x8 x31 x30 x29 h (N4 K 31 30 29 8))
noncomputable def pasK (kn : K4 β) : O β :=
 bnd (A.bin prog .add 3 x31 (.int .i64 1)) fun a =>
 kn x30 a x29 x8 h
theorem epasK : E6 C L h K 4007 [30,31,29,8] [(2,[8])] (r4 31 30 29 8 x31 x30 x29 x8)=pasK h x8 x29 x30 x31 (N4 K 30 31 29 8) := by kernel_rfl
noncomputable def padP (kx2 : K1 β) (kn : K4 β) : O β :=
 panZ h x8 x29 x30 x31 (fun x32 x29 x30 x31 x8 h=>paoA h x8 x29 x30 x31 x32 kx2 (fun x8 x31 x30 x29 h=>pagB C L x8 x31 x30 x29 h (fun x31 x30 x29 x8 h=>pasK h x8 x29 x30 x31 kn)))
def epadP:=(sq K (epanZ C L h _ x8 x29 x30 x31) (congrArg _ (w5 fun x32 x29 x30 x31 x8 h=>sn (sq K (epaoA C L h _ x8 x29 x30 x31 x32) (congrArg _ (w4 fun x8 x31 x30 x29 h=>sn (sq K (bk (epagB C L h _ x8 x29 x30 x31)) (congrArg _ (w4 fun x31 x30 x29 x8 h=>sn (epasK ..))) (by kernel_rfl)))) (by kernel_rfl)))) (by kernel_rfl) : _=padP C L h x8 x29 x30 x31 (X1 K 2 8) (N4 K 30 31 29 8))
noncomputable def paiL (C : CF) (L : Nat) {β : Type} (kx2 : K1 β) : Nat → K4 β
 | 0,_,_,_,_,_ => none
 | n + 1,x30,x31,x29,x8,h => padP C L h x8 x29 x30 x31 kx2 (fun x30 x31 x29 x8 h=>paiL C L kx2 n x30 x31 x29 x8 h)
theorem epaiL (C : CF) (L : Nat) {β : Type} (K : KK β) : ∀ (n : Nat) (x30 x31 x29 x8 : V) (h : H),loopK (fun fr h K=>execK prog C L 2 59 [2,3] (g c6a 500) [30,31,29,8] [(2,[8])] fr h K) n (r4 30 31 29 8 x30 x31 x29 x8) h K=paiL C L (X1 K 2 8) n x30 x31 x29 x8 h
 | 0,_,_,_,_,_ => rfl
 | n + 1,x30,x31,x29,x8,h => (cg (epadP C L h _ x8 x29 x30 x31) (by kernel_rfl)).trans (congrArg _ (w4 fun x30 x31 x29 x8 h=>sl (epaiL C L K n x30 x31 x29 x8 h)))
noncomputable def pacR (kx2 : K1 β) : O β :=
 paiL C L kx2 L x30 x31 x29 x8 h
def epacR:=(lp [8] (r4 30 31 29 8 x30 x31 x29 x8) (epaiL C L K L x30 x31 x29 x8 h) (by kernel_rfl) : _=pacR C L h x8 x29 x30 x31 (X1 K 2 8))
noncomputable def pabW (kn : K1 β) : O β :=
 pasG h x0 x8 (fun x30 x31 x29 x8 h=>pacR C L h x8 x29 x30 x31 kn)
def epabW:=(sq K (epasG C L h _ x0 x8) (congrArg _ (w4 fun x30 x31 x29 x8 h=>sn (bk (epacR ..)))) (by kernel_rfl) : _=pabW C L h x0 x8 (N1 K 8))
noncomputable def pabH (kr : K2 β) : O β :=
 bnd (A.b2s x8 h) fun b =>
 kr b (.int .i64 0) h
theorem epabH : E6 C L h K 63 [2,3] [] (r1 8 x8)=pabH h x8 (R2 K 2 3) := by kernel_rfl
noncomputable def p6a (kr : K2 β) : O β :=
 paeV h x0 (fun x0 h=>pafO h x0 (fun x4 x0 h=>pacT C L h x0 x4 kr (fun x4 x0 h=>pabZ h x0 x4 (fun x0 x8 h=>pabW C L h x0 x8 (fun x8 h=>pabH h x8 kr)))))
def ep6a:=(sq K (epaeV C L h _ x0) (congrArg _ (w1 fun x0 h=>sn (sq K (epafO C L h _ x0) (congrArg _ (w2 fun x4 x0 h=>sn (sq K (epacT C L h _ x0 x4) (congrArg _ (w2 fun x4 x0 h=>sn (sq K (epabZ C L h _ x0 x4) (congrArg _ (w2 fun x0 x8 h=>sn (sq K (epabW C L h _ x0 x8) (congrArg _ (w1 fun x8 h=>sn (epabH ..))) (by kernel_rfl)))) (by kernel_rfl)))) (by kernel_rfl)))) (by kernel_rfl)))) (by kernel_rfl) : _=p6a C L h x0 (R2 K 2 3))
noncomputable def F6 (C : CF) (L : Nat) (x0 : V) (h : H) : O (V × H) :=
 p6a C L h x0 (fun x2 x3 h=>some (.tuple ⟨[x2,x3]⟩,h))
theorem F6eq (Q : Orc) (n : Nat) (x0 : V) (h : H) (q : Q 6 [x0]=none) : callO prog 2 Q (n + 1) 6 [x0] h=F6 (callO prog 2 Q n) n x0 h :=
 (tp q Tryd.func6 (ep6a (callO prog 2 Q n) n h _ x0) (by kernel_rfl)).trans (by kernel_rfl)
noncomputable def c7a : Code := (Tryd.f7.body).getD .skip
noncomputable abbrev E7 (C : CF) (L : Nat) {β : Type} (h : H) (K : KK β) (n : Nat) (o : List Nat) (v : List (Nat × List Nat)) (r : T Value) : O β := execK prog C L 2 28 [2,3] (g c7a n) o v r h K
noncomputable def pagP (kn : K1 β) : O β :=
 kn x0 h
theorem epagP : E7 C L h K 2 [0] [] (r1 0 x0)=pagP h x0 (N1 K 0) := by kernel_rfl
noncomputable def paeN (kn : K2 β) : O β :=
 kn x0 (.slice none 0 0) h
theorem epaeN : E7 C L h K 6 [0,4] [] (r1 0 x0)=paeN h x0 (N2 K 0 4) := by kernel_rfl
noncomputable def pahX (kn : K3 β) : O β :=
 kn x0 x4 (.int .i64 0) h
theorem epahX : E7 C L h K 14 [0,4,5] [] (r2 0 4 x0 x4)=pahX h x0 x4 (N3 K 0 4 5) := by kernel_rfl
noncomputable def paoK (kr : K2 β) (kn : K3 β) : O β :=
 bnd (A.sliceStr x0 (some x5) none) fun c =>
 bnd2 (C 16 [c] h) fun d e =>
 bnd (A.extract 0 d) fun i =>
 bnd (A.extract 1 d) fun j =>
 bnd (A.extract 2 d) fun k =>
 bnd2 (A.box 24 Z30 e) fun l m =>
 bnd (A.store 24 l i m) fun o =>
 bnd (A.bin prog .neq 31 k (.int .i64 0)) fun s =>
 toBK s fun t =>
 (bif t then
 kr x4 x5 o
 else
 bnd (A.load true 24 l o) fun a1 =>
 bnd2 (A.buildSlice 24 1 Z30L [(0,24,a1)] o) fun b1 c1 =>
 bnd2 (A.append 24 200 x4 b1 c1) fun d1 e1 =>
 bnd (A.bin prog .add 3 x5 j) fun k1 =>
 kn x0 d1 k1 e1)
theorem epaoK : E7 C L h K 60 [0,4,5] [(0,[2,3])] (r3 0 4 5 x0 x4 x5)=paoK C h x0 x4 x5 (R2 K 2 3) (N3 K 0 4 5) := by kernel_rfl
noncomputable def pajC (C : CF) (L : Nat) {β : Type} (kr : K2 β) : Nat → K3 β
 | 0,_,_,_,_ => none
 | n + 1,x0,x4,x5,h => paoK C h x0 x4 x5 kr (fun x0 x4 x5 h=>pajC C L kr n x0 x4 x5 h)
theorem epajC (C : CF) (L : Nat) {β : Type} (K : KK β) : ∀ (n : Nat) (x0 x4 x5 : V) (h : H),loopK (fun fr h K=>execK prog C L 2 28 [2,3] (g c7a 60) [0,4,5] [(0,[2,3])] fr h K) n (r3 0 4 5 x0 x4 x5) h K=pajC C L (R2 K 2 3) n x0 x4 x5 h
 | 0,_,_,_,_ => rfl
 | n + 1,x0,x4,x5,h => (cg (epaoK C L h _ x0 x4 x5) (by kernel_rfl)).trans (congrArg _ (w3 fun x0 x4 x5 h=>sl (epajC C L K n x0 x4 x5 h)))
noncomputable def pagK (kr : K2 β) : O β :=
 pajC C L kr L x0 x4 x5 h
def epagK:=(lp [2,3] (r3 0 4 5 x0 x4 x5) (epajC C L K L x0 x4 x5 h) (by kernel_rfl) : _=pagK C L h x0 x4 x5 (R2 K 2 3))
noncomputable def p7a (kr : K2 β) : O β :=
 pagP h x0 (fun x0 h=>paeN h x0 (fun x0 x4 h=>pahX h x0 x4 (fun x0 x4 x5 h=>pagK C L h x0 x4 x5 kr)))
def ep7a:=(sq K (epagP C L h _ x0) (congrArg _ (w1 fun x0 h=>sn (sq K (epaeN C L h _ x0) (congrArg _ (w2 fun x0 x4 h=>sn (sq K (epahX C L h _ x0 x4) (congrArg _ (w3 fun x0 x4 x5 h=>sn (bk (epagK ..)))) (by kernel_rfl)))) (by kernel_rfl)))) (by kernel_rfl) : _=p7a C L h x0 (R2 K 2 3))
noncomputable def F7 (C : CF) (L : Nat) (x0 : V) (h : H) : O (V × H) :=
 p7a C L h x0 (fun x2 x3 h=>some (.tuple ⟨[x2,x3]⟩,h))
theorem F7eq (Q : Orc) (n : Nat) (x0 : V) (h : H) (q : Q 7 [x0]=none) : callO prog 2 Q (n + 1) 7 [x0] h=F7 (callO prog 2 Q n) n x0 h :=
 (tp q Tryd.func7 (ep7a (callO prog 2 Q n) n h _ x0) (by kernel_rfl)).trans (by kernel_rfl)
noncomputable def c8a : Code := (Tryd.f8.body).getD .skip
noncomputable abbrev E8 (C : CF) (L : Nat) {β : Type} (h : H) (K : KK β) (n : Nat) (o : List Nat) (v : List (Nat × List Nat)) (r : T Value) : O β := execK prog C L 2 37 [4] (g c8a n) o v r h K
noncomputable def pagY (kn : K2 β) : O β :=
 bnd2 (A.box 24 x0 h) fun a b =>
 bnd2 (A.box 24 x1 b) fun c d =>
 kn a c d
theorem epagY : E8 C L h K 2 [2,3] [] (r2 0 1 x0 x1)=pagY h x0 x1 (N2 K 2 3) := by kernel_rfl
noncomputable def pasW (kr : K1 β) (kn : K2 β) : O β :=
 bnd (A.load true 24 x2 h) fun a =>
 bnd2 (C 17 [a] h) fun b c =>
 bnd (A.load true 24 x3 c) fun d =>
 bif (chk (bnd (A.load true 24 x3 h) fun v => some v) d && true) then
 bnd2 (C 17 [d] c) fun e f =>
 bnd (A.bin prog .neq 53 b e) fun i =>
 toBK i fun j =>
 (bif j then
 kr (.bool false) f
 else
 bnd (A.fieldAddr 22 x2) fun n =>
 bnd (A.load false 1 n f) fun o =>
 bnd (A.lenS o) fun p =>
 bnd (A.fieldAddr 22 x3) fun q =>
 bnd (A.load false 1 q f) fun r =>
 bnd (A.lenS r) fun s =>
 bnd (A.bin prog .neq 3 p s) fun t =>
 toBK t fun u =>
 (bif u then
 kr (.bool false) f
 else
 kn x2 x3 f))
 else none
theorem epasW : E8 C L h K 6 [2,3] [] (r2 2 3 x2 x3)=pasW C h x2 x3 (R1 K 4) (N2 K 2 3) := by kernel_rfl
noncomputable def pasX (kn : K4 β) : O β :=
 bnd (A.fieldAddr 22 x2) fun a =>
 bnd (A.load false 1 a h) fun b =>
 bnd (A.lenS b) fun c =>
 kn c (.int .i64 0) x3 b h
theorem epasX : E8 C L h K 28 [23,24,3,22] [] (r2 2 3 x2 x3)=pasX h x2 x3 (N4 K 23 24 3 22) := by kernel_rfl
noncomputable def paoP (kr : K1 β) (kx0 : K0 β) (kn : K4 β) : O β :=
 bnd (A.bin prog .lss 3 x24 x23) fun a =>
 condV a (
 bnd (A.idxS 2 x22 x24) fun c =>
 bnd (A.load true 2 c h) fun d =>
 bnd2 (A.box 2 Z43 h) fun e f =>
 bnd (A.store 2 e d f) fun k =>
 bnd (A.load true 2 e k) fun l =>
 bnd (A.fieldAddr 22 x3) fun m =>
 bnd (A.load false 1 m k) fun n =>
 bnd (A.idxS 2 n x24) fun p =>
 bnd (A.load true 2 p k) fun q =>
 bnd (A.bin prog .neq 43 l q) fun r =>
 toBK r fun s =>
 (bif s then
 kr (.bool false) k
 else
 bnd (A.bin prog .add 3 x24 (.int .i64 1)) fun u =>
 kn x23 u x3 x22 k)) (
 kx0 h)
theorem epaoP : E8 C L h K 116 [23,24,3,22] [(0,[])] (r4 23 24 3 22 x23 x24 x3 x22)=paoP h x3 x22 x23 x24 (R1 K 4) (X0 K 0) (N4 K 23 24 3 22) := by kernel_rfl
noncomputable def paiN (C : CF) (L : Nat) {β : Type} (kr : K1 β) (kx0 : K0 β) : Nat → K4 β
 | 0,_,_,_,_,_ => none
 | n + 1,x23,x24,x3,x22,h => paoP h x3 x22 x23 x24 kr kx0 (fun x23 x24 x3 x22 h=>paiN C L kr kx0 n x23 x24 x3 x22 h)
theorem epaiN (C : CF) (L : Nat) {β : Type} (K : KK β) : ∀ (n : Nat) (x23 x24 x3 x22 : V) (h : H),loopK (fun fr h K=>execK prog C L 2 37 [4] (g c8a 116) [23,24,3,22] [(0,[])] fr h K) n (r4 23 24 3 22 x23 x24 x3 x22) h K=paiN C L (R1 K 4) (X0 K 0) n x23 x24 x3 x22 h
 | 0,_,_,_,_,_ => rfl
 | n + 1,x23,x24,x3,x22,h => (cg (epaoP C L h _ x3 x22 x23 x24) (by kernel_rfl)).trans (congrArg _ (w4 fun x23 x24 x3 x22 h=>sl (epaiN C L K n x23 x24 x3 x22 h)))
noncomputable def pagF (kr : K1 β) (kx0 : K0 β) : O β :=
 paiN C L kr kx0 L x23 x24 x3 x22 h
def epagF:=(lp [] (r4 23 24 3 22 x23 x24 x3 x22) (epaiN C L K L x23 x24 x3 x22 h) (by kernel_rfl) : _=pagF C L h x3 x22 x23 x24 (R1 K 4) (X0 K 0))
noncomputable def paeT (kr : K1 β) (kn : K0 β) : O β :=
 pasX h x2 x3 (fun x23 x24 x3 x22 h=>pagF C L h x3 x22 x23 x24 kr kn)
def epaeT:=(sq K (epasX C L h _ x2 x3) (congrArg _ (w4 fun x23 x24 x3 x22 h=>sn (bk (epagF ..)))) (by kernel_rfl) : _=paeT C L h x2 x3 (R1 K 4) (N0 K))
noncomputable def pasY (kr : K1 β) : O β :=
 kr (.bool true) h
theorem epasY : E8 C L h K 15 [4] [] r0=pasY h (R1 K 4) := by kernel_rfl
noncomputable def p8a (kr : K1 β) : O β :=
 pagY h x0 x1 (fun x2 x3 h=>pasW C h x2 x3 kr (fun x2 x3 h=>paeT C L h x2 x3 kr (fun h=>pasY h kr)))
def ep8a:=(sq K (epagY C L h _ x0 x1) (congrArg _ (w2 fun x2 x3 h=>sn (sq K (epasW C L h _ x2 x3) (congrArg _ (w2 fun x2 x3 h=>sn (sq K (epaeT C L h _ x2 x3) (congrArg _ (w0 fun h=>sn (epasY ..))) (by kernel_rfl)))) (by kernel_rfl)))) (by kernel_rfl) : _=p8a C L h x0 x1 (R1 K 4))
noncomputable def F8 (C : CF) (L : Nat) (x0 x1 : V) (h : H) : O (V × H) :=
 p8a C L h x0 x1 (fun x4 h=>some (x4,h))
theorem F8eq (Q : Orc) (n : Nat) (x0 x1 : V) (h : H) (q : Q 8 [x0,x1]=none) : callO prog 2 Q (n + 1) 8 [x0,x1] h=F8 (callO prog 2 Q n) n x0 x1 h :=
 (tp q Tryd.func8 (ep8a (callO prog 2 Q n) n h _ x0 x1) (by kernel_rfl)).trans (by kernel_rfl)
noncomputable def c11a : Code := (Tryd.f11.body).getD .skip
noncomputable abbrev E11 (C : CF) (L : Nat) {β : Type} (h : H) (K : KK β) (n : Nat) (o : List Nat) (v : List (Nat × List Nat)) (r : T Value) : O β := execK prog C L 2 13 [2] (g c11a n) o v r h K
noncomputable def p11a (kr : K1 β) : O β :=
 bnd2 (A.box 24 x0 h) fun a b =>
 bnd (A.load true 24 a b) fun d =>
 bnd2 (C 13 [d] b) fun e f =>
 bnd (A.bin prog .lss 3 e (.int .i64 0)) fun k =>
 toBK k fun l =>
 (bif l then
 kr (.int .i64 0) f
 else
 bnd2 (C 21 [e] f) fun o p =>
 bnd (A.bin prog .add 3 (.int .i64 1) o) fun q =>
 bnd (A.bin prog .add 3 q e) fun s =>
 kr s p)
theorem ep11a : E11 C L h K 1 [2] [] (r1 0 x0)=p11a C h x0 (R1 K 2) := by kernel_rfl
noncomputable def F11 (C : CF) (L : Nat) (x0 : V) (h : H) : O (V × H) :=
 p11a C h x0 (fun x2 h=>some (x2,h))
theorem F11eq (Q : Orc) (n : Nat) (x0 : V) (h : H) (q : Q 11 [x0]=none) : callO prog 2 Q (n + 1) 11 [x0] h=F11 (callO prog 2 Q n) n x0 h :=
 (tp q Tryd.func11 (ep11a (callO prog 2 Q n) n h _ x0) (by kernel_rfl)).trans (by kernel_rfl)
noncomputable def c12a : Code := (Tryd.f12.body).getD .skip
noncomputable abbrev E12 (C : CF) (L : Nat) {β : Type} (h : H) (K : KK β) (n : Nat) (o : List Nat) (v : List (Nat × List Nat)) (r : T Value) : O β := execK prog C L 2 28 [2,3] (g c12a n) o v r h K
noncomputable def paoQ (kn : K1 β) : O β :=
 kn x0 h
theorem epaoQ : E12 C L h K 2 [0] [] (r1 0 x0)=paoQ h x0 (N1 K 0) := by kernel_rfl
noncomputable def paoR (kn : K2 β) : O β :=
 bnd2 (C 21 [x0] h) fun b c =>
 kn b x0 c
theorem epaoR : E12 C L h K 6 [4,0] [] (r1 0 x0)=paoR C h x0 (N2 K 4 0) := by kernel_rfl
noncomputable def paoS (kr : K2 β) (kn : K1 β) : O β :=
 bnd (A.bin prog .eql 3 x4 (.int .i64 0)) fun b =>
 toBK b fun c =>
 (bif c then
 kr (.string ⟨⟨[]⟩⟩) (.int .i64 1) h
 else
 kn x0 h)
theorem epaoS : E12 C L h K 14 [0] [] (r2 4 0 x4 x0)=paoS h x0 x4 (R2 K 2 3) (N1 K 0) := by kernel_rfl
noncomputable def paoT (kn : K2 β) : O β :=
 bnd2 (A.makeSlice 1 1 Z5L (.int .i64 0) (.int .i64 4) h) fun a b =>
 kn a x0 b
theorem epaoT : E12 C L h K 30 [5,0] [] (r1 0 x0)=paoT h x0 (N2 K 5 0) := by kernel_rfl
noncomputable def pamO (kx0 kn : K2 β) : O β :=
 bnd (A.bin prog .geq 3 x0 (.int .i64 128)) fun b =>
 toBK b fun c =>
 (bif c then
 bnd (A.bin prog .rem 3 x0 (.int .i64 128)) fun f =>
 bnd (A.bin prog .add 3 f (.int .i64 128)) fun i =>
 bnd (A.conv prog 3 5 i) fun j =>
 bnd2 (A.buildSlice 1 1 Z5L [(0,1,j)] h) fun k l =>
 bnd2 (A.append 1 1 x5 k l) fun m n =>
 bnd (A.bin prog .quo 3 x0 (.int .i64 128)) fun q =>
 kn m q n
 else
 kx0 x5 x0 h)
theorem epamO : E12 C L h K 248 [5,0] [(0,[5,0])] (r2 5 0 x5 x0)=pamO h x0 x5 (X2 K 0 5 0) (N2 K 5 0) := by kernel_rfl
noncomputable def pahC (C : CF) (L : Nat) {β : Type} (kx0 : K2 β) : Nat → K2 β
 | 0,_,_,_ => none
 | n + 1,x5,x0,h => pamO h x0 x5 kx0 (fun x5 x0 h=>pahC C L kx0 n x5 x0 h)
theorem epahC (C : CF) (L : Nat) {β : Type} (K : KK β) : ∀ (n : Nat) (x5 x0 : V) (h : H),loopK (fun fr h K=>execK prog C L 2 28 [2,3] (g c12a 248) [5,0] [(0,[5,0])] fr h K) n (r2 5 0 x5 x0) h K=pahC C L (X2 K 0 5 0) n x5 x0 h
 | 0,_,_,_ => rfl
 | n + 1,x5,x0,h => (cg (epamO C L h _ x0 x5) (by kernel_rfl)).trans (congrArg _ (w2 fun x5 x0 h=>sl (epahC C L K n x5 x0 h)))
noncomputable def pafP (kx0 : K2 β) : O β :=
 pahC C L kx0 L x5 x0 h
def epafP:=(lp [5,0] (r2 5 0 x5 x0) (epahC C L K L x5 x0 h) (by kernel_rfl) : _=pafP C L h x0 x5 (X2 K 0 5 0))
noncomputable def pahY (C : CF) (L : Nat) {β : Type} (x5 x0 : V) (h : H) (kr : K2 β) : O β :=
 bnd (A.conv prog 3 5 x0) fun c =>
 bnd2 (A.buildSlice 1 1 Z5L [(0,1,c)] h) fun d e =>
 bnd2 (A.append 1 1 x5 d e) fun f i =>
 bnd (A.b2s f i) fun j =>
 kr j (.int .i64 0) i
theorem epahY : E12 C L h K 63 [2,3] [] (r2 5 0 x5 x0)=pahY C L x5 x0 h (R2 K 2 3) := by kernel_rfl
noncomputable def p12a (kr : K2 β) : O β :=
 paoQ h x0 (fun x0 h=>paoR C h x0 (fun x4 x0 h=>paoS h x0 x4 kr (fun x0 h=>paoT h x0 (fun x5 x0 h=>pafP C L h x0 x5 (fun x5 x0 h=>pahY C L x5 x0 h kr)))))
def ep12a:=(sq K (epaoQ C L h _ x0) (congrArg _ (w1 fun x0 h=>sn (sq K (epaoR C L h _ x0) (congrArg _ (w2 fun x4 x0 h=>sn (sq K (epaoS C L h _ x0 x4) (congrArg _ (w1 fun x0 h=>sn (sq K (epaoT C L h _ x0) (congrArg _ (w2 fun x5 x0 h=>sn (sq K (bk (epafP C L h _ x0 x5)) (congrArg _ (w2 fun x5 x0 h=>sn (epahY ..))) (by kernel_rfl)))) (by kernel_rfl)))) (by kernel_rfl)))) (by kernel_rfl)))) (by kernel_rfl) : _=p12a C L h x0 (R2 K 2 3))
noncomputable def F12 (C : CF) (L : Nat) (x0 : V) (h : H) : O (V × H) :=
 p12a C L h x0 (fun x2 x3 h=>some (.tuple ⟨[x2,x3]⟩,h))
theorem F12eq (Q : Orc) (n : Nat) (x0 : V) (h : H) (q : Q 12 [x0]=none) : callO prog 2 Q (n + 1) 12 [x0] h=F12 (callO prog 2 Q n) n x0 h :=
 (tp q Tryd.func12 (ep12a (callO prog 2 Q n) n h _ x0) (by kernel_rfl)).trans (by kernel_rfl)
noncomputable def c13a : Code := (Tryd.f13.body).getD .skip
noncomputable abbrev E13 (C : CF) (L : Nat) {β : Type} (h : H) (K : KK β) (n : Nat) (o : List Nat) (v : List (Nat × List Nat)) (r : T Value) : O β := execK prog C L 2 62 [2] (g c13a n) o v r h K
noncomputable def pajD (kn : K1 β) : O β :=
 bnd2 (A.box 24 x0 h) fun a b =>
 kn a b
theorem epajD : E13 C L h K 2 [1] [] (r1 0 x0)=pajD h x0 (N1 K 1) := by kernel_rfl
noncomputable def pajE (kn : K2 β) : O β :=
 kn x1 (.int .i64 (-1)) h
theorem epajE : E13 C L h K 6 [1,3] [] (r1 1 x1)=pajE h x1 (N2 K 1 3) := by kernel_rfl
noncomputable def pahK (kn : K3 β) : O β :=
 bnd (A.fieldAddr 0 x1) fun a =>
 bnd (A.load false 1 a h) fun b =>
 kn b x1 x3 h
theorem epahK : E13 C L h K 28 [5,1,3] [] (r2 1 3 x1 x3)=pahK h x1 x3 (N3 K 5 1 3) := by kernel_rfl
noncomputable def pahL (kn : K4 β) : O β :=
 bnd (A.bin prog .eql 5 x5 (.int .u8 1)) fun a =>
 toBK a fun b =>
 kn (.bool b) x5 x1 x3 h
theorem epahL : E13 C L h K 116 [6,5,1,3] [(0,[1,3])] (r3 5 1 3 x5 x1 x3)=pahL h x1 x3 x5 (N4 K 6 5 1 3) := by kernel_rfl
noncomputable def paoY (kn : K2 β) : O β :=
 bnd (A.load true 24 x1 h) fun a =>
 bnd2 (C 22 [a] h) fun b c =>
 kn x1 b c
theorem epaoY : E13 C L h K 234 [1,3] [(0,[1,3])] (r4 6 5 1 3 x6 x5 x1 x3)=paoY C h x1 (N2 K 1 3) := by kernel_rfl
noncomputable def pahZ (kn : K4 β) : O β :=
 bnd (A.bin prog .eql 5 x5 (.int .u8 2)) fun a =>
 toBK a fun b =>
 kn (.bool b) x5 x1 x3 h
theorem epahZ : E13 C L h K 470 [10,5,1,3] [(0,[1,3])] (r4 6 5 1 3 x6 x5 x1 x3)=pahZ h x1 x3 x5 (N4 K 10 5 1 3) := by kernel_rfl
noncomputable def pajH (kn : K3 β) : O β :=
 bnd (A.fieldAddr 21 x1) fun a =>
 bnd (A.load false 1 a h) fun b =>
 bnd (A.bin prog .leq 5 b (.int .u8 5)) fun c =>
 toBK c fun d =>
 (bif d then
 bnd (A.fieldAddr 21 x1) fun f =>
 bnd (A.load false 1 f h) fun i =>
 bnd (A.bin prog .eql 5 i (.int .u8 0)) fun j =>
 toBK j fun k =>
 (bif k then
 kn (.bool true) x1 x3 h
 else
 bnd (A.fieldAddr 20 x1) fun o =>
 bnd (A.load false 1 o h) fun p =>
 toBK p fun q =>
 bnd (A.un prog .not (.bool q)) fun r =>
 toBK r fun s =>
 kn (.bool s) x1 x3 h)
 else
 kn (.bool false) x1 x3 h)
theorem epajH : E13 C L h K 1884 [24,1,3] [(0,[1,3])] (r4 10 5 1 3 x10 x5 x1 x3)=pajH h x1 x3 (N3 K 24 1 3) := by kernel_rfl
noncomputable def pajI (kn : K2 β) : O β :=
 condV x24 (
 kn x1 (.int .i64 2) h) (
 kn x1 x3 h)
theorem epajI : E13 C L h K 1885 [1,3] [(0,[1,3])] (r3 24 1 3 x24 x1 x3)=pajI h x1 x3 x24 (N2 K 1 3) := by kernel_rfl
noncomputable def pafE (kn : K2 β) : O β :=
 pajH h x1 x3 (fun x24 x1 x3 h=>pajI h x1 x3 x24 kn)
def epafE:=(sq K (epajH C L h _ x1 x3 x5 x10) (congrArg _ (w3 fun x24 x1 x3 h=>sn (epajI ..))) (by kernel_rfl) : _=pafE h x1 x3 (N2 K 1 3))
noncomputable def pamP (kn : K4 β) : O β :=
 bnd (A.bin prog .eql 5 x5 (.int .u8 3)) fun a =>
 toBK a fun b =>
 kn (.bool b) x5 x1 x3 h
theorem epamP : E13 C L h K 1886 [25,5,1,3] [(0,[1,3])] (r4 10 5 1 3 x10 x5 x1 x3)=pamP h x1 x3 x5 (N4 K 25 5 1 3) := by kernel_rfl
noncomputable def paoX (kn : K2 β) : O β :=
 bnd (A.load true 24 x1 h) fun a =>
 bnd2 (C 23 [a] h) fun b c =>
 kn x1 b c
theorem epaoX : E13 C L h K 3774 [1,3] [(0,[1,3])] (r4 25 5 1 3 x25 x5 x1 x3)=paoX C h x1 (N2 K 1 3) := by kernel_rfl
noncomputable def paiA (kn : K4 β) : O β :=
 bnd (A.bin prog .eql 5 x5 (.int .u8 4)) fun a =>
 toBK a fun b =>
 kn (.bool b) x5 x1 x3 h
theorem epaiA : E13 C L h K 15100 [29,5,1,3] [(0,[1,3])] (r4 25 5 1 3 x25 x5 x1 x3)=paiA h x1 x3 x5 (N4 K 29 5 1 3) := by kernel_rfl
noncomputable def paoU (kn : K4 β) : O β :=
 kn x29 x5 x1 x3 h
theorem epaoU : E13 C L h K 30202 [29,5,1,3] [(0,[1,3])] (r4 29 5 1 3 x29 x5 x1 x3)=paoU h x1 x3 x5 x29 (N4 K 29 5 1 3) := by kernel_rfl
noncomputable def paiO (kn : K4 β) : O β :=
 bnd (A.bin prog .eql 5 x5 (.int .u8 5)) fun a =>
 toBK a fun b =>
 (bif b then
 kn (.bool b) x5 x1 x3 h
 else
 bnd (A.bin prog .eql 5 x5 (.int .u8 6)) fun d =>
 toBK d fun e =>
 (bif e then
 kn (.bool e) x5 x1 x3 h
 else
 bnd (A.bin prog .eql 5 x5 (.int .u8 7)) fun i =>
 toBK i fun j =>
 (bif j then
 kn (.bool j) x5 x1 x3 h
 else
 bnd (A.bin prog .eql 5 x5 (.int .u8 11)) fun l =>
 toBK l fun m =>
 kn (.bool m) x5 x1 x3 h)))
theorem epaiO : E13 C L h K 30203 [29,5,1,3] [(0,[1,3])] (r4 29 5 1 3 x29 x5 x1 x3)=paiO h x1 x3 x5 (N4 K 29 5 1 3) := by kernel_rfl
noncomputable def pafC (kn : K4 β) : O β :=
 condV x29 (paoU h x1 x3 x5 x29 kn) (paiO h x1 x3 x5 kn)
def epafC:=(cd K (.tmp 29) x29 (epaoU C L h K x1 x3 x5 x29) (epaiO C L h K x1 x3 x5 x29) (by kernel_rfl) : _=pafC h x1 x3 x5 x29 (N4 K 29 5 1 3))
noncomputable def padR (C : CF) (L : Nat) {β : Type} (x25 x5 x1 x3 : V) (h : H) (kn : K4 β) : O β :=
 paiA h x1 x3 x5 (fun x29 x5 x1 x3 h=>pafC h x1 x3 x5 x29 kn)
def epadR:=(sq K (epaiA C L h _ x1 x3 x5 x25) (congrArg _ (w4 fun x29 x5 x1 x3 h=>sn (epafC ..))) (by kernel_rfl) : _=padR C L x25 x5 x1 x3 h (N4 K 29 5 1 3))
noncomputable def paoW (kn : K2 β) : O β :=
 bnd (A.load true 24 x1 h) fun a =>
 bnd2 (C 24 [a] h) fun b c =>
 kn x1 b c
theorem epaoW : E13 C L h K 15102 [1,3] [(0,[1,3])] (r4 29 5 1 3 x29 x5 x1 x3)=paoW C h x1 (N2 K 1 3) := by kernel_rfl
noncomputable def pahM (kn : K4 β) : O β :=
 bnd (A.bin prog .eql 5 x5 (.int .u8 8)) fun a =>
 toBK a fun b =>
 (bif b then
 kn (.bool b) x5 x1 x3 h
 else
 bnd (A.bin prog .eql 5 x5 (.int .u8 10)) fun d =>
 toBK d fun e =>
 kn (.bool e) x5 x1 x3 h)
theorem epahM : E13 C L h K 30206 [37,5,1,3] [(0,[1,3])] (r4 29 5 1 3 x29 x5 x1 x3)=pahM h x1 x3 x5 (N4 K 37 5 1 3) := by kernel_rfl
noncomputable def pamQ (kn : K2 β) : O β :=
 bnd (A.load true 24 x1 h) fun a =>
 bnd2 (C 25 [a] h) fun b c =>
 kn x1 b c
theorem epamQ : E13 C L h K 60414 [1,3] [(0,[1,3])] (r4 37 5 1 3 x37 x5 x1 x3)=pamQ C h x1 (N2 K 1 3) := by kernel_rfl
noncomputable def paiP (kn : K4 β) : O β :=
 bnd (A.bin prog .eql 5 x5 (.int .u8 9)) fun a =>
 toBK a fun b =>
 kn (.bool b) x5 x1 x3 h
theorem epaiP : E13 C L h K 120830 [42,5,1,3] [(0,[1,3])] (r4 37 5 1 3 x37 x5 x1 x3)=paiP h x1 x3 x5 (N4 K 42 5 1 3) := by kernel_rfl
noncomputable def paoV (kn : K2 β) : O β :=
 bnd (A.load true 24 x1 h) fun a =>
 bnd2 (C 26 [a] h) fun b c =>
 kn x1 b c
theorem epaoV : E13 C L h K 241662 [1,3] [(0,[1,3])] (r4 42 5 1 3 x42 x5 x1 x3)=paoV C h x1 (N2 K 1 3) := by kernel_rfl
noncomputable def pajF (kn : K3 β) : O β :=
 bnd (A.bin prog .eql 5 x5 (.int .u8 12)) fun a =>
 toBK a fun b =>
 (bif b then
 kn (.bool b) x1 x3 h
 else
 bnd (A.bin prog .eql 5 x5 (.int .u8 13)) fun d =>
 toBK d fun e =>
 (bif e then
 kn (.bool e) x1 x3 h
 else
 bnd (A.bin prog .eql 5 x5 (.int .u8 14)) fun i =>
 toBK i fun j =>
 kn (.bool j) x1 x3 h))
theorem epajF : E13 C L h K 483326 [46,1,3] [(0,[1,3])] (r4 42 5 1 3 x42 x5 x1 x3)=pajF h x1 x3 x5 (N3 K 46 1 3) := by kernel_rfl
noncomputable def pajG (kn : K2 β) : O β :=
 condV x46 (
 kn x1 (.int .i64 0) h) (
 kn x1 x3 h)
theorem epajG : E13 C L h K 483327 [1,3] [(0,[1,3])] (r3 46 1 3 x46 x1 x3)=pajG h x1 x3 x46 (N2 K 1 3) := by kernel_rfl
noncomputable def pafD (kn : K2 β) : O β :=
 pajF h x1 x3 x5 (fun x46 x1 x3 h=>pajG h x1 x3 x46 kn)
def epafD:=(sq K (epajF C L h _ x1 x3 x5 x42) (congrArg _ (w3 fun x46 x1 x3 h=>sn (epajG ..))) (by kernel_rfl) : _=pafD h x1 x3 x5 (N2 K 1 3))
noncomputable def paeA (kn : K2 β) : O β :=
 condV x42 (paoV C h x1 kn) (pafD h x1 x3 x5 kn)
def epaeA:=(cd K (.tmp 42) x42 (epaoV C L h K x1 x3 x5 x42) (epafD C L h K x1 x3 x5 x42) (by kernel_rfl) : _=paeA C h x1 x3 x5 x42 (N2 K 1 3))
noncomputable def pacU (kn : K2 β) : O β :=
 paiP h x1 x3 x5 (fun x42 x5 x1 x3 h=>paeA C h x1 x3 x5 x42 kn)
def epacU:=(sq K (epaiP C L h _ x1 x3 x5 x37) (congrArg _ (w4 fun x42 x5 x1 x3 h=>sn (epaeA ..))) (by kernel_rfl) : _=pacU C h x1 x3 x5 (N2 K 1 3))
noncomputable def pacD (kn : K2 β) : O β :=
 condV x37 (pamQ C h x1 kn) (pacU C h x1 x3 x5 kn)
def epacD:=(cd K (.tmp 37) x37 (epamQ C L h K x1 x3 x5 x37) (epacU C L h K x1 x3 x5 x37) (by kernel_rfl) : _=pacD C h x1 x3 x5 x37 (N2 K 1 3))
noncomputable def pabK (C : CF) (L : Nat) {β : Type} (x29 x5 x1 x3 : V) (h : H) (kn : K2 β) : O β :=
 pahM h x1 x3 x5 (fun x37 x5 x1 x3 h=>pacD C h x1 x3 x5 x37 kn)
def epabK:=(sq K (epahM C L h _ x1 x3 x5 x29) (congrArg _ (w4 fun x37 x5 x1 x3 h=>sn (epacD ..))) (by kernel_rfl) : _=pabK C L x29 x5 x1 x3 h (N2 K 1 3))
noncomputable def pabD (C : CF) (L : Nat) {β : Type} (x29 x5 x1 x3 : V) (h : H) (kn : K2 β) : O β :=
 condV x29 (paoW C h x1 kn) (pabK C L x29 x5 x1 x3 h kn)
def epabD:=(cd K (.tmp 29) x29 (epaoW C L h K x1 x3 x5 x29) (epabK C L h K x1 x3 x5 x29) (by kernel_rfl) : _=pabD C L x29 x5 x1 x3 h (N2 K 1 3))
noncomputable def paaQ (kn : K2 β) : O β :=
 padR C L x25 x5 x1 x3 h (fun x29 x5 x1 x3 h=>pabD C L x29 x5 x1 x3 h kn)
def epaaQ:=(sq K (epadR C L h _ x1 x3 x5 x25) (congrArg _ (w4 fun x29 x5 x1 x3 h=>sn (epabD ..))) (by kernel_rfl) : _=paaQ C L h x1 x3 x5 x25 (N2 K 1 3))
noncomputable def paaO (kn : K2 β) : O β :=
 condV x25 (paoX C h x1 kn) (paaQ C L h x1 x3 x5 x25 kn)
def epaaO:=(cd K (.tmp 25) x25 (epaoX C L h K x1 x3 x5 x25) (epaaQ C L h K x1 x3 x5 x25) (by kernel_rfl) : _=paaO C L h x1 x3 x5 x25 (N2 K 1 3))
noncomputable def paaN (kn : K2 β) : O β :=
 pamP h x1 x3 x5 (fun x25 x5 x1 x3 h=>paaO C L h x1 x3 x5 x25 kn)
def epaaN:=(sq K (epamP C L h _ x1 x3 x5 x10) (congrArg _ (w4 fun x25 x5 x1 x3 h=>sn (epaaO ..))) (by kernel_rfl) : _=paaN C L h x1 x3 x5 (N2 K 1 3))
noncomputable def paaJ (kn : K2 β) : O β :=
 condV x10 (pafE h x1 x3 kn) (paaN C L h x1 x3 x5 kn)
def epaaJ:=(cd K (.tmp 10) x10 (epafE C L h K x1 x3 x5 x10) (epaaN C L h K x1 x3 x5 x10) (by kernel_rfl) : _=paaJ C L h x1 x3 x5 x10 (N2 K 1 3))
noncomputable def paaG (kn : K2 β) : O β :=
 pahZ h x1 x3 x5 (fun x10 x5 x1 x3 h=>paaJ C L h x1 x3 x5 x10 kn)
def epaaG:=(sq K (epahZ C L h _ x1 x3 x5 x6) (congrArg _ (w4 fun x10 x5 x1 x3 h=>sn (epaaJ ..))) (by kernel_rfl) : _=paaG C L h x1 x3 x5 (N2 K 1 3))
noncomputable def paaE (kn : K2 β) : O β :=
 condV x6 (paoY C h x1 kn) (paaG C L h x1 x3 x5 kn)
def epaaE:=(cd K (.tmp 6) x6 (epaoY C L h K x1 x3 x5 x6) (epaaG C L h K x1 x3 x5 x6) (by kernel_rfl) : _=paaE C L h x1 x3 x5 x6 (N2 K 1 3))
noncomputable def paaD (kn : K2 β) : O β :=
 pahL h x1 x3 x5 (fun x6 x5 x1 x3 h=>paaE C L h x1 x3 x5 x6 kn)
def epaaD:=(sq K (epahL C L h _ x1 x3 x5) (congrArg _ (w4 fun x6 x5 x1 x3 h=>sn (epaaE ..))) (by kernel_rfl) : _=paaD C L h x1 x3 x5 (N2 K 1 3))
noncomputable def paaC (C : CF) (L : Nat) {β : Type} (x1 x3 : V) (h : H) (kn : K2 β) : O β :=
 pahK h x1 x3 (fun x5 x1 x3 h=>paaD C L h x1 x3 x5 kn)
def epaaC:=(sq K (epahK C L h _ x1 x3) (congrArg _ (w3 fun x5 x1 x3 h=>sn (bk (epaaD ..)))) (by kernel_rfl) : _=paaC C L x1 x3 h (N2 K 1 3))
noncomputable def pajJ (kr : K1 β) : O β :=
 bnd (A.bin prog .lss 3 x3 (.int .i64 0)) fun b =>
 toBK b fun c =>
 (bif c then
 kr (.int .i64 (-1)) h
 else
 bnd (A.bin prog .gtr 3 x3 (.int .i64 268435455)) fun l =>
 toBK l fun m =>
 (bif m then
 kr (.int .i64 (-1)) h
 else
 bnd (A.load true 24 x1 h) fun r =>
 bnd2 (C 27 [r] h) fun s t =>
 toBK s fun u =>
 bnd (A.un prog .not (.bool u)) fun v =>
 toBK v fun w =>
 (bif w then
 kr (.int .i64 (-1)) t
 else
 kr x3 t)))
theorem epajJ : E13 C L h K 15 [2] [] (r2 1 3 x1 x3)=pajJ C h x1 x3 (R1 K 2) := by kernel_rfl
noncomputable def p13a (kr : K1 β) : O β :=
 pajD h x0 (fun x1 h=>pajE h x1 (fun x1 x3 h=>paaC C L x1 x3 h (fun x1 x3 h=>pajJ C h x1 x3 kr)))
def ep13a:=(sq K (epajD C L h _ x0) (congrArg _ (w1 fun x1 h=>sn (sq K (epajE C L h _ x1) (congrArg _ (w2 fun x1 x3 h=>sn (sq K (epaaC C L h _ x1 x3) (congrArg _ (w2 fun x1 x3 h=>sn (epajJ ..))) (by kernel_rfl)))) (by kernel_rfl)))) (by kernel_rfl) : _=p13a C L h x0 (R1 K 2))
noncomputable def F13 (C : CF) (L : Nat) (x0 : V) (h : H) : O (V × H) :=
 p13a C L h x0 (fun x2 h=>some (x2,h))
theorem F13eq (Q : Orc) (n : Nat) (x0 : V) (h : H) (q : Q 13 [x0]=none) : callO prog 2 Q (n + 1) 13 [x0] h=F13 (callO prog 2 Q n) n x0 h :=
 (tp q Tryd.func13 (ep13a (callO prog 2 Q n) n h _ x0) (by kernel_rfl)).trans (by kernel_rfl)
noncomputable def c14a : Code := (Tryd.f14.body).getD .skip
noncomputable abbrev E14 (C : CF) (L : Nat) {β : Type} (h : H) (K : KK β) (n : Nat) (o : List Nat) (v : List (Nat × List Nat)) (r : T Value) : O β := execK prog C L 2 22 [2] (g c14a n) o v r h K
noncomputable def paiQ (kn : K1 β) : O β :=
 bnd2 (A.box 24 x0 h) fun a b =>
 kn a b
theorem epaiQ : E14 C L h K 2 [1] [] (r1 0 x0)=paiQ h x0 (N1 K 1) := by kernel_rfl
noncomputable def paiR (kn : K2 β) : O β :=
 bnd (A.fieldAddr 0 x1) fun a =>
 bnd (A.load false 1 a h) fun b =>
 kn x1 b h
theorem epaiR : E14 C L h K 12 [1,4] [] (r1 1 x1)=paiR h x1 (N2 K 1 4) := by kernel_rfl
noncomputable def paiS (kn : K3 β) : O β :=
 bnd (A.bin prog .eql 5 x4 (.int .u8 3)) fun a =>
 toBK a fun b =>
 kn (.bool b) x1 x4 h
theorem epaiS : E14 C L h K 52 [5,1,4] [(0,[])] (r2 1 4 x1 x4)=paiS h x1 x4 (N3 K 5 1 4) := by kernel_rfl
noncomputable def paoZ (kr : K1 β) : O β :=
 bnd (A.fieldAddr 1 x1) fun a =>
 bnd (A.load false 1 a h) fun b =>
 toBK b fun c =>
 bnd2 (C 28 [(.bool c),(.int .u64 3)] h) fun d e =>
 bnd (A.fieldAddr 2 x1) fun f =>
 bnd (A.load false 1 f e) fun i =>
 bif (chk (bnd (A.load false 1 f h) fun v => some v) i && true) then
 bnd (A.bin prog .shl 5 i (.int .u64 1)) fun j =>
 bnd (A.bin prog .or 5 d j) fun k =>
 bnd (A.fieldAddr 3 x1) fun l =>
 bnd (A.load false 1 l e) fun m =>
 toBK m fun n =>
 bif (chk (bnd (A.load false 1 l h) fun v => some v) (.bool n) && true) then
 bnd2 (C 28 [(.bool n),(.int .u64 0)] e) fun o p =>
 bif (chk (bnd (A.load false 1 f p) fun v => some v) i && true) then
 bnd (A.bin prog .or 5 k o) fun q =>
 kr q p
 else none
 else none
 else none
theorem epaoZ : E14 C L h K 106 [] [(0,[])] (r3 5 1 4 x5 x1 x4)=paoZ C h x1 (R1 K 2) := by kernel_rfl
noncomputable def pajK (kn : K1 β) : O β :=
 bnd (A.bin prog .eql 5 x4 (.int .u8 6)) fun a =>
 toBK a fun b =>
 (bif b then
 kn (.bool b) h
 else
 bnd (A.bin prog .eql 5 x4 (.int .u8 8)) fun d =>
 toBK d fun e =>
 (bif e then
 kn (.bool e) h
 else
 bnd (A.bin prog .eql 5 x4 (.int .u8 10)) fun i =>
 toBK i fun j =>
 kn (.bool j) h))
theorem epajK : E14 C L h K 214 [18] [(0,[])] (r3 5 1 4 x5 x1 x4)=pajK h x4 (N1 K 18) := by kernel_rfl
noncomputable def pajL (kr : K1 β) (kn : K0 β) : O β :=
 condV x18 (
 kr (.int .u8 2) h) (
 kn h)
theorem epajL : E14 C L h K 215 [] [(0,[])] (r1 18 x18)=pajL h x18 (R1 K 2) (N0 K) := by kernel_rfl
noncomputable def pafF (kr : K1 β) (kn : K0 β) : O β :=
 pajK h x4 (fun x18 h=>pajL h x18 kr kn)
def epafF:=(sq K (epajK C L h _ x1 x4 x5) (congrArg _ (w1 fun x18 h=>sn (epajL ..))) (by kernel_rfl) : _=pafF h x4 (R1 K 2) (N0 K))
noncomputable def paeB (kr : K1 β) (kn : K0 β) : O β :=
 condV x5 (paoZ C h x1 kr) (pafF h x4 kr kn)
def epaeB:=(cd K (.tmp 5) x5 (epaoZ C L h K x1 x4 x5) (epafF C L h K x1 x4 x5) (by kernel_rfl) : _=paeB C h x1 x4 x5 (R1 K 2) (N0 K))
noncomputable def pacV (kr : K1 β) (kn : K0 β) : O β :=
 paiS h x1 x4 (fun x5 x1 x4 h=>paeB C h x1 x4 x5 kr kn)
def epacV:=(sq K (epaiS C L h _ x1 x4) (congrArg _ (w3 fun x5 x1 x4 h=>sn (epaeB ..))) (by kernel_rfl) : _=pacV C h x1 x4 (R1 K 2) (N0 K))
noncomputable def pacB (kr : K1 β) (kn : K0 β) : O β :=
 paiR h x1 (fun x1 x4 h=>pacV C h x1 x4 kr kn)
def epacB:=(sq K (epaiR C L h _ x1) (congrArg _ (w2 fun x1 x4 h=>sn (bk (epacV ..)))) (by kernel_rfl) : _=pacB C h x1 (R1 K 2) (N0 K))
noncomputable def papA (kr : K1 β) : O β :=
 kr (.int .u8 0) h
theorem epapA : E14 C L h K 7 [2] [] r0=papA h (R1 K 2) := by kernel_rfl
noncomputable def p14a (kr : K1 β) : O β :=
 paiQ h x0 (fun x1 h=>pacB C h x1 kr (fun h=>papA h kr))
def ep14a:=(sq K (epaiQ C L h _ x0) (congrArg _ (w1 fun x1 h=>sn (sq K (epacB C L h _ x1) (congrArg _ (w0 fun h=>sn (epapA ..))) (by kernel_rfl)))) (by kernel_rfl) : _=p14a C h x0 (R1 K 2))
noncomputable def F14 (C : CF) (L : Nat) (x0 : V) (h : H) : O (V × H) :=
 p14a C h x0 (fun x2 h=>some (x2,h))
theorem F14eq (Q : Orc) (n : Nat) (x0 : V) (h : H) (q : Q 14 [x0]=none) : callO prog 2 Q (n + 1) 14 [x0] h=F14 (callO prog 2 Q n) n x0 h :=
 (tp q Tryd.func14 (ep14a (callO prog 2 Q n) n h _ x0) (by kernel_rfl)).trans (by kernel_rfl)
noncomputable def c15a : Code := (Tryd.f15.body).getD .skip
noncomputable abbrev E15 (C : CF) (L : Nat) {β : Type} (h : H) (K : KK β) (n : Nat) (o : List Nat) (v : List (Nat × List Nat)) (r : T Value) : O β := execK prog C L 2 65 [4] (g c15a n) o v r h K
noncomputable def palA (kn : K2 β) : O β :=
 bnd2 (A.box 24 x1 h) fun a b =>
 kn x0 a b
theorem epalA : E15 C L h K 2 [0,3] [] (r2 0 1 x0 x1)=palA h x0 x1 (N2 K 0 3) := by kernel_rfl
noncomputable def pajM (kn : K3 β) : O β :=
 bnd (A.fieldAddr 0 x3) fun a =>
 bnd (A.load false 1 a h) fun b =>
 kn b x0 x3 h
theorem epajM : E15 C L h K 12 [8,0,3] [] (r2 0 3 x0 x3)=pajM h x0 x3 (N3 K 8 0 3) := by kernel_rfl
noncomputable def pajN (kn : K4 β) : O β :=
 bnd (A.bin prog .eql 5 x8 (.int .u8 1)) fun a =>
 toBK a fun b =>
 kn (.bool b) x8 x0 x3 h
theorem epajN : E15 C L h K 52 [9,8,0,3] [(0,[0,3])] (r3 8 0 3 x8 x0 x3)=pajN h x0 x3 x8 (N4 K 9 8 0 3) := by kernel_rfl
noncomputable def papB (kr : K1 β) : O β :=
 bnd (A.load true 24 x3 h) fun b =>
 bnd2 (C 29 [x0,b] h) fun c d =>
 kr c d
theorem epapB : E15 C L h K 106 [0,3] [(0,[0,3])] (r4 9 8 0 3 x9 x8 x0 x3)=papB C h x0 x3 (R1 K 4) := by kernel_rfl
noncomputable def palB (kr : K1 β) (kn : K2 β) : O β :=
 bnd (A.bin prog .eql 5 x8 (.int .u8 2)) fun a =>
 toBK a fun b =>
 (bif b then
 bnd (A.fieldAddr 20 x3) fun e =>
 bnd (A.load false 1 e h) fun f =>
 toBK f fun i =>
 bnd2 (C 28 [(.bool i),(.int .u64 0)] h) fun j k =>
 bnd (A.fieldAddr 21 x3) fun l =>
 bnd (A.load false 1 l k) fun m =>
 bif (chk (bnd (A.load false 1 l h) fun v => some v) m && true) then
 bnd2 (A.buildSlice 1 2 Z5L [(0,1,j),(1,1,m)] k) fun n o =>
 bnd2 (A.append 1 1 x0 n o) fun p q =>
 kr p q
 else none
 else
 bnd (A.bin prog .eql 5 x8 (.int .u8 3)) fun s =>
 toBK s fun t =>
 (bif t then
 bnd (A.fieldAddr 5 x3) fun w =>
 bnd (A.load false 1 w h) fun y =>
 bnd2 (C 30 [x0,y] h) fun z a1 =>
 kn z x3 a1
 else
 kn x0 x3 h))
theorem epalB : E15 C L h K 107 [0,3] [(0,[0,3])] (r4 9 8 0 3 x9 x8 x0 x3)=palB C h x0 x3 x8 (R1 K 4) (N2 K 0 3) := by kernel_rfl
noncomputable def pagG (kr : K1 β) (kn : K2 β) : O β :=
 condV x9 (papB C h x0 x3 kr) (palB C h x0 x3 x8 kr kn)
def epagG:=(cd K (.tmp 9) x9 (epapB C L h K x0 x3 x8 x9) (epalB C L h K x0 x3 x8 x9) (by kernel_rfl) : _=pagG C h x0 x3 x8 x9 (R1 K 4) (N2 K 0 3))
noncomputable def paeH (kr : K1 β) (kn : K2 β) : O β :=
 pajN h x0 x3 x8 (fun x9 x8 x0 x3 h=>pagG C h x0 x3 x8 x9 kr kn)
def epaeH:=(sq K (epajN C L h _ x0 x3 x8) (congrArg _ (w4 fun x9 x8 x0 x3 h=>sn (epagG ..))) (by kernel_rfl) : _=paeH C h x0 x3 x8 (R1 K 4) (N2 K 0 3))
noncomputable def padA (C : CF) (L : Nat) {β : Type} (x0 x3 : V) (h : H) (kr : K1 β) (kn : K2 β) : O β :=
 pajM h x0 x3 (fun x8 x0 x3 h=>paeH C h x0 x3 x8 kr kn)
def epadA:=(sq K (epajM C L h _ x0 x3) (congrArg _ (w3 fun x8 x0 x3 h=>sn (bk (epaeH ..)))) (by kernel_rfl) : _=padA C L x0 x3 h (R1 K 4) (N2 K 0 3))
noncomputable def palC (C : CF) (L : Nat) {β : Type} (x0 x3 : V) (h : H) (kn : K2 β) : O β :=
 bnd (A.fieldAddr 4 x3) fun a =>
 bnd (A.load false 1 a h) fun b =>
 bnd (A.bin prog .gtr 25 b (.int .u16 0)) fun c =>
 toBK c fun d =>
 (bif d then
 bnd (A.fieldAddr 4 x3) fun f =>
 bnd (A.load false 1 f h) fun i =>
 bnd2 (C 31 [x0,i] h) fun j k =>
 kn j x3 k
 else
 kn x0 x3 h)
theorem epalC : E15 C L h K 14 [0,3] [] (r2 0 3 x0 x3)=palC C L x0 x3 h (N2 K 0 3) := by kernel_rfl
noncomputable def papC (kn : K5 β) : O β :=
 bnd (A.fieldAddr 22 x3) fun a =>
 bnd (A.load false 1 a h) fun b =>
 bnd (A.lenS b) fun c =>
 kn c (.int .i64 0) b x0 x3 h
theorem epapC : E15 C L h K 60 [39,40,38,0,3] [] (r2 0 3 x0 x3)=papC h x0 x3 (N5 K 39 40 38 0 3) := by kernel_rfl
noncomputable def palD (kx1 : K2 β) (kn : K5 β) : O β :=
 bnd (A.bin prog .lss 3 x40 x39) fun a =>
 condV a (
 bnd (A.idxS 2 x38 x40) fun b =>
 bnd (A.load true 2 b h) fun c =>
 bnd2 (A.box 2 Z43 h) fun d e =>
 bnd (A.store 2 d c e) fun i =>
 bnd (A.fieldAddr 0 d) fun k =>
 bnd (A.load false 1 k i) fun l =>
 bnd2 (C 30 [x0,l] i) fun m n =>
 bnd (A.fieldAddr 0 x3) fun p =>
 bnd (A.load false 1 p n) fun q =>
 bnd (A.bin prog .eql 5 q (.int .u8 8)) fun r =>
 toBK r fun s =>
 (bif s then
 bnd (A.fieldAddr 1 d) fun u =>
 bnd (A.load false 1 u n) fun v =>
 bnd2 (A.buildSlice 1 1 Z5L [(0,1,v)] n) fun w y =>
 bnd2 (A.append 1 1 m w y) fun z a1 =>
 bnd (A.bin prog .add 3 x40 (.int .i64 1)) fun c1 =>
 kn x39 c1 x38 z x3 a1
 else
 bnd (A.bin prog .add 3 x40 (.int .i64 1)) fun e1 =>
 kn x39 e1 x38 m x3 n)) (
 kx1 x0 x3 h)
theorem epalD : E15 C L h K 244 [39,40,38,0,3] [(1,[0,3])] (r5 39 40 38 0 3 x39 x40 x38 x0 x3)=palD C h x0 x3 x38 x39 x40 (X2 K 1 0 3) (N5 K 39 40 38 0 3) := by kernel_rfl
noncomputable def paiB (C : CF) (L : Nat) {β : Type} (kx1 : K2 β) : Nat → K5 β
 | 0,_,_,_,_,_,_ => none
 | n + 1,x39,x40,x38,x0,x3,h => palD C h x0 x3 x38 x39 x40 kx1 (fun x39 x40 x38 x0 x3 h=>paiB C L kx1 n x39 x40 x38 x0 x3 h)
theorem epaiB (C : CF) (L : Nat) {β : Type} (K : KK β) : ∀ (n : Nat) (x39 x40 x38 x0 x3 : V) (h : H),loopK (fun fr h K=>execK prog C L 2 65 [4] (g c15a 244) [39,40,38,0,3] [(1,[0,3])] fr h K) n (r5 39 40 38 0 3 x39 x40 x38 x0 x3) h K=paiB C L (X2 K 1 0 3) n x39 x40 x38 x0 x3 h
 | 0,_,_,_,_,_,_ => rfl
 | n + 1,x39,x40,x38,x0,x3,h => (cg (epalD C L h _ x0 x3 x38 x39 x40) (by kernel_rfl)).trans (congrArg _ (w5 fun x39 x40 x38 x0 x3 h=>sl (epaiB C L K n x39 x40 x38 x0 x3 h)))
noncomputable def pafZ (kx1 : K2 β) : O β :=
 paiB C L kx1 L x39 x40 x38 x0 x3 h
def epafZ:=(lp [0,3] (r5 39 40 38 0 3 x39 x40 x38 x0 x3) (epaiB C L K L x39 x40 x38 x0 x3 h) (by kernel_rfl) : _=pafZ C L h x0 x3 x38 x39 x40 (X2 K 1 0 3))
noncomputable def paeQ (kn : K2 β) : O β :=
 papC h x0 x3 (fun x39 x40 x38 x0 x3 h=>pafZ C L h x0 x3 x38 x39 x40 kn)
def epaeQ:=(sq K (epapC C L h _ x0 x3) (congrArg _ (w5 fun x39 x40 x38 x0 x3 h=>sn (bk (epafZ ..)))) (by kernel_rfl) : _=paeQ C L h x0 x3 (N2 K 0 3))
noncomputable def pamR (C : CF) (L : Nat) {β : Type} (x0 x3 : V) (h : H) (kr : K1 β) : O β :=
 bnd (A.fieldAddr 23 x3) fun b =>
 bnd (A.load false 1 b h) fun c =>
 bnd2 (A.append 1 1 x0 c h) fun d e =>
 bnd (A.fieldAddr 6 x3) fun j =>
 bnd (A.load false 1 j e) fun k =>
 bnd2 (A.append 1 1 d k e) fun l m =>
 kr l m
theorem epamR : E15 C L h K 31 [4] [] (r2 0 3 x0 x3)=pamR C L x0 x3 h (R1 K 4) := by kernel_rfl
noncomputable def padB (C : CF) (L : Nat) {β : Type} (x0 x3 : V) (h : H) (kr : K1 β) : O β :=
 palC C L x0 x3 h (fun x0 x3 h=>paeQ C L h x0 x3 (fun x0 x3 h=>pamR C L x0 x3 h kr))
def epadB:=(sq K (epalC C L h _ x0 x3) (congrArg _ (w2 fun x0 x3 h=>sn (sq K (epaeQ C L h _ x0 x3) (congrArg _ (w2 fun x0 x3 h=>sn (epamR ..))) (by kernel_rfl)))) (by kernel_rfl) : _=padB C L x0 x3 h (R1 K 4))
noncomputable def p15a (kr : K1 β) : O β :=
 palA h x0 x1 (fun x0 x3 h=>padA C L x0 x3 h kr (fun x0 x3 h=>padB C L x0 x3 h kr))
def ep15a:=(sq K (epalA C L h _ x0 x1) (congrArg _ (w2 fun x0 x3 h=>sn (sq K (epadA C L h _ x0 x3) (congrArg _ (w2 fun x0 x3 h=>sn (epadB ..))) (by kernel_rfl)))) (by kernel_rfl) : _=p15a C L h x0 x1 (R1 K 4))
noncomputable def F15 (C : CF) (L : Nat) (x0 x1 : V) (h : H) : O (V × H) :=
 p15a C L h x0 x1 (fun x4 h=>some (x4,h))
theorem F15eq (Q : Orc) (n : Nat) (x0 x1 : V) (h : H) (q : Q 15 [x0,x1]=none) : callO prog 2 Q (n + 1) 15 [x0,x1] h=F15 (callO prog 2 Q n) n x0 x1 h :=
 (tp q Tryd.func15 (ep15a (callO prog 2 Q n) n h _ x0 x1) (by kernel_rfl)).trans (by kernel_rfl)
noncomputable def c16a : Code := (Tryd.f16.body).getD .skip
noncomputable abbrev E16 (C : CF) (L : Nat) {β : Type} (h : H) (K : KK β) (n : Nat) (o : List Nat) (v : List (Nat × List Nat)) (r : T Value) : O β := execK prog C L 2 124 [2,3,4] (g c16a n) o v r h K
noncomputable def pahN (kn : K2 β) : O β :=
 bnd2 (A.box 24 Z30 h) fun a b =>
 kn x0 a b
theorem epahN : E16 C L h K 2 [0,2] [] (r1 0 x0)=pahN h x0 (N2 K 0 2) := by kernel_rfl
noncomputable def pahO (kr : K3 β) (kn : K2 β) : O β :=
 bnd (A.bin prog .eql 9 x0 (.string ⟨⟨[]⟩⟩)) fun b =>
 toBK b fun c =>
 (bif c then
 bnd (A.build Z30L []) fun d =>
 bnd (A.store 24 x2 d h) fun f =>
 kr x2 (.int .i64 0) (.int .i64 2) f
 else
 kn x0 x2 h)
theorem epahO : E16 C L h K 6 [0,2] [] (r2 0 2 x0 x2)=pahO h x0 x2 (R3 K 2 3 4) (N2 K 0 2) := by kernel_rfl
noncomputable def paiC (kr : K3 β) (kn : K2 β) : O β :=
 bnd (A.indexStr x0 (.int .i64 0)) fun b =>
 bnd2 (C 32 [b] h) fun c d =>
 toBK c fun e =>
 bnd (A.un prog .not (.bool e)) fun f =>
 toBK f fun i =>
 (bif i then
 bnd (A.build Z30L []) fun j =>
 bnd (A.store 24 x2 j d) fun l =>
 kr x2 (.int .i64 0) (.int .i64 4) l
 else
 kn x0 x2 d)
theorem epaiC : E16 C L h K 14 [0,2] [] (r2 0 2 x0 x2)=paiC C h x0 x2 (R3 K 2 3 4) (N2 K 0 2) := by kernel_rfl
noncomputable def paiT (kn : K5 β) : O β :=
 bnd (A.sliceStr x0 (some (.int .i64 1)) none) fun b =>
 bnd2 (C 33 [b] h) fun c d =>
 bnd (A.extract 0 c) fun f =>
 bnd (A.extract 1 c) fun i =>
 bnd (A.extract 2 c) fun j =>
 kn j i x0 f x2 d
theorem epaiT : E16 C L h K 30 [4,6,0,5,2] [] (r2 0 2 x0 x2)=paiT C h x0 x2 (N5 K 4 6 0 5 2) := by kernel_rfl
noncomputable def paiU (kr : K3 β) (kn : K4 β) : O β :=
 bnd (A.bin prog .neq 31 x4 (.int .i64 0)) fun b =>
 toBK b fun c =>
 (bif c then
 bnd (A.build Z30L []) fun d =>
 bnd (A.store 24 x2 d h) fun i =>
 kr x2 (.int .i64 0) x4 i
 else
 kn x6 x0 x5 x2 h)
theorem epaiU : E16 C L h K 62 [6,0,5,2] [] (r5 4 6 0 5 2 x4 x6 x0 x5 x2)=paiU h x0 x2 x4 x5 x6 (R3 K 2 3 4) (N4 K 6 0 5 2) := by kernel_rfl
noncomputable def pajO (kn : K4 β) : O β :=
 bnd (A.bin prog .add 3 x6 (.int .i64 1)) fun b =>
 kn x0 b x5 x2 h
theorem epajO : E16 C L h K 126 [0,6,5,2] [] (r4 6 0 5 2 x6 x0 x5 x2)=pajO h x0 x2 x5 x6 (N4 K 0 6 5 2) := by kernel_rfl
noncomputable def pajP (kr : K3 β) (kn : K4 β) : O β :=
 bnd (A.lenStr x0) fun b =>
 bnd (A.bin prog .sub 3 b x6) fun d =>
 bnd (A.bin prog .lss 3 d x5) fun f =>
 toBK f fun i =>
 (bif i then
 bnd (A.build Z30L []) fun j =>
 bnd (A.store 24 x2 j h) fun l =>
 kr x2 (.int .i64 0) (.int .i64 2) l
 else
 kn x0 x6 x5 x2 h)
theorem epajP : E16 C L h K 254 [0,6,5,2] [] (r4 0 6 5 2 x0 x6 x5 x2)=pajP h x0 x2 x5 x6 (R3 K 2 3 4) (N4 K 0 6 5 2) := by kernel_rfl
noncomputable def palE (kn : K5 β) : O β :=
 bnd (A.bin prog .add 3 x6 x5) fun e =>
 bnd (A.sliceStr x0 (some x6) (some e)) fun f =>
 bnd (A.build Z70L [(0,1,f)]) fun i =>
 bnd (A.build Z72L [(0,2,i)]) fun j =>
 bnd2 (A.box 26 j h) fun k l =>
 kn x0 k x6 x5 x2 l
theorem epalE : E16 C L h K 510 [0,7,6,5,2] [] (r4 0 6 5 2 x0 x6 x5 x2)=palE h x0 x2 x5 x6 (N5 K 0 7 6 5 2) := by kernel_rfl
noncomputable def palF (kn : K5 β) : O β :=
 bnd (A.indexStr x0 (.int .i64 0)) fun c =>
 bnd (A.bin prog .shr 5 c (.int .u64 4)) fun d =>
 bnd (A.nilCheck x7) fun e =>
 bnd (A.fieldAddr 2 e) fun f =>
 bnd (A.fieldAddr 0 f) fun i =>
 bnd (A.store 1 i d h) fun k =>
 kn x0 x7 x6 x5 x2 k
theorem epalF : E16 C L h K 1022 [0,7,6,5,2] [] (r5 0 7 6 5 2 x0 x7 x6 x5 x2)=palF h x0 x2 x5 x6 x7 (N5 K 0 7 6 5 2) := by kernel_rfl
noncomputable def paiV (C : CF) (L : Nat) {β : Type} (x0 x7 x6 x5 x2 : V) (h : H) (kn : K6 β) : O β :=
 bnd (A.nilCheck x7) fun b =>
 bnd (A.fieldAddr 2 b) fun c =>
 bnd (A.fieldAddr 0 c) fun d =>
 bnd (A.load false 1 d h) fun e =>
 bnd (A.bin prog .eql 5 e (.int .u8 1)) fun f =>
 toBK f fun i =>
 (bif i then
 bnd (A.bin prog .gtr 3 x5 (.int .i64 6)) fun l =>
 toBK l fun m =>
 (bif m then
 bnd (A.nilCheck x7) fun q =>
 bnd (A.fieldAddr 0 q) fun r =>
 bnd (A.fieldAddr 0 r) fun s =>
 bnd (A.load false 1 s h) fun t =>
 bnd (A.sliceStr t none (some (.int .i64 6))) fun u =>
 bnd (A.bin prog .eql 9 u (.string ⟨⟨[0,4,77,81,84,84]⟩⟩)) fun v =>
 toBK v fun w =>
 (bif w then
 bnd (A.nilCheck x7) fun b1 =>
 bnd (A.fieldAddr 0 b1) fun c1 =>
 bnd (A.fieldAddr 0 c1) fun d1 =>
 bnd (A.load false 1 d1 h) fun e1 =>
 bnd (A.indexStr e1 (.int .i64 6)) fun f1 =>
 bnd (A.bin prog .neq 5 f1 (.int .u8 4)) fun i1 =>
 toBK i1 fun j1 =>
 kn (.bool j1) x0 x7 x6 x5 x2 h
 else
 kn (.bool false) x0 x7 x6 x5 x2 h)
 else
 kn (.bool false) x0 x7 x6 x5 x2 h)
 else
 kn (.bool false) x0 x7 x6 x5 x2 h)
theorem epaiV : E16 C L h K 4092 [79,0,7,6,5,2] [] (r5 0 7 6 5 2 x0 x7 x6 x5 x2)=paiV C L x0 x7 x6 x5 x2 h (N6 K 79 0 7 6 5 2) := by kernel_rfl
noncomputable def palG (kr : K3 β) (kn : K5 β) : O β :=
 condV x79 (
 bnd (A.nilCheck x7) fun b =>
 bnd (A.fieldAddr 0 b) fun c =>
 bnd (A.fieldAddr 0 c) fun d =>
 bnd (A.load false 1 d h) fun e =>
 bnd (A.indexStr e (.int .i64 6)) fun f =>
 bnd (A.build Z30L [(0,1,(.int .u8 1)),(7,1,f)]) fun i =>
 bnd (A.bin prog .add 3 x6 x5) fun l =>
 bnd (A.store 24 x2 i h) fun n =>
 kr x2 l (.int .i64 0) n) (
 kn x0 x7 x6 x5 x2 h)
theorem epalG : E16 C L h K 4093 [0,7,6,5,2] [] (r6 79 0 7 6 5 2 x79 x0 x7 x6 x5 x2)=palG h x0 x2 x5 x6 x7 x79 (R3 K 2 3 4) (N5 K 0 7 6 5 2) := by kernel_rfl
noncomputable def pafQ (kr : K3 β) (kn : K5 β) : O β :=
 paiV C L x0 x7 x6 x5 x2 h (fun x79 x0 x7 x6 x5 x2 h=>palG h x0 x2 x5 x6 x7 x79 kr kn)
def epafQ:=(sq K (epaiV C L h _ x0 x2 x5 x6 x7) (congrArg _ (w6 fun x79 x0 x7 x6 x5 x2 h=>sn (epalG ..))) (by kernel_rfl) : _=pafQ C L h x0 x2 x5 x6 x7 (R3 K 2 3 4) (N5 K 0 7 6 5 2))
noncomputable def pamS (kn : K4 β) : O β :=
 bnd (A.indexStr x0 (.int .i64 0)) fun c =>
 bnd (A.bin prog .and 5 c (.int .u8 15)) fun d =>
 bnd2 (C 34 [x7,d] h) fun e f =>
 kn x7 x6 x5 x2 f
theorem epamS : E16 C L h K 4094 [7,6,5,2] [] (r5 0 7 6 5 2 x0 x7 x6 x5 x2)=pamS C h x0 x2 x5 x6 x7 (N4 K 7 6 5 2) := by kernel_rfl
noncomputable def pajQ (kn : K5 β) : O β :=
 bnd (A.nilCheck x7) fun b =>
 bnd (A.fieldAddr 0 b) fun c =>
 bnd (A.fieldAddr 1 c) fun d =>
 bnd (A.load false 1 d h) fun e =>
 toBK e fun f =>
 (bif f then
 kn (.bool true) x7 x6 x5 x2 h
 else
 bnd (A.nilCheck x7) fun n =>
 bnd (A.fieldAddr 0 n) fun o =>
 bnd (A.fieldAddr 0 o) fun p =>
 bnd (A.load false 1 p h) fun q =>
 bnd (A.bin prog .neq 9 q (.string ⟨⟨[]⟩⟩)) fun r =>
 toBK r fun s =>
 (bif s then
 kn (.bool true) x7 x6 x5 x2 h
 else
 bnd (A.nilCheck x7) fun y =>
 bnd (A.fieldAddr 2 y) fun z =>
 bnd (A.load true 24 z h) fun a1 =>
 bnd2 (C 35 [a1] h) fun b1 c1 =>
 toBK b1 fun d1 =>
 bnd (A.un prog .not (.bool d1)) fun e1 =>
 toBK e1 fun f1 =>
 kn (.bool f1) x7 x6 x5 x2 c1))
theorem epajQ : E16 C L h K 16380 [115,7,6,5,2] [] (r4 7 6 5 2 x7 x6 x5 x2)=pajQ C h x2 x5 x6 x7 (N5 K 115 7 6 5 2) := by kernel_rfl
noncomputable def pajR (kr : K3 β) (kn : K4 β) : O β :=
 condV x115 (
 bnd (A.build Z30L []) fun a =>
 bnd (A.store 24 x2 a h) fun c =>
 kr x2 (.int .i64 0) (.int .i64 4) c) (
 kn x7 x6 x5 x2 h)
theorem epajR : E16 C L h K 16381 [7,6,5,2] [] (r5 115 7 6 5 2 x115 x7 x6 x5 x2)=pajR h x2 x5 x6 x7 x115 (R3 K 2 3 4) (N4 K 7 6 5 2) := by kernel_rfl
noncomputable def pafG (kr : K3 β) (kn : K4 β) : O β :=
 pajQ C h x2 x5 x6 x7 (fun x115 x7 x6 x5 x2 h=>pajR h x2 x5 x6 x7 x115 kr kn)
def epafG:=(sq K (epajQ C L h _ x2 x5 x6 x7) (congrArg _ (w5 fun x115 x7 x6 x5 x2 h=>sn (epajR ..))) (by kernel_rfl) : _=pafG C h x2 x5 x6 x7 (R3 K 2 3 4) (N4 K 7 6 5 2))
noncomputable def papD (kr : K3 β) : O β :=
 bnd (A.nilCheck x7) fun b =>
 bnd (A.fieldAddr 2 b) fun c =>
 bnd (A.load true 24 c h) fun d =>
 bnd (A.bin prog .add 3 x6 x5) fun i =>
 bnd (A.store 24 x2 d h) fun k =>
 kr x2 i (.int .i64 0) k
theorem epapD : E16 C L h K 8191 [2,3,4] [] (r4 7 6 5 2 x7 x6 x5 x2)=papD h x2 x5 x6 x7 (R3 K 2 3 4) := by kernel_rfl
noncomputable def padY (C : CF) (L : Nat) {β : Type} (x7 x6 x5 x2 : V) (h : H) (kr : K3 β) : O β :=
 pafG C h x2 x5 x6 x7 kr (fun x7 x6 x5 x2 h=>papD h x2 x5 x6 x7 kr)
def epadY:=(sq K (epafG C L h _ x2 x5 x6 x7) (congrArg _ (w4 fun x7 x6 x5 x2 h=>sn (epapD ..))) (by kernel_rfl) : _=padY C L x7 x6 x5 x2 h (R3 K 2 3 4))
noncomputable def p16a (kr : K3 β) : O β :=
 pahN h x0 (fun x0 x2 h=>pahO h x0 x2 kr (fun x0 x2 h=>paiC C h x0 x2 kr (fun x0 x2 h=>paiT C h x0 x2 (fun x4 x6 x0 x5 x2 h=>paiU h x0 x2 x4 x5 x6 kr (fun x6 x0 x5 x2 h=>pajO h x0 x2 x5 x6 (fun x0 x6 x5 x2 h=>pajP h x0 x2 x5 x6 kr (fun x0 x6 x5 x2 h=>palE h x0 x2 x5 x6 (fun x0 x7 x6 x5 x2 h=>palF h x0 x2 x5 x6 x7 (fun x0 x7 x6 x5 x2 h=>pafQ C L h x0 x2 x5 x6 x7 kr (fun x0 x7 x6 x5 x2 h=>pamS C h x0 x2 x5 x6 x7 (fun x7 x6 x5 x2 h=>padY C L x7 x6 x5 x2 h kr)))))))))))
def ep16a:=(sq K (epahN C L h _ x0) (congrArg _ (w2 fun x0 x2 h=>sn (sq K (epahO C L h _ x0 x2) (congrArg _ (w2 fun x0 x2 h=>sn (sq K (epaiC C L h _ x0 x2) (congrArg _ (w2 fun x0 x2 h=>sn (sq K (epaiT C L h _ x0 x2) (congrArg _ (w5 fun x4 x6 x0 x5 x2 h=>sn (sq K (epaiU C L h _ x0 x2 x4 x5 x6) (congrArg _ (w4 fun x6 x0 x5 x2 h=>sn (sq K (epajO C L h _ x0 x2 x5 x6) (congrArg _ (w4 fun x0 x6 x5 x2 h=>sn (sq K (epajP C L h _ x0 x2 x5 x6) (congrArg _ (w4 fun x0 x6 x5 x2 h=>sn (sq K (epalE C L h _ x0 x2 x5 x6) (congrArg _ (w5 fun x0 x7 x6 x5 x2 h=>sn (sq K (epalF C L h _ x0 x2 x5 x6 x7) (congrArg _ (w5 fun x0 x7 x6 x5 x2 h=>sn (sq K (epafQ C L h _ x0 x2 x5 x6 x7) (congrArg _ (w5 fun x0 x7 x6 x5 x2 h=>sn (sq K (epamS C L h _ x0 x2 x5 x6 x7) (congrArg _ (w4 fun x7 x6 x5 x2 h=>sn (epadY ..))) (by kernel_rfl)))) (by kernel_rfl)))) (by kernel_rfl)))) (by kernel_rfl)))) (by kernel_rfl)))) (by kernel_rfl)))) (by kernel_rfl)))) (by kernel_rfl)))) (by kernel_rfl)))) (by kernel_rfl)))) (by kernel_rfl) : _=p16a C L h x0 (R3 K 2 3 4))
noncomputable def F16 (C : CF) (L : Nat) (x0 : V) (h : H) : O (V × H) :=
 p16a C L h x0 (fun x2 x3 x4 h=>bnd (resC (A.load true 24 x2 h) (resC (some x3) (resC (some x4) (some [])))) fun vs => some (packA vs,h))
theorem F16eq (Q : Orc) (n : Nat) (x0 : V) (h : H) (q : Q 16 [x0]=none) : callO prog 2 Q (n + 1) 16 [x0] h=F16 (callO prog 2 Q n) n x0 h :=
 (tp q Tryd.func16 (ep16a (callO prog 2 Q n) n h _ x0) (by kernel_rfl)).trans (by kernel_rfl)
noncomputable def c17a : Code := (Tryd.f17.body).getD .skip
noncomputable abbrev E17 (C : CF) (L : Nat) {β : Type} (h : H) (K : KK β) (n : Nat) (o : List Nat) (v : List (Nat × List Nat)) (r : T Value) : O β := execK prog C L 2 44 [2] (g c17a n) o v r h K
noncomputable def papE (kn : K2 β) : O β :=
 bnd2 (A.box 24 x0 h) fun a b =>
 bnd2 (A.box 23 Z53 b) fun c d =>
 kn a c d
theorem epapE : E17 C L h K 2 [1,2] [] (r1 0 x0)=papE h x0 (N2 K 1 2) := by kernel_rfl
noncomputable def papF (kn : K1 β) : O β :=
 bnd (A.fieldAddr 0 x1) fun a =>
 bnd (A.load false 1 a h) fun b =>
 bnd (A.fieldAddr 2 x1) fun c =>
 bnd (A.load false 1 c h) fun d =>
 bnd (A.fieldAddr 7 x1) fun e =>
 bnd (A.load false 1 e h) fun f =>
 bnd (A.fieldAddr 21 x1) fun i =>
 bnd (A.load false 1 i h) fun j =>
 bnd (A.fieldAddr 1 x1) fun k =>
 bnd (A.load false 1 k h) fun l =>
 toBK l fun m =>
 bnd (A.fieldAddr 3 x1) fun n =>
 bnd (A.load false 1 n h) fun o =>
 toBK o fun p =>
 bnd (A.fieldAddr 8 x1) fun q =>
 bnd (A.load false 1 q h) fun r =>
 toBK r fun s =>
 bnd (A.fieldAddr 11 x1) fun t =>
 bnd (A.load false 1 t h) fun u =>
 toBK u fun v =>
 bnd (A.fieldAddr 16 x1) fun w =>
 bnd (A.load false 1 w h) fun y =>
 toBK y fun z =>
 bnd (A.fieldAddr 17 x1) fun a1 =>
 bnd (A.load false 1 a1 h) fun b1 =>
 toBK b1 fun c1 =>
 bnd (A.fieldAddr 20 x1) fun d1 =>
 bnd (A.load false 1 d1 h) fun e1 =>
 toBK e1 fun f1 =>
 bnd (A.fieldAddr 4 x1) fun i1 =>
 bnd (A.load false 1 i1 h) fun j1 =>
 bnd (A.fieldAddr 9 x1) fun k1 =>
 bnd (A.load false 1 k1 h) fun l1 =>
 bnd (A.fieldAddr 5 x1) fun m1 =>
 bnd (A.load false 1 m1 h) fun n1 =>
 bnd (A.fieldAddr 6 x1) fun o1 =>
 bnd (A.load false 1 o1 h) fun p1 =>
 bnd (A.fieldAddr 10 x1) fun q1 =>
 bnd (A.load false 1 q1 h) fun r1 =>
 bnd (A.fieldAddr 18 x1) fun s1 =>
 bnd (A.load false 1 s1 h) fun t1 =>
 bnd (A.fieldAddr 19 x1) fun u1 =>
 bnd (A.load false 1 u1 h) fun v1 =>
 bnd (A.fieldAddr 23 x1) fun w1 =>
 bnd (A.load false 1 w1 h) fun y1 =>
 bnd (A.fieldAddr 12 x1) fun z1 =>
 bnd (A.load true 4 z1 h) fun a2 =>
 bnd (A.build Z53L [(0,1,b),(1,1,d),(2,1,f),(3,1,j),(4,1,(.bool m)),(5,1,(.bool p)),(6,1,(.bool s)),(7,1,(.bool v)),(8,1,(.bool z)),(9,1,(.bool c1)),(10,1,(.bool f1)),(11,1,j1),(12,1,l1),(13,1,n1),(14,1,p1),(15,1,r1),(16,1,t1),(17,1,v1),(18,1,y1),(19,4,a2)]) fun b2 =>
 bnd (A.store 23 x2 b2 h) fun d2 =>
 kn x2 d2
theorem epapF : E17 C L h K 6 [2] [] (r2 1 2 x1 x2)=papF h x1 x2 (N1 K 2) := by kernel_rfl
noncomputable def papG (kr : K1 β) : O β :=
 kr x2 h
theorem epapG : E17 C L h K 7 [2] [] (r1 2 x2)=papG h x2 (R1 K 2) := by kernel_rfl
noncomputable def p17a (kr : K1 β) : O β :=
 papE h x0 (fun x1 x2 h=>papF h x1 x2 (fun x2 h=>papG h x2 kr))
def ep17a:=(sq K (epapE C L h _ x0) (congrArg _ (w2 fun x1 x2 h=>sn (sq K (epapF C L h _ x1 x2) (congrArg _ (w1 fun x2 h=>sn (epapG ..))) (by kernel_rfl)))) (by kernel_rfl) : _=p17a h x0 (R1 K 2))
noncomputable def F17 (C : CF) (L : Nat) (x0 : V) (h : H) : O (V × H) :=
 p17a h x0 (fun x2 h=>bnd (resC (A.load true 23 x2 h) (some [])) fun vs => some (packA vs,h))
theorem F17eq (Q : Orc) (n : Nat) (x0 : V) (h : H) (q : Q 17 [x0]=none) : callO prog 2 Q (n + 1) 17 [x0] h=F17 (callO prog 2 Q n) n x0 h :=
 (tp q Tryd.func17 (ep17a (callO prog 2 Q n) n h _ x0) (by kernel_rfl)).trans (by kernel_rfl)
noncomputable def c21a : Code := (Tryd.f21.body).getD .skip
noncomputable abbrev E21 (C : CF) (L : Nat) {β : Type} (h : H) (K : KK β) (n : Nat) (o : List Nat) (v : List (Nat × List Nat)) (r : T Value) : O β := execK prog C L 2 17 [2] (g c21a n) o v r h K
noncomputable def papH (kn : K1 β) : O β :=
 kn x0 h
theorem epapH : E21 C L h K 2 [0] [] (r1 0 x0)=papH h x0 (N1 K 0) := by kernel_rfl
noncomputable def papI (kr kn : K1 β) : O β :=
 bnd (A.bin prog .lss 3 x0 (.int .i64 0)) fun b =>
 toBK b fun c =>
 (bif c then
 kr (.int .i64 0) h
 else
 bnd (A.bin prog .gtr 3 x0 (.int .i64 268435455)) fun j =>
 toBK j fun k =>
 (bif k then
 kr (.int .i64 0) h
 else
 kn x0 h))
theorem epapI : E21 C L h K 6 [0] [] (r1 0 x0)=papI h x0 (R1 K 2) (N1 K 0) := by kernel_rfl
noncomputable def papJ (kn : K2 β) : O β :=
 kn x0 (.int .i64 1) h
theorem epapJ : E21 C L h K 14 [0,3] [] (r1 0 x0)=papJ h x0 (N2 K 0 3) := by kernel_rfl
noncomputable def pamT (kx0 : K1 β) (kn : K2 β) : O β :=
 bnd (A.bin prog .geq 3 x0 (.int .i64 128)) fun b =>
 toBK b fun c =>
 (bif c then
 bnd (A.bin prog .quo 3 x0 (.int .i64 128)) fun e =>
 bnd (A.bin prog .add 3 x3 (.int .i64 1)) fun j =>
 kn e j h
 else
 kx0 x3 h)
theorem epamT : E21 C L h K 120 [0,3] [(0,[3])] (r2 0 3 x0 x3)=pamT h x0 x3 (X1 K 0 3) (N2 K 0 3) := by kernel_rfl
noncomputable def pahD (C : CF) (L : Nat) {β : Type} (kx0 : K1 β) : Nat → K2 β
 | 0,_,_,_ => none
 | n + 1,x0,x3,h => pamT h x0 x3 kx0 (fun x0 x3 h=>pahD C L kx0 n x0 x3 h)
theorem epahD (C : CF) (L : Nat) {β : Type} (K : KK β) : ∀ (n : Nat) (x0 x3 : V) (h : H),loopK (fun fr h K=>execK prog C L 2 17 [2] (g c21a 120) [0,3] [(0,[3])] fr h K) n (r2 0 3 x0 x3) h K=pahD C L (X1 K 0 3) n x0 x3 h
 | 0,_,_,_ => rfl
 | n + 1,x0,x3,h => (cg (epamT C L h _ x0 x3) (by kernel_rfl)).trans (congrArg _ (w2 fun x0 x3 h=>sl (epahD C L K n x0 x3 h)))
noncomputable def pafR (kx0 : K1 β) : O β :=
 pahD C L kx0 L x0 x3 h
def epafR:=(lp [3] (r2 0 3 x0 x3) (epahD C L K L x0 x3 h) (by kernel_rfl) : _=pafR C L h x0 x3 (X1 K 0 3))
noncomputable def papK (kr : K1 β) : O β :=
 kr x3 h
theorem epapK : E21 C L h K 31 [2] [] (r1 3 x3)=papK h x3 (R1 K 2) := by kernel_rfl
noncomputable def p21a (kr : K1 β) : O β :=
 papH h x0 (fun x0 h=>papI h x0 kr (fun x0 h=>papJ h x0 (fun x0 x3 h=>pafR C L h x0 x3 (fun x3 h=>papK h x3 kr))))
def ep21a:=(sq K (epapH C L h _ x0) (congrArg _ (w1 fun x0 h=>sn (sq K (epapI C L h _ x0) (congrArg _ (w1 fun x0 h=>sn (sq K (epapJ C L h _ x0) (congrArg _ (w2 fun x0 x3 h=>sn (sq K (bk (epafR C L h _ x0 x3)) (congrArg _ (w1 fun x3 h=>sn (epapK ..))) (by kernel_rfl)))) (by kernel_rfl)))) (by kernel_rfl)))) (by kernel_rfl) : _=p21a C L h x0 (R1 K 2))
noncomputable def F21 (C : CF) (L : Nat) (x0 : V) (h : H) : O (V × H) :=
 p21a C L h x0 (fun x2 h=>some (x2,h))
theorem F21eq (Q : Orc) (n : Nat) (x0 : V) (h : H) (q : Q 21 [x0]=none) : callO prog 2 Q (n + 1) 21 [x0] h=F21 (callO prog 2 Q n) n x0 h :=
 (tp q Tryd.func21 (ep21a (callO prog 2 Q n) n h _ x0) (by kernel_rfl)).trans (by kernel_rfl)
noncomputable def c22a : Code := (Tryd.f22.body).getD .skip
noncomputable abbrev E22 (C : CF) (L : Nat) {β : Type} (h : H) (K : KK β) (n : Nat) (o : List Nat) (v : List (Nat × List Nat)) (r : T Value) : O β := execK prog C L 2 90 [2] (g c22a n) o v r h K
noncomputable def palH (kn : K1 β) : O β :=
 bnd2 (A.box 24 x0 h) fun a b =>
 kn a b
theorem epalH : E22 C L h K 2 [1] [] (r1 0 x0)=palH h x0 (N1 K 1) := by kernel_rfl
noncomputable def palI (kr kn : K1 β) : O β :=
 bnd (A.fieldAddr 7 x1) fun a =>
 bnd (A.load false 1 a h) fun b =>
 bnd (A.bin prog .neq 5 b (.int .u8 4)) fun c =>
 toBK c fun d =>
 (bif d then
 kr (.int .i64 (-1)) h
 else
 bnd (A.fieldAddr 10 x1) fun j =>
 bnd (A.load false 1 j h) fun k =>
 bnd2 (C 38 [k] h) fun l m =>
 toBK l fun n =>
 bnd (A.un prog .not (.bool n)) fun o =>
 toBK o fun p =>
 (bif p then
 kr (.int .i64 (-1)) m
 else
 kn x1 m))
theorem epalI : E22 C L h K 6 [1] [] (r1 1 x1)=palI C h x1 (R1 K 2) (N1 K 1) := by kernel_rfl
noncomputable def papL (kn : K2 β) : O β :=
 bnd (A.fieldAddr 10 x1) fun a =>
 bnd (A.load false 1 a h) fun b =>
 bnd (A.lenStr b) fun c =>
 bnd (A.bin prog .add 3 (.int .i64 12) c) fun d =>
 kn x1 d h
theorem epapL : E22 C L h K 14 [1,3] [] (r1 1 x1)=papL h x1 (N2 K 1 3) := by kernel_rfl
noncomputable def paiD (kn : K3 β) : O β :=
 bnd (A.fieldAddr 11 x1) fun a =>
 bnd (A.load false 1 a h) fun b =>
 toBK b fun c =>
 kn (.bool c) x1 x3 h
theorem epaiD : E22 C L h K 60 [18,1,3] [] (r2 1 3 x1 x3)=paiD h x1 x3 (N3 K 18 1 3) := by kernel_rfl
noncomputable def pajS (kn : K3 β) : O β :=
 bnd (A.fieldAddr 12 x1) fun a =>
 bnd (A.fieldAddr 0 a) fun b =>
 bnd (A.load false 1 b h) fun c =>
 bnd2 (C 39 [c] h) fun d e =>
 toBK d fun f =>
 bnd (A.un prog .not (.bool f)) fun i =>
 toBK i fun j =>
 (bif j then
 kn (.bool true) x3 x1 e
 else
 bnd (A.fieldAddr 12 x1) fun o =>
 bnd (A.fieldAddr 1 o) fun p =>
 bnd (A.load false 1 p e) fun q =>
 bnd (A.lenStr q) fun r =>
 bnd (A.bin prog .gtr 3 r (.int .i64 65535)) fun s =>
 toBK s fun t =>
 (bif t then
 kn (.bool true) x3 x1 e
 else
 bnd (A.fieldAddr 12 x1) fun y =>
 bnd (A.fieldAddr 2 y) fun z =>
 bnd (A.load false 1 z e) fun a1 =>
 bnd (A.bin prog .gtr 5 a1 (.int .u8 2)) fun b1 =>
 toBK b1 fun c1 =>
 kn (.bool c1) x3 x1 e))
theorem epajS : E22 C L h K 488 [36,3,1] [] (r3 18 1 3 x18 x1 x3)=pajS C h x1 x3 (N3 K 36 3 1) := by kernel_rfl
noncomputable def pajT (kr : K1 β) (kn : K2 β) : O β :=
 condV x36 (
 kr (.int .i64 (-1)) h) (
 kn x3 x1 h)
theorem epajT : E22 C L h K 489 [3,1] [] (r3 36 3 1 x36 x3 x1)=pajT h x1 x3 x36 (R1 K 2) (N2 K 3 1) := by kernel_rfl
noncomputable def pafH (kr : K1 β) (kn : K2 β) : O β :=
 pajS C h x1 x3 (fun x36 x3 x1 h=>pajT h x1 x3 x36 kr kn)
def epafH:=(sq K (epajS C L h _ x1 x3 x18) (congrArg _ (w3 fun x36 x3 x1 h=>sn (epajT ..))) (by kernel_rfl) : _=pafH C h x1 x3 (R1 K 2) (N2 K 3 1))
noncomputable def papM (kn : K2 β) : O β :=
 bnd (A.fieldAddr 12 x1) fun b =>
 bnd (A.fieldAddr 0 b) fun c =>
 bnd (A.load false 1 c h) fun d =>
 bnd (A.lenStr d) fun e =>
 bnd (A.bin prog .add 3 (.int .i64 4) e) fun f =>
 bnd (A.fieldAddr 12 x1) fun i =>
 bnd (A.fieldAddr 1 i) fun j =>
 bnd (A.load false 1 j h) fun k =>
 bnd (A.lenStr k) fun l =>
 bnd (A.bin prog .add 3 f l) fun m =>
 bnd (A.bin prog .add 3 x3 m) fun n =>
 kn x1 n h
theorem epapM : E22 C L h K 245 [1,3] [] (r2 3 1 x3 x1)=papM h x1 x3 (N2 K 1 3) := by kernel_rfl
noncomputable def paeE (kr : K1 β) (kn : K2 β) : O β :=
 pafH C h x1 x3 kr (fun x3 x1 h=>papM h x1 x3 kn)
def epaeE:=(sq K (epafH C L h _ x1 x3 x18) (congrArg _ (w2 fun x3 x1 h=>sn (epapM ..))) (by kernel_rfl) : _=paeE C h x1 x3 (R1 K 2) (N2 K 1 3))
noncomputable def pamU (kr : K1 β) (kn : K2 β) : O β :=
 bnd (A.fieldAddr 12 x1) fun a =>
 bnd (A.load true 4 a h) fun b =>
 bnd (A.build Z27L []) fun c =>
 bnd (A.bin prog .neq 27 b c) fun d =>
 toBK d fun e =>
 (bif e then
 kr (.int .i64 (-1)) h
 else
 kn x1 x3 h)
theorem epamU : E22 C L h K 123 [1,3] [] (r3 18 1 3 x18 x1 x3)=pamU h x1 x3 (R1 K 2) (N2 K 1 3) := by kernel_rfl
noncomputable def padC (kr : K1 β) (kn : K2 β) : O β :=
 condV x18 (paeE C h x1 x3 kr kn) (pamU h x1 x3 kr kn)
def epadC:=(cd K (.tmp 18) x18 (epaeE C L h K x1 x3 x18) (epamU C L h K x1 x3 x18) (by kernel_rfl) : _=padC C h x1 x3 x18 (R1 K 2) (N2 K 1 3))
noncomputable def pacE (kr : K1 β) (kn : K2 β) : O β :=
 paiD h x1 x3 (fun x18 x1 x3 h=>padC C h x1 x3 x18 kr kn)
def epacE:=(sq K (epaiD C L h _ x1 x3) (congrArg _ (w3 fun x18 x1 x3 h=>sn (epadC ..))) (by kernel_rfl) : _=pacE C h x1 x3 (R1 K 2) (N2 K 1 3))
noncomputable def pajU (kn : K3 β) : O β :=
 bnd (A.fieldAddr 16 x1) fun a =>
 bnd (A.load false 1 a h) fun b =>
 toBK b fun c =>
 kn (.bool c) x1 x3 h
theorem epajU : E22 C L h K 124 [54,1,3] [] (r2 1 3 x1 x3)=pajU h x1 x3 (N3 K 54 1 3) := by kernel_rfl
noncomputable def papN (kn : K2 β) : O β :=
 bnd (A.fieldAddr 18 x1) fun b =>
 bnd (A.load false 1 b h) fun c =>
 bnd (A.lenStr c) fun d =>
 bnd (A.bin prog .add 3 (.int .i64 2) d) fun e =>
 bnd (A.bin prog .add 3 x3 e) fun f =>
 kn x1 f h
theorem epapN : E22 C L h K 250 [1,3] [] (r3 54 1 3 x54 x1 x3)=papN h x1 x3 (N2 K 1 3) := by kernel_rfl
noncomputable def palJ (kr : K1 β) (kn : K2 β) : O β :=
 bnd (A.fieldAddr 18 x1) fun a =>
 bnd (A.load false 1 a h) fun b =>
 bnd (A.bin prog .neq 9 b (.string ⟨⟨[]⟩⟩)) fun c =>
 toBK c fun d =>
 (bif d then
 kr (.int .i64 (-1)) h
 else
 bnd (A.fieldAddr 17 x1) fun j =>
 bnd (A.load false 1 j h) fun k =>
 toBK k fun l =>
 (bif l then
 kr (.int .i64 (-1)) h
 else
 kn x1 x3 h))
theorem epalJ : E22 C L h K 251 [1,3] [] (r3 54 1 3 x54 x1 x3)=palJ h x1 x3 (R1 K 2) (N2 K 1 3) := by kernel_rfl
noncomputable def pagH (kr : K1 β) (kn : K2 β) : O β :=
 condV x54 (papN h x1 x3 kn) (palJ h x1 x3 kr kn)
def epagH:=(cd K (.tmp 54) x54 (epapN C L h K x1 x3 x54) (epalJ C L h K x1 x3 x54) (by kernel_rfl) : _=pagH h x1 x3 x54 (R1 K 2) (N2 K 1 3))
noncomputable def paeI (kr : K1 β) (kn : K2 β) : O β :=
 pajU h x1 x3 (fun x54 x1 x3 h=>pagH h x1 x3 x54 kr kn)
def epaeI:=(sq K (epajU C L h _ x1 x3) (congrArg _ (w3 fun x54 x1 x3 h=>sn (epagH ..))) (by kernel_rfl) : _=paeI h x1 x3 (R1 K 2) (N2 K 1 3))
noncomputable def palK (kr : K1 β) (kn : K2 β) : O β :=
 bnd (A.fieldAddr 17 x1) fun a =>
 bnd (A.load false 1 a h) fun b =>
 toBK b fun c =>
 (bif c then
 bnd (A.fieldAddr 19 x1) fun e =>
 bnd (A.load false 1 e h) fun f =>
 bnd (A.lenStr f) fun i =>
 bnd (A.bin prog .add 3 (.int .i64 2) i) fun j =>
 bnd (A.bin prog .add 3 x3 j) fun k =>
 kn x1 k h
 else
 bnd (A.fieldAddr 19 x1) fun m =>
 bnd (A.load false 1 m h) fun n =>
 bnd (A.bin prog .neq 9 n (.string ⟨⟨[]⟩⟩)) fun o =>
 toBK o fun p =>
 (bif p then
 kr (.int .i64 (-1)) h
 else
 kn x1 x3 h))
theorem epalK : E22 C L h K 126 [1,3] [] (r2 1 3 x1 x3)=palK h x1 x3 (R1 K 2) (N2 K 1 3) := by kernel_rfl
noncomputable def pajV (C : CF) (L : Nat) {β : Type} (x1 x3 : V) (h : H) (kr : K1 β) : O β :=
 bnd (A.fieldAddr 18 x1) fun a =>
 bnd (A.load false 1 a h) fun b =>
 bnd2 (C 38 [b] h) fun c d =>
 toBK c fun e =>
 bnd (A.un prog .not (.bool e)) fun f =>
 toBK f fun i =>
 (bif i then
 kr (.int .i64 (-1)) d
 else
 bnd (A.fieldAddr 19 x1) fun m =>
 bnd (A.load false 1 m d) fun n =>
 bnd (A.lenStr n) fun o =>
 bnd (A.bin prog .gtr 3 o (.int .i64 65535)) fun p =>
 toBK p fun q =>
 (bif q then
 kr (.int .i64 (-1)) d
 else
 kr x3 d))
theorem epajV : E22 C L h K 127 [2] [] (r2 1 3 x1 x3)=pajV C L x1 x3 h (R1 K 2) := by kernel_rfl
noncomputable def pafS (C : CF) (L : Nat) {β : Type} (x1 x3 : V) (h : H) (kr : K1 β) : O β :=
 palK h x1 x3 kr (fun x1 x3 h=>pajV C L x1 x3 h kr)
def epafS:=(sq K (epalK C L h _ x1 x3) (congrArg _ (w2 fun x1 x3 h=>sn (epajV ..))) (by kernel_rfl) : _=pafS C L x1 x3 h (R1 K 2))
noncomputable def pacJ (C : CF) (L : Nat) {β : Type} (x1 x3 : V) (h : H) (kr : K1 β) : O β :=
 paeI h x1 x3 kr (fun x1 x3 h=>pafS C L x1 x3 h kr)
def epacJ:=(sq K (epaeI C L h _ x1 x3) (congrArg _ (w2 fun x1 x3 h=>sn (epafS ..))) (by kernel_rfl) : _=pacJ C L x1 x3 h (R1 K 2))
noncomputable def paaS (C : CF) (L : Nat) {β : Type} (x1 x3 : V) (h : H) (kr : K1 β) : O β :=
 pacE C h x1 x3 kr (fun x1 x3 h=>pacJ C L x1 x3 h kr)
def epaaS:=(sq K (epacE C L h _ x1 x3) (congrArg _ (w2 fun x1 x3 h=>sn (epacJ ..))) (by kernel_rfl) : _=paaS C L x1 x3 h (R1 K 2))
noncomputable def p22a (kr : K1 β) : O β :=
 palH h x0 (fun x1 h=>palI C h x1 kr (fun x1 h=>papL h x1 (fun x1 x3 h=>paaS C L x1 x3 h kr)))
def ep22a:=(sq K (epalH C L h _ x0) (congrArg _ (w1 fun x1 h=>sn (sq K (epalI C L h _ x1) (congrArg _ (w1 fun x1 h=>sn (sq K (epapL C L h _ x1) (congrArg _ (w2 fun x1 x3 h=>sn (epaaS ..))) (by kernel_rfl)))) (by kernel_rfl)))) (by kernel_rfl) : _=p22a C L h x0 (R1 K 2))
noncomputable def F22 (C : CF) (L : Nat) (x0 : V) (h : H) : O (V × H) :=
 p22a C L h x0 (fun x2 h=>some (x2,h))
theorem F22eq (Q : Orc) (n : Nat) (x0 : V) (h : H) (q : Q 22 [x0]=none) : callO prog 2 Q (n + 1) 22 [x0] h=F22 (callO prog 2 Q n) n x0 h :=
 (tp q Tryd.func22 (ep22a (callO prog 2 Q n) n h _ x0) (by kernel_rfl)).trans (by kernel_rfl)
noncomputable def c23a : Code := (Tryd.f23.body).getD .skip
noncomputable abbrev E23 (C : CF) (L : Nat) {β : Type} (h : H) (K : KK β) (n : Nat) (o : List Nat) (v : List (Nat × List Nat)) (r : T Value) : O β := execK prog C L 2 46 [2] (g c23a n) o v r h K
noncomputable def palL (kn : K1 β) : O β :=
 bnd2 (A.box 24 x0 h) fun a b =>
 kn a b
theorem epalL : E23 C L h K 2 [1] [] (r1 0 x0)=palL h x0 (N1 K 1) := by kernel_rfl
noncomputable def palM (kr kn : K1 β) : O β :=
 bnd (A.fieldAddr 5 x1) fun a =>
 bnd (A.load false 1 a h) fun b =>
 bnd2 (C 39 [b] h) fun c d =>
 toBK c fun e =>
 bnd (A.un prog .not (.bool e)) fun f =>
 toBK f fun i =>
 (bif i then
 kr (.int .i64 (-1)) d
 else
 bnd (A.fieldAddr 2 x1) fun m =>
 bnd (A.load false 1 m d) fun n =>
 bnd (A.bin prog .gtr 5 n (.int .u8 2)) fun o =>
 toBK o fun p =>
 (bif p then
 kr (.int .i64 (-1)) d
 else
 kn x1 d))
theorem epalM : E23 C L h K 6 [1] [] (r1 1 x1)=palM C h x1 (R1 K 2) (N1 K 1) := by kernel_rfl
noncomputable def papO (kn : K2 β) : O β :=
 bnd (A.fieldAddr 5 x1) fun a =>
 bnd (A.load false 1 a h) fun b =>
 bnd (A.lenStr b) fun c =>
 bnd (A.bin prog .add 3 (.int .i64 2) c) fun d =>
 bnd (A.fieldAddr 6 x1) fun e =>
 bnd (A.load false 1 e h) fun f =>
 bnd (A.lenStr f) fun i =>
 bnd (A.bin prog .add 3 d i) fun j =>
 kn x1 j h
theorem epapO : E23 C L h K 14 [1,3] [] (r1 1 x1)=papO h x1 (N2 K 1 3) := by kernel_rfl
noncomputable def paiW (kn : K3 β) : O β :=
 bnd (A.fieldAddr 2 x1) fun a =>
 bnd (A.load false 1 a h) fun b =>
 bnd (A.bin prog .gtr 5 b (.int .u8 0)) fun c =>
 toBK c fun d =>
 (bif d then
 bnd (A.fieldAddr 4 x1) fun f =>
 bnd (A.load false 1 f h) fun i =>
 bnd (A.bin prog .gtr 25 i (.int .u16 0)) fun j =>
 toBK j fun k =>
 kn (.bool k) x1 x3 h
 else
 kn (.bool false) x1 x3 h)
theorem epaiW : E23 C L h K 120 [21,1,3] [(0,[3])] (r2 1 3 x1 x3)=paiW h x1 x3 (N3 K 21 1 3) := by kernel_rfl
noncomputable def papP (kr : K1 β) : O β :=
 bnd (A.bin prog .add 3 x3 (.int .i64 2)) fun b =>
 kr b h
theorem epapP : E23 C L h K 242 [3] [(0,[3])] (r3 21 1 3 x21 x1 x3)=papP h x3 (R1 K 2) := by kernel_rfl
noncomputable def pajW (kn : K2 β) : O β :=
 bnd (A.fieldAddr 2 x1) fun a =>
 bnd (A.load false 1 a h) fun b =>
 bnd (A.bin prog .gtr 5 b (.int .u8 0)) fun c =>
 toBK c fun d =>
 (bif d then
 kn (.bool true) x3 h
 else
 bnd (A.fieldAddr 4 x1) fun l =>
 bnd (A.load false 1 l h) fun m =>
 bnd (A.bin prog .gtr 25 m (.int .u16 0)) fun n =>
 toBK n fun o =>
 (bif o then
 kn (.bool true) x3 h
 else
 bnd (A.fieldAddr 1 x1) fun t =>
 bnd (A.load false 1 t h) fun u =>
 toBK u fun v =>
 kn (.bool v) x3 h))
theorem epajW : E23 C L h K 486 [32,3] [(0,[3])] (r3 21 1 3 x21 x1 x3)=pajW h x1 x3 (N2 K 32 3) := by kernel_rfl
noncomputable def pajX (kr kn : K1 β) : O β :=
 condV x32 (
 kr (.int .i64 (-1)) h) (
 kn x3 h)
theorem epajX : E23 C L h K 487 [3] [(0,[3])] (r2 32 3 x32 x3)=pajX h x3 x32 (R1 K 2) (N1 K 3) := by kernel_rfl
noncomputable def pafI (kr kn : K1 β) : O β :=
 pajW h x1 x3 (fun x32 x3 h=>pajX h x3 x32 kr kn)
def epafI:=(sq K (epajW C L h _ x1 x3 x21) (congrArg _ (w2 fun x32 x3 h=>sn (epajX ..))) (by kernel_rfl) : _=pafI h x1 x3 (R1 K 2) (N1 K 3))
noncomputable def paeC (kr kn : K1 β) : O β :=
 condV x21 (papP h x3 kr) (pafI h x1 x3 kr kn)
def epaeC:=(cd K (.tmp 21) x21 (epapP C L h K x1 x3 x21) (epafI C L h K x1 x3 x21) (by kernel_rfl) : _=paeC h x1 x3 x21 (R1 K 2) (N1 K 3))
noncomputable def pacW (kr kn : K1 β) : O β :=
 paiW h x1 x3 (fun x21 x1 x3 h=>paeC h x1 x3 x21 kr kn)
def epacW:=(sq K (epaiW C L h _ x1 x3) (congrArg _ (w3 fun x21 x1 x3 h=>sn (epaeC ..))) (by kernel_rfl) : _=pacW h x1 x3 (R1 K 2) (N1 K 3))
noncomputable def papQ (kr : K1 β) : O β :=
 kr x3 h
theorem epapQ : E23 C L h K 31 [2] [] (r1 3 x3)=papQ h x3 (R1 K 2) := by kernel_rfl
noncomputable def pacH (C : CF) (L : Nat) {β : Type} (x1 x3 : V) (h : H) (kr : K1 β) : O β :=
 pacW h x1 x3 kr (fun x3 h=>papQ h x3 kr)
def epacH:=(sq K (bk (epacW C L h _ x1 x3)) (congrArg _ (w1 fun x3 h=>sn (epapQ ..))) (by kernel_rfl) : _=pacH C L x1 x3 h (R1 K 2))
noncomputable def pabP (C : CF) (L : Nat) {β : Type} (x1 : V) (h : H) (kr : K1 β) : O β :=
 palM C h x1 kr (fun x1 h=>papO h x1 (fun x1 x3 h=>pacH C L x1 x3 h kr))
def epabP:=(sq K (epalM C L h _ x1) (congrArg _ (w1 fun x1 h=>sn (sq K (epapO C L h _ x1) (congrArg _ (w2 fun x1 x3 h=>sn (epacH ..))) (by kernel_rfl)))) (by kernel_rfl) : _=pabP C L x1 h (R1 K 2))
noncomputable def p23a (kr : K1 β) : O β :=
 palL h x0 (fun x1 h=>pabP C L x1 h kr)
def ep23a:=(sq K (epalL C L h _ x0) (congrArg _ (w1 fun x1 h=>sn (epabP ..))) (by kernel_rfl) : _=p23a C L h x0 (R1 K 2))
noncomputable def F23 (C : CF) (L : Nat) (x0 : V) (h : H) : O (V × H) :=
 p23a C L h x0 (fun x2 h=>some (x2,h))
theorem F23eq (Q : Orc) (n : Nat) (x0 : V) (h : H) (q : Q 23 [x0]=none) : callO prog 2 Q (n + 1) 23 [x0] h=F23 (callO prog 2 Q n) n x0 h :=
 (tp q Tryd.func23 (ep23a (callO prog 2 Q n) n h _ x0) (by kernel_rfl)).trans (by kernel_rfl)
noncomputable def c24a : Code := (Tryd.f24.body).getD .skip
noncomputable abbrev E24 (C : CF) (L : Nat) {β : Type} (h : H) (K : KK β) (n : Nat) (o : List Nat) (v : List (Nat × List Nat)) (r : T Value) : O β := execK prog C L 2 6 [2] (g c24a n) o v r h K
noncomputable def p24a (kr : K1 β) : O β :=
 bnd2 (A.box 24 x0 h) fun a b =>
 bnd (A.fieldAddr 4 a) fun d =>
 bnd (A.load false 1 d b) fun e =>
 bnd (A.bin prog .eql 25 e (.int .u16 0)) fun f =>
 toBK f fun i =>
 (bif i then
 kr (.int .i64 (-1)) b
 else
 kr (.int .i64 2) b)
theorem ep24a : E24 C L h K 1 [2] [] (r1 0 x0)=p24a h x0 (R1 K 2) := by kernel_rfl
noncomputable def F24 (C : CF) (L : Nat) (x0 : V) (h : H) : O (V × H) :=
 p24a h x0 (fun x2 h=>some (x2,h))
theorem F24eq (Q : Orc) (n : Nat) (x0 : V) (h : H) (q : Q 24 [x0]=none) : callO prog 2 Q (n + 1) 24 [x0] h=F24 (callO prog 2 Q n) n x0 h :=
 (tp q Tryd.func24 (ep24a (callO prog 2 Q n) n h _ x0) (by kernel_rfl)).trans (by kernel_rfl)
noncomputable def c25a : Code := (Tryd.f25.body).getD .skip
noncomputable abbrev E25 (C : CF) (L : Nat) {β : Type} (h : H) (K : KK β) (n : Nat) (o : List Nat) (v : List (Nat × List Nat)) (r : T Value) : O β := execK prog C L 2 48 [2] (g c25a n) o v r h K
noncomputable def palN (kn : K1 β) : O β :=
 bnd2 (A.box 24 x0 h) fun a b =>
 kn a b
theorem epalN : E25 C L h K 2 [1] [] (r1 0 x0)=palN h x0 (N1 K 1) := by kernel_rfl
noncomputable def palO (kn : K4 β) : O β :=
 bnd (A.load true 24 x1 h) fun a =>
 bnd2 (C 24 [a] h) fun b c =>
 kn x1 (.int .i64 1) (.int .u8 2) b c
theorem epalO : E25 C L h K 6 [1,5,4,3] [] (r1 1 x1)=palO C h x1 (N4 K 1 5 4 3) := by kernel_rfl
noncomputable def palP (C : CF) (L : Nat) {β : Type} (x1 x5 x4 x3 : V) (h : H) (kn : K4 β) : O β :=
 bnd (A.fieldAddr 0 x1) fun a =>
 bnd (A.load false 1 a h) fun b =>
 bnd (A.bin prog .eql 5 b (.int .u8 10)) fun c =>
 toBK c fun d =>
 (bif d then
 kn x1 (.int .i64 0) (.int .u8 0) x3 h
 else
 kn x1 x5 x4 x3 h)
theorem epalP : E25 C L h K 14 [1,5,4,3] [] (r4 1 5 4 3 x1 x5 x4 x3)=palP C L x1 x5 x4 x3 h (N4 K 1 5 4 3) := by kernel_rfl
noncomputable def palQ (kr : K1 β) (kn : K4 β) : O β :=
 bnd (A.bin prog .lss 3 x3 (.int .i64 0)) fun b =>
 toBK b fun c =>
 (bif c then
 kr (.int .i64 (-1)) h
 else
 bnd (A.fieldAddr 22 x1) fun i =>
 bnd (A.load false 1 i h) fun j =>
 bnd (A.lenS j) fun k =>
 bnd (A.bin prog .eql 3 k (.int .i64 0)) fun l =>
 toBK l fun m =>
 (bif m then
 kr (.int .i64 (-1)) h
 else
 kn x1 x5 x4 x3 h))
theorem epalQ : E25 C L h K 30 [1,5,4,3] [] (r4 1 5 4 3 x1 x5 x4 x3)=palQ h x1 x3 x4 x5 (R1 K 2) (N4 K 1 5 4 3) := by kernel_rfl
noncomputable def papR (kn : K6 β) : O β :=
 bnd (A.fieldAddr 22 x1) fun a =>
 bnd (A.load false 1 a h) fun b =>
 bnd (A.lenS b) fun c =>
 kn c (.int .i64 0) x5 x4 b x3 h
theorem epapR : E25 C L h K 124 [23,24,5,4,22,3] [] (r4 1 5 4 3 x1 x5 x4 x3)=papR h x1 x3 x4 x5 (N6 K 23 24 5 4 22 3) := by kernel_rfl
noncomputable def pajY (kn : K7 β) : O β :=
 bnd (A.bin prog .lss 3 x24 x23) fun a =>
 kn a x22 x4 x5 x23 x24 x3 h
theorem epajY : E25 C L h K 1000 [25,22,4,5,23,24,3] [(0,[3])] (r6 23 24 5 4 22 3 x23 x24 x5 x4 x22 x3)=pajY h x3 x4 x5 x22 x23 x24 (N7 K 25 22 4 5 23 24 3) := by kernel_rfl
noncomputable def pajZ (kx0 : K1 β) (kn : K6 β) : O β :=
 condV x25 (
 kn x3 x24 x23 x5 x4 x22 h) (
 kx0 x3 h)
theorem epajZ : E25 C L h K 2002 [3,24,23,5,4,22] [(0,[3])] (r7 25 22 4 5 23 24 3 x25 x22 x4 x5 x23 x24 x3)=pajZ h x3 x4 x5 x22 x23 x24 x25 (X1 K 0 3) (N6 K 3 24 23 5 4 22) := by kernel_rfl
noncomputable def palR (kr : K1 β) (kn : K6 β) : O β :=
 bnd (A.idxS 2 x22 x24) fun a =>
 bnd (A.load true 2 a h) fun b =>
 bnd2 (A.box 2 Z43 h) fun c d =>
 bnd (A.store 2 c b d) fun f =>
 bnd (A.fieldAddr 0 c) fun i =>
 bnd (A.load false 1 i f) fun j =>
 bnd2 (C 40 [j] f) fun k l =>
 toBK k fun m =>
 bnd (A.un prog .not (.bool m)) fun n =>
 toBK n fun o =>
 (bif o then
 kr (.int .i64 (-1)) l
 else
 bnd (A.fieldAddr 1 c) fun s =>
 bnd (A.load false 1 s l) fun t =>
 bnd (A.bin prog .gtr 5 t x4) fun v =>
 toBK v fun w =>
 (bif w then
 kr (.int .i64 (-1)) l
 else
 bnd (A.fieldAddr 0 c) fun b1 =>
 bnd (A.load false 1 b1 l) fun c1 =>
 bnd (A.lenStr c1) fun d1 =>
 bnd (A.bin prog .add 3 (.int .i64 2) d1) fun e1 =>
 bnd (A.bin prog .add 3 e1 x5) fun i1 =>
 bnd (A.bin prog .add 3 x3 i1) fun j1 =>
 kn x24 x23 x5 x4 x22 j1 l))
theorem epalR : E25 C L h K 8012 [24,23,5,4,22,3] [(1,[24,23,5,4,22,3]),(0,[3])] (r6 3 24 23 5 4 22 x3 x24 x23 x5 x4 x22)=palR C h x3 x4 x5 x22 x23 x24 (R1 K 2) (N6 K 24 23 5 4 22 3) := by kernel_rfl
noncomputable def papS (kn : K6 β) : O β :=
 bnd (A.bin prog .add 3 x24 (.int .i64 1)) fun a =>
 kn x23 a x5 x4 x22 x3 h
theorem epapS : E25 C L h K 4007 [23,24,5,4,22,3] [(0,[3])] (r6 24 23 5 4 22 3 x24 x23 x5 x4 x22 x3)=papS h x3 x4 x5 x22 x23 x24 (N6 K 23 24 5 4 22 3) := by kernel_rfl
noncomputable def paeJ (kr kx0 : K1 β) (kn : K6 β) : O β :=
 pajY h x3 x4 x5 x22 x23 x24 (fun x25 x22 x4 x5 x23 x24 x3 h=>pajZ h x3 x4 x5 x22 x23 x24 x25 kx0 (fun x3 x24 x23 x5 x4 x22 h=>palR C h x3 x4 x5 x22 x23 x24 kr (fun x24 x23 x5 x4 x22 x3 h=>papS h x3 x4 x5 x22 x23 x24 kn)))
def epaeJ:=(sq K (epajY C L h _ x3 x4 x5 x22 x23 x24) (congrArg _ (w7 fun x25 x22 x4 x5 x23 x24 x3 h=>sn (sq K (epajZ C L h _ x3 x4 x5 x22 x23 x24 x25) (congrArg _ (w6 fun x3 x24 x23 x5 x4 x22 h=>sn (sq K (bk (epalR C L h _ x3 x4 x5 x22 x23 x24)) (congrArg _ (w6 fun x24 x23 x5 x4 x22 x3 h=>sn (epapS ..))) (by kernel_rfl)))) (by kernel_rfl)))) (by kernel_rfl) : _=paeJ C h x3 x4 x5 x22 x23 x24 (R1 K 2) (X1 K 0 3) (N6 K 23 24 5 4 22 3))
noncomputable def pahP (C : CF) (L : Nat) {β : Type} (kr kx0 : K1 β) : Nat → K6 β
 | 0,_,_,_,_,_,_,_ => none
 | n + 1,x23,x24,x5,x4,x22,x3,h => paeJ C h x3 x4 x5 x22 x23 x24 kr kx0 (fun x23 x24 x5 x4 x22 x3 h=>pahP C L kr kx0 n x23 x24 x5 x4 x22 x3 h)
theorem epahP (C : CF) (L : Nat) {β : Type} (K : KK β) : ∀ (n : Nat) (x23 x24 x5 x4 x22 x3 : V) (h : H),loopK (fun fr h K=>execK prog C L 2 48 [2] (g c25a 500) [23,24,5,4,22,3] [(0,[3])] fr h K) n (r6 23 24 5 4 22 3 x23 x24 x5 x4 x22 x3) h K=pahP C L (R1 K 2) (X1 K 0 3) n x23 x24 x5 x4 x22 x3 h
 | 0,_,_,_,_,_,_,_ => rfl
 | n + 1,x23,x24,x5,x4,x22,x3,h => (cg (epaeJ C L h _ x3 x4 x5 x22 x23 x24) (by kernel_rfl)).trans (congrArg _ (w6 fun x23 x24 x5 x4 x22 x3 h=>sl (epahP C L K n x23 x24 x5 x4 x22 x3 h)))
noncomputable def padE (kr kx0 : K1 β) : O β :=
 pahP C L kr kx0 L x23 x24 x5 x4 x22 x3 h
def epadE:=(lp [3] (r6 23 24 5 4 22 3 x23 x24 x5 x4 x22 x3) (epahP C L K L x23 x24 x5 x4 x22 x3 h) (by kernel_rfl) : _=padE C L h x3 x4 x5 x22 x23 x24 (R1 K 2) (X1 K 0 3))
noncomputable def pacP (kr kn : K1 β) : O β :=
 papR h x1 x3 x4 x5 (fun x23 x24 x5 x4 x22 x3 h=>padE C L h x3 x4 x5 x22 x23 x24 kr kn)
def epacP:=(sq K (epapR C L h _ x1 x3 x4 x5) (congrArg _ (w6 fun x23 x24 x5 x4 x22 x3 h=>sn (bk (epadE ..)))) (by kernel_rfl) : _=pacP C L h x1 x3 x4 x5 (R1 K 2) (N1 K 3))
noncomputable def papT (kr : K1 β) : O β :=
 kr x3 h
theorem epapT : E25 C L h K 63 [2] [] (r1 3 x3)=papT h x3 (R1 K 2) := by kernel_rfl
noncomputable def p25a (kr : K1 β) : O β :=
 palN h x0 (fun x1 h=>palO C h x1 (fun x1 x5 x4 x3 h=>palP C L x1 x5 x4 x3 h (fun x1 x5 x4 x3 h=>palQ h x1 x3 x4 x5 kr (fun x1 x5 x4 x3 h=>pacP C L h x1 x3 x4 x5 kr (fun x3 h=>papT h x3 kr)))))
def ep25a:=(sq K (epalN C L h _ x0) (congrArg _ (w1 fun x1 h=>sn (sq K (epalO C L h _ x1) (congrArg _ (w4 fun x1 x5 x4 x3 h=>sn (sq K (epalP C L h _ x1 x3 x4 x5) (congrArg _ (w4 fun x1 x5 x4 x3 h=>sn (sq K (epalQ C L h _ x1 x3 x4 x5) (congrArg _ (w4 fun x1 x5 x4 x3 h=>sn (sq K (epacP C L h _ x1 x3 x4 x5) (congrArg _ (w1 fun x3 h=>sn (epapT ..))) (by kernel_rfl)))) (by kernel_rfl)))) (by kernel_rfl)))) (by kernel_rfl)))) (by kernel_rfl) : _=p25a C L h x0 (R1 K 2))
noncomputable def F25 (C : CF) (L : Nat) (x0 : V) (h : H) : O (V × H) :=
 p25a C L h x0 (fun x2 h=>some (x2,h))
theorem F25eq (Q : Orc) (n : Nat) (x0 : V) (h : H) (q : Q 25 [x0]=none) : callO prog 2 Q (n + 1) 25 [x0] h=F25 (callO prog 2 Q n) n x0 h :=
 (tp q Tryd.func25 (ep25a (callO prog 2 Q n) n h _ x0) (by kernel_rfl)).trans (by kernel_rfl)
noncomputable def c26a : Code := (Tryd.f26.body).getD .skip
noncomputable abbrev E26 (C : CF) (L : Nat) {β : Type} (h : H) (K : KK β) (n : Nat) (o : List Nat) (v : List (Nat × List Nat)) (r : T Value) : O β := execK prog C L 2 37 [2] (g c26a n) o v r h K
noncomputable def palS (kn : K1 β) : O β :=
 bnd2 (A.box 24 x0 h) fun a b =>
 kn a b
theorem epalS : E26 C L h K 2 [1] [] (r1 0 x0)=palS h x0 (N1 K 1) := by kernel_rfl
noncomputable def palT (kn : K2 β) : O β :=
 bnd (A.load true 24 x1 h) fun a =>
 bnd2 (C 24 [a] h) fun b c =>
 kn b x1 c
theorem epalT : E26 C L h K 6 [3,1] [] (r1 1 x1)=palT C h x1 (N2 K 3 1) := by kernel_rfl
noncomputable def palU (kr : K1 β) (kn : K2 β) : O β :=
 bnd (A.bin prog .lss 3 x3 (.int .i64 0)) fun b =>
 toBK b fun c =>
 (bif c then
 kr (.int .i64 (-1)) h
 else
 bnd (A.fieldAddr 23 x1) fun i =>
 bnd (A.load false 1 i h) fun j =>
 bnd (A.bin prog .eql 9 j (.string ⟨⟨[]⟩⟩)) fun k =>
 toBK k fun l =>
 (bif l then
 kr (.int .i64 (-1)) h
 else
 kn x3 x1 h))
theorem epalU : E26 C L h K 14 [3,1] [] (r2 3 1 x3 x1)=palU h x1 x3 (R1 K 2) (N2 K 3 1) := by kernel_rfl
noncomputable def papU (kn : K4 β) : O β :=
 bnd (A.fieldAddr 23 x1) fun a =>
 bnd (A.load false 1 a h) fun b =>
 bnd (A.lenStr b) fun c =>
 kn c (.int .i64 0) x3 x1 h
theorem epapU : E26 C L h K 60 [17,18,3,1] [] (r2 3 1 x3 x1)=papU h x1 x3 (N4 K 17 18 3 1) := by kernel_rfl
noncomputable def pakA (kn : K5 β) : O β :=
 bnd (A.bin prog .lss 3 x18 x17) fun a =>
 toBK a fun b =>
 kn (.bool b) x17 x18 x3 x1 h
theorem epakA : E26 C L h K 488 [19,17,18,3,1] [(0,[3,1])] (r4 17 18 3 1 x17 x18 x3 x1)=pakA h x1 x3 x17 x18 (N5 K 19 17 18 3 1) := by kernel_rfl
noncomputable def pakB (kx0 : K2 β) (kn : K4 β) : O β :=
 condV x19 (
 kn x18 x17 x3 x1 h) (
 kx0 x3 x1 h)
theorem epakB : E26 C L h K 978 [18,17,3,1] [(0,[3,1])] (r5 19 17 18 3 1 x19 x17 x18 x3 x1)=pakB h x1 x3 x17 x18 x19 (X2 K 0 3 1) (N4 K 18 17 3 1) := by kernel_rfl
noncomputable def palV (kr : K1 β) (kn : K4 β) : O β :=
 bnd (A.fieldAddr 23 x1) fun c =>
 bnd (A.load false 1 c h) fun d =>
 bnd (A.indexStr d x18) fun f =>
 bnd (A.bin prog .gtr 5 f (.int .u8 2)) fun k =>
 toBK k fun l =>
 (bif l then
 bnd (A.bin prog .neq 5 f (.int .u8 128)) fun o =>
 toBK o fun p =>
 (bif p then
 kr (.int .i64 (-1)) h
 else
 kn x18 x17 x3 x1 h)
 else
 kn x18 x17 x3 x1 h)
theorem epalV : E26 C L h K 3916 [18,17,3,1] [(1,[18,17,3,1]),(0,[3,1])] (r4 18 17 3 1 x18 x17 x3 x1)=palV h x1 x3 x17 x18 (R1 K 2) (N4 K 18 17 3 1) := by kernel_rfl
noncomputable def pamV (kn : K4 β) : O β :=
 bnd (A.bin prog .add 3 x18 (.int .i64 1)) fun a =>
 kn x17 a x3 x1 h
theorem epamV : E26 C L h K 1959 [17,18,3,1] [(0,[3,1])] (r4 18 17 3 1 x18 x17 x3 x1)=pamV h x1 x3 x17 x18 (N4 K 17 18 3 1) := by kernel_rfl
noncomputable def paeF (kr : K1 β) (kx0 : K2 β) (kn : K4 β) : O β :=
 pakA h x1 x3 x17 x18 (fun x19 x17 x18 x3 x1 h=>pakB h x1 x3 x17 x18 x19 kx0 (fun x18 x17 x3 x1 h=>palV h x1 x3 x17 x18 kr (fun x18 x17 x3 x1 h=>pamV h x1 x3 x17 x18 kn)))
def epaeF:=(sq K (epakA C L h _ x1 x3 x17 x18) (congrArg _ (w5 fun x19 x17 x18 x3 x1 h=>sn (sq K (epakB C L h _ x1 x3 x17 x18 x19) (congrArg _ (w4 fun x18 x17 x3 x1 h=>sn (sq K (bk (epalV C L h _ x1 x3 x17 x18)) (congrArg _ (w4 fun x18 x17 x3 x1 h=>sn (epamV ..))) (by kernel_rfl)))) (by kernel_rfl)))) (by kernel_rfl) : _=paeF h x1 x3 x17 x18 (R1 K 2) (X2 K 0 3 1) (N4 K 17 18 3 1))
noncomputable def pahQ (C : CF) (L : Nat) {β : Type} (kr : K1 β) (kx0 : K2 β) : Nat → K4 β
 | 0,_,_,_,_,_ => none
 | n + 1,x17,x18,x3,x1,h => paeF h x1 x3 x17 x18 kr kx0 (fun x17 x18 x3 x1 h=>pahQ C L kr kx0 n x17 x18 x3 x1 h)
theorem epahQ (C : CF) (L : Nat) {β : Type} (K : KK β) : ∀ (n : Nat) (x17 x18 x3 x1 : V) (h : H),loopK (fun fr h K=>execK prog C L 2 37 [2] (g c26a 244) [17,18,3,1] [(0,[3,1])] fr h K) n (r4 17 18 3 1 x17 x18 x3 x1) h K=pahQ C L (R1 K 2) (X2 K 0 3 1) n x17 x18 x3 x1 h
 | 0,_,_,_,_,_ => rfl
 | n + 1,x17,x18,x3,x1,h => (cg (epaeF C L h _ x1 x3 x17 x18) (by kernel_rfl)).trans (congrArg _ (w4 fun x17 x18 x3 x1 h=>sl (epahQ C L K n x17 x18 x3 x1 h)))
noncomputable def padD (kr : K1 β) (kx0 : K2 β) : O β :=
 pahQ C L kr kx0 L x17 x18 x3 x1 h
def epadD:=(lp [3,1] (r4 17 18 3 1 x17 x18 x3 x1) (epahQ C L K L x17 x18 x3 x1 h) (by kernel_rfl) : _=padD C L h x1 x3 x17 x18 (R1 K 2) (X2 K 0 3 1))
noncomputable def pacO (kr : K1 β) (kn : K2 β) : O β :=
 papU h x1 x3 (fun x17 x18 x3 x1 h=>padD C L h x1 x3 x17 x18 kr kn)
def epacO:=(sq K (epapU C L h _ x1 x3) (congrArg _ (w4 fun x17 x18 x3 x1 h=>sn (bk (epadD ..)))) (by kernel_rfl) : _=pacO C L h x1 x3 (R1 K 2) (N2 K 3 1))
noncomputable def pamW (C : CF) (L : Nat) {β : Type} (x3 x1 : V) (h : H) (kr : K1 β) : O β :=
 bnd (A.fieldAddr 23 x1) fun b =>
 bnd (A.load false 1 b h) fun c =>
 bnd (A.lenStr c) fun d =>
 bnd (A.bin prog .add 3 x3 d) fun e =>
 kr e h
theorem epamW : E26 C L h K 31 [2] [] (r2 3 1 x3 x1)=pamW C L x3 x1 h (R1 K 2) := by kernel_rfl
noncomputable def p26a (kr : K1 β) : O β :=
 palS h x0 (fun x1 h=>palT C h x1 (fun x3 x1 h=>palU h x1 x3 kr (fun x3 x1 h=>pacO C L h x1 x3 kr (fun x3 x1 h=>pamW C L x3 x1 h kr))))
def ep26a:=(sq K (epalS C L h _ x0) (congrArg _ (w1 fun x1 h=>sn (sq K (epalT C L h _ x1) (congrArg _ (w2 fun x3 x1 h=>sn (sq K (epalU C L h _ x1 x3) (congrArg _ (w2 fun x3 x1 h=>sn (sq K (epacO C L h _ x1 x3) (congrArg _ (w2 fun x3 x1 h=>sn (epamW ..))) (by kernel_rfl)))) (by kernel_rfl)))) (by kernel_rfl)))) (by kernel_rfl) : _=p26a C L h x0 (R1 K 2))
noncomputable def F26 (C : CF) (L : Nat) (x0 : V) (h : H) : O (V × H) :=
 p26a C L h x0 (fun x2 h=>some (x2,h))
theorem F26eq (Q : Orc) (n : Nat) (x0 : V) (h : H) (q : Q 26 [x0]=none) : callO prog 2 Q (n + 1) 26 [x0] h=F26 (callO prog 2 Q n) n x0 h :=
 (tp q Tryd.func26 (ep26a (callO prog 2 Q n) n h _ x0) (by kernel_rfl)).trans (by kernel_rfl)
noncomputable def c27a : Code := (Tryd.f27.body).getD .skip
noncomputable abbrev E27 (C : CF) (L : Nat) {β : Type} (h : H) (K : KK β) (n : Nat) (o : List Nat) (v : List (Nat × List Nat)) (r : T Value) : O β := execK prog C L 2 87 [2] (g c27a n) o v r h K
noncomputable def pamX (kn : K1 β) : O β :=
 bnd2 (A.box 24 x0 h) fun a b =>
 kn a b
theorem epamX : E27 C L h K 2 [1] [] (r1 0 x0)=pamX h x0 (N1 K 1) := by kernel_rfl
noncomputable def pakC (kn : K2 β) : O β :=
 bnd (A.fieldAddr 22 x1) fun a =>
 bnd (A.load false 1 a h) fun b =>
 bnd (A.lenS b) fun c =>
 bnd (A.bin prog .gtr 3 c (.int .i64 0)) fun d =>
 toBK d fun e =>
 (bif e then
 bnd (A.fieldAddr 0 x1) fun i =>
 bnd (A.load false 1 i h) fun j =>
 bnd (A.bin prog .neq 5 j (.int .u8 8)) fun k =>
 toBK k fun l =>
 (bif l then
 bnd (A.fieldAddr 0 x1) fun o =>
 bnd (A.load false 1 o h) fun p =>
 bnd (A.bin prog .neq 5 p (.int .u8 10)) fun q =>
 toBK q fun r =>
 kn (.bool r) x1 h
 else
 kn (.bool false) x1 h)
 else
 kn (.bool false) x1 h)
theorem epakC : E27 C L h K 12 [17,1] [] (r1 1 x1)=pakC h x1 (N2 K 17 1) := by kernel_rfl
noncomputable def pakD (kr kn : K1 β) : O β :=
 condV x17 (
 kr (.bool false) h) (
 kn x1 h)
theorem epakD : E27 C L h K 13 [1] [] (r2 17 1 x17 x1)=pakD h x1 x17 (R1 K 2) (N1 K 1) := by kernel_rfl
noncomputable def paeZ (C : CF) (L : Nat) {β : Type} (x1 : V) (h : H) (kr kn : K1 β) : O β :=
 pakC h x1 (fun x17 x1 h=>pakD h x1 x17 kr kn)
def epaeZ:=(sq K (epakC C L h _ x1) (congrArg _ (w2 fun x17 x1 h=>sn (epakD ..))) (by kernel_rfl) : _=paeZ C L x1 h (R1 K 2) (N1 K 1))
noncomputable def papV (kn : K2 β) : O β :=
 bnd2 (A.box 24 Z30 h) fun a b =>
 kn x1 a b
theorem epapV : E27 C L h K 14 [1,3] [] (r1 1 x1)=papV h x1 (N2 K 1 3) := by kernel_rfl
noncomputable def pahE (kn : K3 β) : O β :=
 bnd (A.fieldAddr 0 x1) fun a =>
 bnd (A.load false 1 a h) fun b =>
 kn b x1 x3 h
theorem epahE : E27 C L h K 60 [19,1,3] [] (r2 1 3 x1 x3)=pahE h x1 x3 (N3 K 19 1 3) := by kernel_rfl
noncomputable def pahF (kn : K4 β) : O β :=
 bnd (A.bin prog .eql 5 x19 (.int .u8 1)) fun a =>
 toBK a fun b =>
 kn (.bool b) x19 x1 x3 h
theorem epahF : E27 C L h K 244 [23,19,1,3] [(0,[1,3])] (r3 19 1 3 x19 x1 x3)=pahF h x1 x3 x19 (N4 K 23 19 1 3) := by kernel_rfl
noncomputable def papZ (kn : K2 β) : O β :=
 bnd (A.fieldAddr 7 x1) fun a =>
 bnd (A.load false 1 a h) fun b =>
 bnd (A.fieldAddr 8 x1) fun c =>
 bnd (A.load false 1 c h) fun d =>
 toBK d fun e =>
 bnd (A.fieldAddr 9 x1) fun f =>
 bnd (A.load false 1 f h) fun i =>
 bnd (A.fieldAddr 10 x1) fun j =>
 bnd (A.load false 1 j h) fun k =>
 bnd (A.fieldAddr 11 x1) fun l =>
 bnd (A.load false 1 l h) fun m =>
 toBK m fun n =>
 bnd (A.fieldAddr 12 x1) fun o =>
 bnd (A.load true 4 o h) fun p =>
 bnd (A.fieldAddr 16 x1) fun q =>
 bnd (A.load false 1 q h) fun r =>
 toBK r fun s =>
 bnd (A.fieldAddr 17 x1) fun t =>
 bnd (A.load false 1 t h) fun u =>
 toBK u fun v =>
 bnd (A.fieldAddr 18 x1) fun w =>
 bnd (A.load false 1 w h) fun y =>
 bnd (A.fieldAddr 19 x1) fun z =>
 bnd (A.load false 1 z h) fun a1 =>
 bnd (A.build Z30L [(7,1,b),(8,1,(.bool e)),(9,1,i),(10,1,k),(11,1,(.bool n)),(12,4,p),(16,1,(.bool s)),(17,1,(.bool v)),(18,1,y),(19,1,a1)]) fun b1 =>
 bnd (A.store 24 x3 b1 h) fun d1 =>
 kn x1 x3 d1
theorem epapZ : E27 C L h K 490 [1,3] [(0,[1,3])] (r4 23 19 1 3 x23 x19 x1 x3)=papZ h x1 x3 (N2 K 1 3) := by kernel_rfl
noncomputable def pahR (kn : K4 β) : O β :=
 bnd (A.bin prog .eql 5 x19 (.int .u8 2)) fun a =>
 toBK a fun b =>
 kn (.bool b) x19 x1 x3 h
theorem epahR : E27 C L h K 982 [46,19,1,3] [(0,[1,3])] (r4 23 19 1 3 x23 x19 x1 x3)=pahR h x1 x3 x19 (N4 K 46 19 1 3) := by kernel_rfl
noncomputable def papY (kn : K2 β) : O β :=
 bnd (A.fieldAddr 20 x1) fun a =>
 bnd (A.load false 1 a h) fun b =>
 toBK b fun c =>
 bnd (A.fieldAddr 21 x1) fun d =>
 bnd (A.load false 1 d h) fun e =>
 bnd (A.build Z30L [(20,1,(.bool c)),(21,1,e)]) fun f =>
 bnd (A.store 24 x3 f h) fun j =>
 kn x1 x3 j
theorem epapY : E27 C L h K 1966 [1,3] [(0,[1,3])] (r4 46 19 1 3 x46 x19 x1 x3)=papY h x1 x3 (N2 K 1 3) := by kernel_rfl
noncomputable def paiE (kn : K4 β) : O β :=
 bnd (A.bin prog .eql 5 x19 (.int .u8 3)) fun a =>
 toBK a fun b =>
 kn (.bool b) x19 x1 x3 h
theorem epaiE : E27 C L h K 3934 [53,19,1,3] [(0,[1,3])] (r4 46 19 1 3 x46 x19 x1 x3)=paiE h x1 x3 x19 (N4 K 53 19 1 3) := by kernel_rfl
noncomputable def papX (kn : K2 β) : O β :=
 bnd (A.fieldAddr 1 x1) fun a =>
 bnd (A.load false 1 a h) fun b =>
 toBK b fun c =>
 bnd (A.fieldAddr 2 x1) fun d =>
 bnd (A.load false 1 d h) fun e =>
 bnd (A.fieldAddr 3 x1) fun f =>
 bnd (A.load false 1 f h) fun i =>
 toBK i fun j =>
 bnd (A.fieldAddr 4 x1) fun k =>
 bnd (A.load false 1 k h) fun l =>
 bnd (A.fieldAddr 5 x1) fun m =>
 bnd (A.load false 1 m h) fun n =>
 bnd (A.fieldAddr 6 x1) fun o =>
 bnd (A.load false 1 o h) fun p =>
 bnd (A.build Z30L [(1,1,(.bool c)),(2,1,e),(3,1,(.bool j)),(4,1,l),(5,1,n),(6,1,p)]) fun q =>
 bnd (A.store 24 x3 q h) fun s =>
 kn x1 x3 s
theorem epapX : E27 C L h K 7870 [1,3] [(0,[1,3])] (r4 53 19 1 3 x53 x19 x1 x3)=papX h x1 x3 (N2 K 1 3) := by kernel_rfl
noncomputable def paiX (kn : K4 β) : O β :=
 bnd (A.bin prog .eql 5 x19 (.int .u8 9)) fun a =>
 toBK a fun b =>
 kn (.bool b) x19 x1 x3 h
theorem epaiX : E27 C L h K 15742 [68,19,1,3] [(0,[1,3])] (r4 53 19 1 3 x53 x19 x1 x3)=paiX h x1 x3 x19 (N4 K 68 19 1 3) := by kernel_rfl
noncomputable def papW (kn : K2 β) : O β :=
 bnd (A.fieldAddr 4 x1) fun a =>
 bnd (A.load false 1 a h) fun b =>
 bnd (A.fieldAddr 23 x1) fun c =>
 bnd (A.load false 1 c h) fun d =>
 bnd (A.build Z30L [(4,1,b),(23,1,d)]) fun e =>
 bnd (A.store 24 x3 e h) fun i =>
 kn x1 x3 i
theorem epapW : E27 C L h K 31486 [1,3] [(0,[1,3])] (r4 68 19 1 3 x68 x19 x1 x3)=papW h x1 x3 (N2 K 1 3) := by kernel_rfl
noncomputable def pakE (kn : K3 β) : O β :=
 bnd (A.bin prog .eql 5 x19 (.int .u8 12)) fun a =>
 toBK a fun b =>
 (bif b then
 kn (.bool b) x1 x3 h
 else
 bnd (A.bin prog .eql 5 x19 (.int .u8 13)) fun d =>
 toBK d fun e =>
 (bif e then
 kn (.bool e) x1 x3 h
 else
 bnd (A.bin prog .eql 5 x19 (.int .u8 14)) fun i =>
 toBK i fun j =>
 kn (.bool j) x1 x3 h))
theorem epakE : E27 C L h K 62974 [75,1,3] [(0,[1,3])] (r4 68 19 1 3 x68 x19 x1 x3)=pakE h x1 x3 x19 (N3 K 75 1 3) := by kernel_rfl
noncomputable def pakF (kn : K2 β) : O β :=
 condV x75 (
 kn x1 x3 h) (
 bnd (A.fieldAddr 4 x1) fun a =>
 bnd (A.load false 1 a h) fun b =>
 bnd (A.build Z30L [(4,1,b)]) fun c =>
 bnd (A.store 24 x3 c h) fun e =>
 kn x1 x3 e)
theorem epakF : E27 C L h K 62975 [1,3] [(0,[1,3])] (r3 75 1 3 x75 x1 x3)=pakF h x1 x3 x75 (N2 K 1 3) := by kernel_rfl
noncomputable def pafJ (kn : K2 β) : O β :=
 pakE h x1 x3 x19 (fun x75 x1 x3 h=>pakF h x1 x3 x75 kn)
def epafJ:=(sq K (epakE C L h _ x1 x3 x19 x68) (congrArg _ (w3 fun x75 x1 x3 h=>sn (epakF ..))) (by kernel_rfl) : _=pafJ h x1 x3 x19 (N2 K 1 3))
noncomputable def paeD (kn : K2 β) : O β :=
 condV x68 (papW h x1 x3 kn) (pafJ h x1 x3 x19 kn)
def epaeD:=(cd K (.tmp 68) x68 (epapW C L h K x1 x3 x19 x68) (epafJ C L h K x1 x3 x19 x68) (by kernel_rfl) : _=paeD h x1 x3 x19 x68 (N2 K 1 3))
noncomputable def pacX (kn : K2 β) : O β :=
 paiX h x1 x3 x19 (fun x68 x19 x1 x3 h=>paeD h x1 x3 x19 x68 kn)
def epacX:=(sq K (epaiX C L h _ x1 x3 x19 x53) (congrArg _ (w4 fun x68 x19 x1 x3 h=>sn (epaeD ..))) (by kernel_rfl) : _=pacX h x1 x3 x19 (N2 K 1 3))
noncomputable def pacI (kn : K2 β) : O β :=
 condV x53 (papX h x1 x3 kn) (pacX h x1 x3 x19 kn)
def epacI:=(cd K (.tmp 53) x53 (epapX C L h K x1 x3 x19 x53) (epacX C L h K x1 x3 x19 x53) (by kernel_rfl) : _=pacI h x1 x3 x19 x53 (N2 K 1 3))
noncomputable def pabQ (kn : K2 β) : O β :=
 paiE h x1 x3 x19 (fun x53 x19 x1 x3 h=>pacI h x1 x3 x19 x53 kn)
def epabQ:=(sq K (epaiE C L h _ x1 x3 x19 x46) (congrArg _ (w4 fun x53 x19 x1 x3 h=>sn (epacI ..))) (by kernel_rfl) : _=pabQ h x1 x3 x19 (N2 K 1 3))
noncomputable def pabE (kn : K2 β) : O β :=
 condV x46 (papY h x1 x3 kn) (pabQ h x1 x3 x19 kn)
def epabE:=(cd K (.tmp 46) x46 (epapY C L h K x1 x3 x19 x46) (epabQ C L h K x1 x3 x19 x46) (by kernel_rfl) : _=pabE h x1 x3 x19 x46 (N2 K 1 3))
noncomputable def paaX (kn : K2 β) : O β :=
 pahR h x1 x3 x19 (fun x46 x19 x1 x3 h=>pabE h x1 x3 x19 x46 kn)
def epaaX:=(sq K (epahR C L h _ x1 x3 x19 x23) (congrArg _ (w4 fun x46 x19 x1 x3 h=>sn (epabE ..))) (by kernel_rfl) : _=paaX h x1 x3 x19 (N2 K 1 3))
noncomputable def paaT (kn : K2 β) : O β :=
 condV x23 (papZ h x1 x3 kn) (paaX h x1 x3 x19 kn)
def epaaT:=(cd K (.tmp 23) x23 (epapZ C L h K x1 x3 x19 x23) (epaaX C L h K x1 x3 x19 x23) (by kernel_rfl) : _=paaT h x1 x3 x19 x23 (N2 K 1 3))
noncomputable def paaP (kn : K2 β) : O β :=
 pahF h x1 x3 x19 (fun x23 x19 x1 x3 h=>paaT h x1 x3 x19 x23 kn)
def epaaP:=(sq K (epahF C L h _ x1 x3 x19) (congrArg _ (w4 fun x23 x19 x1 x3 h=>sn (epaaT ..))) (by kernel_rfl) : _=paaP h x1 x3 x19 (N2 K 1 3))
noncomputable def paaL (C : CF) (L : Nat) {β : Type} (x1 x3 : V) (h : H) (kn : K2 β) : O β :=
 pahE h x1 x3 (fun x19 x1 x3 h=>paaP h x1 x3 x19 kn)
def epaaL:=(sq K (epahE C L h _ x1 x3) (congrArg _ (w3 fun x19 x1 x3 h=>sn (bk (epaaP ..)))) (by kernel_rfl) : _=paaL C L x1 x3 h (N2 K 1 3))
noncomputable def pamY (C : CF) (L : Nat) {β : Type} (x1 x3 : V) (h : H) (kr : K1 β) : O β :=
 bnd (A.fieldAddr 0 x1) fun a =>
 bnd (A.load false 1 a h) fun b =>
 bnd (A.fieldAddr 0 x3) fun c =>
 bnd (A.store 1 c b h) fun e =>
 bnd (A.load true 24 x1 e) fun f =>
 bnd2 (C 17 [f] e) fun i j =>
 bnd (A.load true 24 x3 j) fun k =>
 bif (chk (bnd (A.load true 24 x3 e) fun v => some v) k && true) then
 bnd2 (C 17 [k] j) fun l m =>
 bnd (A.bin prog .eql 53 i l) fun n =>
 toBK n fun o =>
 kr (.bool o) m
 else none
theorem epamY : E27 C L h K 31 [2] [] (r2 1 3 x1 x3)=pamY C L x1 x3 h (R1 K 2) := by kernel_rfl
noncomputable def p27a (kr : K1 β) : O β :=
 pamX h x0 (fun x1 h=>paeZ C L x1 h kr (fun x1 h=>papV h x1 (fun x1 x3 h=>paaL C L x1 x3 h (fun x1 x3 h=>pamY C L x1 x3 h kr))))
def ep27a:=(sq K (epamX C L h _ x0) (congrArg _ (w1 fun x1 h=>sn (sq K (epaeZ C L h _ x1) (congrArg _ (w1 fun x1 h=>sn (sq K (epapV C L h _ x1) (congrArg _ (w2 fun x1 x3 h=>sn (sq K (epaaL C L h _ x1 x3) (congrArg _ (w2 fun x1 x3 h=>sn (epamY ..))) (by kernel_rfl)))) (by kernel_rfl)))) (by kernel_rfl)))) (by kernel_rfl) : _=p27a C L h x0 (R1 K 2))
noncomputable def F27 (C : CF) (L : Nat) (x0 : V) (h : H) : O (V × H) :=
 p27a C L h x0 (fun x2 h=>some (x2,h))
theorem F27eq (Q : Orc) (n : Nat) (x0 : V) (h : H) (q : Q 27 [x0]=none) : callO prog 2 Q (n + 1) 27 [x0] h=F27 (callO prog 2 Q n) n x0 h :=
 (tp q Tryd.func27 (ep27a (callO prog 2 Q n) n h _ x0) (by kernel_rfl)).trans (by kernel_rfl)
noncomputable def c28a : Code := (Tryd.f28.body).getD .skip
noncomputable abbrev E28 (C : CF) (L : Nat) {β : Type} (h : H) (K : KK β) (n : Nat) (o : List Nat) (v : List (Nat × List Nat)) (r : T Value) : O β := execK prog C L 2 8 [4] (g c28a n) o v r h K
noncomputable def p28a (kr : K1 β) : O β :=
 toBK x0 fun c =>
 (bif c then
 bnd (A.bin prog .shl 5 (.int .u8 1) x1) fun e =>
 kr e h
 else
 kr (.int .u8 0) h)
theorem ep28a : E28 C L h K 1 [4] [] (r2 0 1 x0 x1)=p28a h x0 x1 (R1 K 4) := by kernel_rfl
noncomputable def F28 (C : CF) (L : Nat) (x0 x1 : V) (h : H) : O (V × H) :=
 p28a h x0 x1 (fun x4 h=>some (x4,h))
theorem F28eq (Q : Orc) (n : Nat) (x0 x1 : V) (h : H) (q : Q 28 [x0,x1]=none) : callO prog 2 Q (n + 1) 28 [x0,x1] h=F28 (callO prog 2 Q n) n x0 x1 h :=
 (tp q Tryd.func28 (ep28a (callO prog 2 Q n) n h _ x0 x1) (by kernel_rfl)).trans (by kernel_rfl)
noncomputable def c29a : Code := (Tryd.f29.body).getD .skip
noncomputable abbrev E29 (C : CF) (L : Nat) {β : Type} (h : H) (K : KK β) (n : Nat) (o : List Nat) (v : List (Nat × List Nat)) (r : T Value) : O β := execK prog C L 2 68 [4] (g c29a n) o v r h K
noncomputable def paqA (kn : K2 β) : O β :=
 bnd2 (A.box 24 x1 h) fun a b =>
 kn x0 a b
theorem epaqA : E29 C L h K 2 [0,3] [] (r2 0 1 x0 x1)=paqA h x0 x1 (N2 K 0 3) := by kernel_rfl
noncomputable def paqB (kn : K2 β) : O β :=
 bnd2 (C 30 [x0,(.string ⟨⟨[77,81,84,84]⟩⟩)] h) fun b c =>
 kn b x3 c
theorem epaqB : E29 C L h K 6 [0,3] [] (r2 0 3 x0 x3)=paqB C h x0 x3 (N2 K 0 3) := by kernel_rfl
noncomputable def paqC (kn : K2 β) : O β :=
 bnd (A.fieldAddr 7 x3) fun b =>
 bnd (A.load false 1 b h) fun c =>
 bnd (A.fieldAddr 16 x3) fun d =>
 bnd (A.load false 1 d h) fun e =>
 toBK e fun f =>
 bnd2 (C 28 [(.bool f),(.int .u64 7)] h) fun i j =>
 bif (chk (bnd (A.load false 1 b j) fun v => some v) c && true) then
 bnd (A.fieldAddr 17 x3) fun k =>
 bnd (A.load false 1 k j) fun l =>
 toBK l fun m =>
 bif (chk (bnd (A.load false 1 k h) fun v => some v) (.bool m) && true) then
 bnd2 (C 28 [(.bool m),(.int .u64 6)] j) fun n o =>
 bif (chk (bnd (A.load false 1 b o) fun v => some v) c && true) then
 bnd (A.bin prog .or 5 i n) fun p =>
 bnd (A.fieldAddr 12 x3) fun q =>
 bnd (A.fieldAddr 3 q) fun r =>
 bnd (A.load false 1 r o) fun s =>
 toBK s fun t =>
 bif (chk (bnd (A.load false 1 r j) fun v => some v) (.bool t) && (chk (bnd (A.load false 1 r h) fun v => some v) (.bool t) && true)) then
 bnd2 (C 28 [(.bool t),(.int .u64 5)] o) fun u v =>
 bif (chk (bnd (A.load false 1 b v) fun v => some v) c && true) then
 bnd (A.bin prog .or 5 p u) fun w =>
 bnd (A.fieldAddr 12 x3) fun y =>
 bnd (A.fieldAddr 2 y) fun z =>
 bnd (A.load false 1 z v) fun a1 =>
 bif (chk (bnd (A.load false 1 z o) fun v => some v) a1 && (chk (bnd (A.load false 1 z j) fun v => some v) a1 && (chk (bnd (A.load false 1 z h) fun v => some v) a1 && true))) then
 bnd (A.bin prog .shl 5 a1 (.int .u64 3)) fun b1 =>
 bnd (A.bin prog .or 5 w b1) fun c1 =>
 bnd (A.fieldAddr 11 x3) fun d1 =>
 bnd (A.load false 1 d1 v) fun e1 =>
 toBK e1 fun f1 =>
 bif (chk (bnd (A.load false 1 d1 o) fun v => some v) (.bool f1) && (chk (bnd (A.load false 1 d1 j) fun v => some v) (.bool f1) && (chk (bnd (A.load false 1 d1 h) fun v => some v) (.bool f1) && true))) then
 bnd2 (C 28 [(.bool f1),(.int .u64 2)] v) fun i1 j1 =>
 bif (chk (bnd (A.load false 1 z j1) fun v => some v) a1 && (chk (bnd (A.load false 1 b j1) fun v => some v) c && true)) then
 bnd (A.bin prog .or 5 c1 i1) fun k1 =>
 bnd (A.fieldAddr 8 x3) fun l1 =>
 bnd (A.load false 1 l1 j1) fun m1 =>
 toBK m1 fun n1 =>
 bif (chk (bnd (A.load false 1 l1 v) fun v => some v) (.bool n1) && (chk (bnd (A.load false 1 l1 o) fun v => some v) (.bool n1) && (chk (bnd (A.load false 1 l1 j) fun v => some v) (.bool n1) && (chk (bnd (A.load false 1 l1 h) fun v => some v) (.bool n1) && true)))) then
 bnd2 (C 28 [(.bool n1),(.int .u64 1)] j1) fun o1 p1 =>
 bif (chk (bnd (A.load false 1 z p1) fun v => some v) a1 && (chk (bnd (A.load false 1 b p1) fun v => some v) c && true)) then
 bnd (A.bin prog .or 5 k1 o1) fun q1 =>
 bnd2 (A.buildSlice 1 2 Z5L [(0,1,c),(1,1,q1)] p1) fun r1 s1 =>
 bnd2 (A.append 1 1 x0 r1 s1) fun t1 u1 =>
 kn t1 x3 u1
 else none
 else none
 else none
 else none
 else none
 else none
 else none
 else none
 else none
 else none
theorem epaqC : E29 C L h K 14 [0,3] [] (r2 0 3 x0 x3)=paqC C h x0 x3 (N2 K 0 3) := by kernel_rfl
noncomputable def paqD (kn : K2 β) : O β :=
 bnd (A.fieldAddr 9 x3) fun b =>
 bnd (A.load false 1 b h) fun c =>
 bnd2 (C 31 [x0,c] h) fun d e =>
 bnd (A.fieldAddr 10 x3) fun f =>
 bnd (A.load false 1 f e) fun i =>
 bif (chk (bnd (A.load false 1 f h) fun v => some v) i && true) then
 bnd2 (C 30 [d,i] e) fun j k =>
 kn x3 j k
 else none
theorem epaqD : E29 C L h K 30 [3,0] [] (r2 0 3 x0 x3)=paqD C h x0 x3 (N2 K 3 0) := by kernel_rfl
noncomputable def palW (C : CF) (L : Nat) {β : Type} (x3 x0 : V) (h : H) (kn : K2 β) : O β :=
 bnd (A.fieldAddr 11 x3) fun a =>
 bnd (A.load false 1 a h) fun b =>
 toBK b fun c =>
 (bif c then
 bnd (A.fieldAddr 12 x3) fun e =>
 bnd (A.fieldAddr 0 e) fun f =>
 bnd (A.load false 1 f h) fun i =>
 bnd2 (C 30 [x0,i] h) fun j k =>
 bnd (A.fieldAddr 12 x3) fun l =>
 bnd (A.fieldAddr 1 l) fun m =>
 bnd (A.load false 1 m k) fun n =>
 bif (chk (bnd (A.load false 1 m h) fun v => some v) n && true) then
 bnd2 (C 30 [j,n] k) fun o p =>
 kn x3 o p
 else none
 else
 kn x3 x0 h)
theorem epalW : E29 C L h K 62 [3,0] [] (r2 3 0 x3 x0)=palW C L x3 x0 h (N2 K 3 0) := by kernel_rfl
noncomputable def paiY (C : CF) (L : Nat) {β : Type} (x3 x0 : V) (h : H) (kr : K1 β) : O β :=
 bnd (A.fieldAddr 16 x3) fun a =>
 bnd (A.load false 1 a h) fun b =>
 toBK b fun c =>
 (bif c then
 bnd (A.fieldAddr 18 x3) fun e =>
 bnd (A.load false 1 e h) fun f =>
 bnd2 (C 30 [x0,f] h) fun i j =>
 bnd (A.fieldAddr 17 x3) fun l =>
 bnd (A.load false 1 l j) fun m =>
 toBK m fun n =>
 (bif n then
 bnd (A.fieldAddr 19 x3) fun p =>
 bnd (A.load false 1 p j) fun q =>
 bnd2 (C 30 [i,q] j) fun r s =>
 kr r s
 else
 kr i j)
 else
 bnd (A.fieldAddr 17 x3) fun z =>
 bnd (A.load false 1 z h) fun a1 =>
 toBK a1 fun b1 =>
 (bif b1 then
 bnd (A.fieldAddr 19 x3) fun d1 =>
 bnd (A.load false 1 d1 h) fun e1 =>
 bnd2 (C 30 [x0,e1] h) fun f1 i1 =>
 kr f1 i1
 else
 kr x0 h))
theorem epaiY : E29 C L h K 63 [4] [] (r2 3 0 x3 x0)=paiY C L x3 x0 h (R1 K 4) := by kernel_rfl
noncomputable def p29a (kr : K1 β) : O β :=
 paqA h x0 x1 (fun x0 x3 h=>paqB C h x0 x3 (fun x0 x3 h=>paqC C h x0 x3 (fun x0 x3 h=>paqD C h x0 x3 (fun x3 x0 h=>palW C L x3 x0 h (fun x3 x0 h=>paiY C L x3 x0 h kr)))))
def ep29a:=(sq K (epaqA C L h _ x0 x1) (congrArg _ (w2 fun x0 x3 h=>sn (sq K (epaqB C L h _ x0 x3) (congrArg _ (w2 fun x0 x3 h=>sn (sq K (epaqC C L h _ x0 x3) (congrArg _ (w2 fun x0 x3 h=>sn (sq K (epaqD C L h _ x0 x3) (congrArg _ (w2 fun x3 x0 h=>sn (sq K (epalW C L h _ x0 x3) (congrArg _ (w2 fun x3 x0 h=>sn (epaiY ..))) (by kernel_rfl)))) (by kernel_rfl)))) (by kernel_rfl)))) (by kernel_rfl)))) (by kernel_rfl) : _=p29a C L h x0 x1 (R1 K 4))
noncomputable def F29 (C : CF) (L : Nat) (x0 x1 : V) (h : H) : O (V × H) :=
 p29a C L h x0 x1 (fun x4 h=>some (x4,h))
theorem F29eq (Q : Orc) (n : Nat) (x0 x1 : V) (h : H) (q : Q 29 [x0,x1]=none) : callO prog 2 Q (n + 1) 29 [x0,x1] h=F29 (callO prog 2 Q n) n x0 x1 h :=
 (tp q Tryd.func29 (ep29a (callO prog 2 Q n) n h _ x0 x1) (by kernel_rfl)).trans (by kernel_rfl)
noncomputable def c30a : Code := (Tryd.f30.body).getD .skip
noncomputable abbrev E30 (C : CF) (L : Nat) {β : Type} (h : H) (K : KK β) (n : Nat) (o : List Nat) (v : List (Nat × List Nat)) (r : T Value) : O β := execK prog C L 2 15 [4] (g c30a n) o v r h K
noncomputable def p30a (kr : K1 β) : O β :=
 bnd2 (C 41 [x1] h) fun c d =>
 bnd (A.extract 0 c) fun f =>
 bnd (A.extract 1 c) fun i =>
 bnd2 (A.append 1 1 x0 f d) fun n o =>
 kr n o
theorem ep30a : E30 C L h K 1 [4] [] (r2 0 1 x0 x1)=p30a C h x0 x1 (R1 K 4) := by kernel_rfl
noncomputable def F30 (C : CF) (L : Nat) (x0 x1 : V) (h : H) : O (V × H) :=
 p30a C h x0 x1 (fun x4 h=>some (x4,h))
theorem F30eq (Q : Orc) (n : Nat) (x0 x1 : V) (h : H) (q : Q 30 [x0,x1]=none) : callO prog 2 Q (n + 1) 30 [x0,x1] h=F30 (callO prog 2 Q n) n x0 x1 h :=
 (tp q Tryd.func30 (ep30a (callO prog 2 Q n) n h _ x0 x1) (by kernel_rfl)).trans (by kernel_rfl)
noncomputable def c31a : Code := (Tryd.f31.body).getD .skip
noncomputable abbrev E31 (C : CF) (L : Nat) {β : Type} (h : H) (K : KK β) (n : Nat) (o : List Nat) (v : List (Nat × List Nat)) (r : T Value) : O β := execK prog C L 2 17 [4] (g c31a n) o v r h K
noncomputable def p31a (kr : K1 β) : O β :=
 bnd (A.conv prog 25 3 x1) fun c =>
 bnd2 (A.buildSlice 1 1 Z3L [(0,1,c)] h) fun d e =>
 bnd2 (C 42 [d] e) fun f i =>
 bnd (A.extract 0 f) fun k =>
 bnd (A.extract 1 f) fun l =>
 bnd2 (A.append 1 1 x0 k i) fun q r =>
 kr q r
theorem ep31a : E31 C L h K 1 [4] [] (r2 0 1 x0 x1)=p31a C h x0 x1 (R1 K 4) := by kernel_rfl
noncomputable def F31 (C : CF) (L : Nat) (x0 x1 : V) (h : H) : O (V × H) :=
 p31a C h x0 x1 (fun x4 h=>some (x4,h))
theorem F31eq (Q : Orc) (n : Nat) (x0 x1 : V) (h : H) (q : Q 31 [x0,x1]=none) : callO prog 2 Q (n + 1) 31 [x0,x1] h=F31 (callO prog 2 Q n) n x0 x1 h :=
 (tp q Tryd.func31 (ep31a (callO prog 2 Q n) n h _ x0 x1) (by kernel_rfl)).trans (by kernel_rfl)
noncomputable def c33a : Code := (Tryd.f33.body).getD .skip
noncomputable abbrev E33 (C : CF) (L : Nat) {β : Type} (h : H) (K : KK β) (n : Nat) (o : List Nat) (v : List (Nat × List Nat)) (r : T Value) : O β := execK prog C L 2 31 [2,3,4] (g c33a n) o v r h K
noncomputable def paqE (kn : K3 β) : O β :=
 kn (.int .i64 0) (.int .i64 0) x0 h
theorem epaqE : E33 C L h K 2 [2,3,0] [] (r1 0 x0)=paqE h x0 (N3 K 2 3 0) := by kernel_rfl
noncomputable def paqF (kn : K4 β) : O β :=
 kn (.int .i64 1) x2 x3 x0 h
theorem epaqF : E33 C L h K 6 [5,2,3,0] [] (r3 2 3 0 x2 x3 x0)=paqF h x0 x2 x3 (N4 K 5 2 3 0) := by kernel_rfl
noncomputable def pakG (kx0 : K0 β) (kn : K4 β) : O β :=
 bnd (A.bin prog .lss 3 x3 (.int .i64 4)) fun b =>
 toBK b fun c =>
 (bif c then
 kn x3 x2 x5 x0 h
 else
 kx0 h)
theorem epakG : E33 C L h K 112 [3,2,5,0] [(0,[])] (r4 5 2 3 0 x5 x2 x3 x0)=pakG h x0 x2 x3 x5 (X0 K 0) (N4 K 3 2 5 0) := by kernel_rfl
noncomputable def palX (kr : K3 β) (kn : K4 β) : O β :=
 bnd (A.lenStr x0) fun c =>
 bnd (A.bin prog .eql 3 x3 c) fun d =>
 toBK d fun e =>
 (bif e then
 kr (.int .i64 0) (.int .i64 0) (.int .i64 2) h
 else
 bnd (A.indexStr x0 x3) fun m =>
 bnd (A.conv prog 5 3 m) fun n =>
 bnd (A.bin prog .add 3 x3 (.int .i64 1)) fun q =>
 bnd (A.bin prog .rem 3 n (.int .i64 128)) fun u =>
 bnd (A.bin prog .mul 3 u x5) fun w =>
 bnd (A.bin prog .add 3 x2 w) fun y =>
 bnd (A.bin prog .lss 3 n (.int .i64 128)) fun b1 =>
 toBK b1 fun c1 =>
 (bif c1 then
 kr y q (.int .i64 0) h
 else
 bnd (A.bin prog .mul 3 x5 (.int .i64 128)) fun l1 =>
 kn l1 y q x0 h))
theorem epalX : E33 C L h K 226 [5,2,3,0] [(1,[5,2,3,0]),(0,[])] (r4 3 2 5 0 x3 x2 x5 x0)=palX h x0 x2 x3 x5 (R3 K 2 3 4) (N4 K 5 2 3 0) := by kernel_rfl
noncomputable def pafT (kr : K3 β) (kx0 : K0 β) (kn : K4 β) : O β :=
 pakG h x0 x2 x3 x5 kx0 (fun x3 x2 x5 x0 h=>palX h x0 x2 x3 x5 kr kn)
def epafT:=(sq K (epakG C L h _ x0 x2 x3 x5) (congrArg _ (w4 fun x3 x2 x5 x0 h=>sn (bk (epalX ..)))) (by kernel_rfl) : _=pafT h x0 x2 x3 x5 (R3 K 2 3 4) (X0 K 0) (N4 K 5 2 3 0))
noncomputable def pahG (C : CF) (L : Nat) {β : Type} (kr : K3 β) (kx0 : K0 β) : Nat → K4 β
 | 0,_,_,_,_,_ => none
 | n + 1,x5,x2,x3,x0,h => pafT h x0 x2 x3 x5 kr kx0 (fun x5 x2 x3 x0 h=>pahG C L kr kx0 n x5 x2 x3 x0 h)
theorem epahG (C : CF) (L : Nat) {β : Type} (K : KK β) : ∀ (n : Nat) (x5 x2 x3 x0 : V) (h : H),loopK (fun fr h K=>execK prog C L 2 31 [2,3,4] (g c33a 56) [5,2,3,0] [(0,[])] fr h K) n (r4 5 2 3 0 x5 x2 x3 x0) h K=pahG C L (R3 K 2 3 4) (X0 K 0) n x5 x2 x3 x0 h
 | 0,_,_,_,_,_ => rfl
 | n + 1,x5,x2,x3,x0,h => (cg (epafT C L h _ x0 x2 x3 x5) (by kernel_rfl)).trans (congrArg _ (w4 fun x5 x2 x3 x0 h=>sl (epahG C L K n x5 x2 x3 x0 h)))
noncomputable def padW (kr : K3 β) (kx0 : K0 β) : O β :=
 pahG C L kr kx0 L x5 x2 x3 x0 h
def epadW:=(lp [] (r4 5 2 3 0 x5 x2 x3 x0) (epahG C L K L x5 x2 x3 x0 h) (by kernel_rfl) : _=padW C L h x0 x2 x3 x5 (R3 K 2 3 4) (X0 K 0))
noncomputable def pamZ (C : CF) (L : Nat) {β : Type} (h : H) (kr : K3 β) : O β :=
 kr (.int .i64 0) (.int .i64 0) (.int .i64 4) h
theorem epamZ : E33 C L h K 15 [2,3,4] [] r0=pamZ C L h (R3 K 2 3 4) := by kernel_rfl
noncomputable def p33a (kr : K3 β) : O β :=
 paqE h x0 (fun x2 x3 x0 h=>paqF h x0 x2 x3 (fun x5 x2 x3 x0 h=>padW C L h x0 x2 x3 x5 kr (fun h=>pamZ C L h kr)))
def ep33a:=(sq K (epaqE C L h _ x0) (congrArg _ (w3 fun x2 x3 x0 h=>sn (sq K (epaqF C L h _ x0 x2 x3) (congrArg _ (w4 fun x5 x2 x3 x0 h=>sn (sq K (bk (epadW C L h _ x0 x2 x3 x5)) (congrArg _ (w0 fun h=>sn (epamZ ..))) (by kernel_rfl)))) (by kernel_rfl)))) (by kernel_rfl) : _=p33a C L h x0 (R3 K 2 3 4))
noncomputable def F33 (C : CF) (L : Nat) (x0 : V) (h : H) : O (V × H) :=
 p33a C L h x0 (fun x2 x3 x4 h=>some (.tuple ⟨[x2,x3,x4]⟩,h))
theorem F33eq (Q : Orc) (n : Nat) (x0 : V) (h : H) (q : Q 33 [x0]=none) : callO prog 2 Q (n + 1) 33 [x0] h=F33 (callO prog 2 Q n) n x0 h :=
 (tp q Tryd.func33 (ep33a (callO prog 2 Q n) n h _ x0) (by kernel_rfl)).trans (by kernel_rfl)
noncomputable def c34a : Code := (Tryd.f34.body).getD .skip
noncomputable abbrev E34 (C : CF) (L : Nat) {β : Type} (h : H) (K : KK β) (n : Nat) (o : List Nat) (v : List (Nat × List Nat)) (r : T Value) : O β := execK prog C L 2 114 [] (g c34a n) o v r h K
noncomputable def pagZ (kn : K3 β) : O β :=
 bnd (A.nilCheck x0) fun b =>
 bnd (A.fieldAddr 2 b) fun c =>
 bnd (A.fieldAddr 0 c) fun d =>
 bnd (A.load false 1 d h) fun e =>
 kn x1 e x0 h
theorem epagZ : E34 C L h K 2 [1,9,0] [] (r2 0 1 x0 x1)=pagZ h x0 x1 (N3 K 1 9 0) := by kernel_rfl
noncomputable def pahA (kn : K4 β) : O β :=
 bnd (A.bin prog .eql 5 x9 (.int .u8 1)) fun a =>
 toBK a fun b =>
 kn (.bool b) x1 x9 x0 h
theorem epahA : E34 C L h K 12 [20,1,9,0] [(0,[])] (r3 1 9 0 x1 x9 x0)=pahA h x0 x1 x9 (N4 K 20 1 9 0) := by kernel_rfl
noncomputable def paqG (kn : K0 β) : O β :=
 bnd2 (C 43 [x0] h) fun b c =>
 kn c
theorem epaqG : E34 C L h K 26 [] [(0,[])] (r4 20 1 9 0 x20 x1 x9 x0)=paqG C h x0 (N0 K) := by kernel_rfl
noncomputable def pahH (kn : K4 β) : O β :=
 bnd (A.bin prog .eql 5 x9 (.int .u8 2)) fun a =>
 toBK a fun b =>
 kn (.bool b) x1 x9 x0 h
theorem epahH : E34 C L h K 54 [24,1,9,0] [(0,[])] (r4 20 1 9 0 x20 x1 x9 x0)=pahH h x0 x1 x9 (N4 K 24 1 9 0) := by kernel_rfl
noncomputable def panC (kn : K0 β) : O β :=
 bnd (A.nilCheck x0) fun b =>
 bnd (A.fieldAddr 0 b) fun c =>
 bnd2 (C 44 [c] h) fun d e =>
 bnd (A.nilCheck x0) fun k =>
 bnd (A.fieldAddr 0 k) fun l =>
 bnd (A.fieldAddr 1 l) fun m =>
 bnd (A.load false 1 m e) fun n =>
 toBK n fun o =>
 (bif o then
 bnd (A.nilCheck x0) fun r =>
 bnd (A.fieldAddr 0 r) fun s =>
 bnd (A.fieldAddr 1 s) fun t =>
 bnd (A.store 1 t (.bool true) e) fun v =>
 bnd (A.bin prog .eql 5 d (.int .u8 1)) fun z =>
 toBK z fun a1 =>
 bnd (A.nilCheck x0) fun b1 =>
 bnd (A.fieldAddr 2 b1) fun c1 =>
 bnd (A.fieldAddr 20 c1) fun d1 =>
 bnd (A.store 1 d1 (.bool a1) v) fun f1 =>
 bnd (A.nilCheck x0) fun k1 =>
 bnd (A.fieldAddr 0 k1) fun l1 =>
 bnd2 (C 44 [l1] f1) fun m1 n1 =>
 bnd (A.nilCheck x0) fun o1 =>
 bnd (A.fieldAddr 2 o1) fun p1 =>
 bnd (A.fieldAddr 21 p1) fun q1 =>
 bnd (A.store 1 q1 m1 n1) fun s1 =>
 kn s1
 else
 bnd (A.bin prog .gtr 5 d (.int .u8 1)) fun u1 =>
 toBK u1 fun v1 =>
 bnd (A.nilCheck x0) fun y1 =>
 bnd (A.fieldAddr 0 y1) fun z1 =>
 bnd (A.fieldAddr 1 z1) fun a2 =>
 bnd (A.store 1 a2 (.bool v1) e) fun c2 =>
 bnd (A.bin prog .eql 5 d (.int .u8 1)) fun f2 =>
 toBK f2 fun i2 =>
 bnd (A.nilCheck x0) fun j2 =>
 bnd (A.fieldAddr 2 j2) fun k2 =>
 bnd (A.fieldAddr 20 k2) fun l2 =>
 bnd (A.store 1 l2 (.bool i2) c2) fun n2 =>
 bnd (A.nilCheck x0) fun q2 =>
 bnd (A.fieldAddr 0 q2) fun r2 =>
 bnd2 (C 44 [r2] n2) fun s2 t2 =>
 bnd (A.nilCheck x0) fun u2 =>
 bnd (A.fieldAddr 2 u2) fun v2 =>
 bnd (A.fieldAddr 21 v2) fun w2 =>
 bnd (A.store 1 w2 s2 t2) fun z2 =>
 kn z2)
theorem epanC : E34 C L h K 110 [] [(0,[])] (r4 24 1 9 0 x24 x1 x9 x0)=panC C h x0 (N0 K) := by kernel_rfl
noncomputable def paiF (kn : K4 β) : O β :=
 bnd (A.bin prog .eql 5 x9 (.int .u8 3)) fun a =>
 toBK a fun b =>
 kn (.bool b) x1 x9 x0 h
theorem epaiF : E34 C L h K 222 [57,1,9,0] [(0,[])] (r4 24 1 9 0 x24 x1 x9 x0)=paiF h x0 x1 x9 (N4 K 57 1 9 0) := by kernel_rfl
noncomputable def panA (kn : K1 β) : O β :=
 bnd (A.bin prog .and 5 x1 (.int .u8 8)) fun e =>
 bnd (A.bin prog .gtr 5 e (.int .u8 0)) fun f =>
 toBK f fun i =>
 bnd (A.bin prog .shr 5 x1 (.int .u64 1)) fun k =>
 bnd (A.bin prog .and 5 k (.int .u8 3)) fun l =>
 bnd (A.bin prog .and 5 x1 (.int .u8 1)) fun n =>
 bnd (A.bin prog .gtr 5 n (.int .u8 0)) fun o =>
 toBK o fun p =>
 bnd (A.nilCheck x0) fun q =>
 bnd (A.fieldAddr 2 q) fun r =>
 bnd (A.fieldAddr 1 r) fun s =>
 bnd (A.store 1 s (.bool i) h) fun u =>
 bnd (A.nilCheck x0) fun v =>
 bnd (A.fieldAddr 2 v) fun w =>
 bnd (A.fieldAddr 2 w) fun y =>
 bnd (A.store 1 y l u) fun a1 =>
 bnd (A.nilCheck x0) fun b1 =>
 bnd (A.fieldAddr 2 b1) fun c1 =>
 bnd (A.fieldAddr 3 c1) fun d1 =>
 bnd (A.store 1 d1 (.bool p) a1) fun f1 =>
 kn x0 f1
theorem epanA : E34 C L h K 892 [0] [(0,[])] (r4 57 1 9 0 x57 x1 x9 x0)=panA h x0 x1 (N1 K 0) := by kernel_rfl
noncomputable def panB (kn : K0 β) : O β :=
 bnd (A.nilCheck x0) fun c =>
 bnd (A.fieldAddr 0 c) fun d =>
 bnd2 (C 45 [d] h) fun e f =>
 bnd (A.nilCheck x0) fun i =>
 bnd (A.fieldAddr 2 i) fun j =>
 bnd (A.fieldAddr 5 j) fun k =>
 bnd (A.store 1 k e f) fun m =>
 bnd (A.nilCheck x0) fun o =>
 bnd (A.fieldAddr 2 o) fun p =>
 bnd (A.fieldAddr 2 p) fun q =>
 bnd (A.load false 1 q m) fun r =>
 bnd (A.bin prog .gtr 5 r (.int .u8 0)) fun s =>
 toBK s fun t =>
 (bif t then
 bnd (A.nilCheck x0) fun w =>
 bnd (A.fieldAddr 0 w) fun y =>
 bnd2 (C 46 [y] m) fun z a1 =>
 bnd (A.nilCheck x0) fun b1 =>
 bnd (A.fieldAddr 2 b1) fun c1 =>
 bnd (A.fieldAddr 4 c1) fun d1 =>
 bnd (A.store 1 d1 z a1) fun f1 =>
 bnd (A.nilCheck x0) fun k1 =>
 bnd (A.fieldAddr 0 k1) fun l1 =>
 bnd2 (C 47 [l1] f1) fun m1 n1 =>
 bnd (A.nilCheck x0) fun o1 =>
 bnd (A.fieldAddr 2 o1) fun p1 =>
 bnd (A.fieldAddr 6 p1) fun q1 =>
 bnd (A.store 1 q1 m1 n1) fun s1 =>
 kn s1
 else
 bnd (A.nilCheck x0) fun v1 =>
 bnd (A.fieldAddr 0 v1) fun w1 =>
 bnd2 (C 47 [w1] m) fun y1 z1 =>
 bnd (A.nilCheck x0) fun a2 =>
 bnd (A.fieldAddr 2 a2) fun b2 =>
 bnd (A.fieldAddr 6 b2) fun c2 =>
 bnd (A.store 1 c2 y1 z1) fun e2 =>
 kn e2)
theorem epanB : E34 C L h K 893 [] [(0,[])] (r1 0 x0)=panB C h x0 (N0 K) := by kernel_rfl
noncomputable def pagN (kn : K0 β) : O β :=
 panA h x0 x1 (fun x0 h=>panB C h x0 kn)
def epagN:=(sq K (epanA C L h _ x0 x1 x9 x57) (congrArg _ (w1 fun x0 h=>sn (epanB ..))) (by kernel_rfl) : _=pagN C h x0 x1 (N0 K))
noncomputable def pakH (kn : K2 β) : O β :=
 bnd (A.bin prog .eql 5 x9 (.int .u8 12)) fun a =>
 toBK a fun b =>
 (bif b then
 kn (.bool b) x0 h
 else
 bnd (A.bin prog .eql 5 x9 (.int .u8 13)) fun d =>
 toBK d fun e =>
 (bif e then
 kn (.bool e) x0 h
 else
 bnd (A.bin prog .eql 5 x9 (.int .u8 14)) fun i =>
 toBK i fun j =>
 kn (.bool j) x0 h))
theorem epakH : E34 C L h K 894 [110,0] [(0,[])] (r4 57 1 9 0 x57 x1 x9 x0)=pakH h x0 x9 (N2 K 110 0) := by kernel_rfl
noncomputable def pakI (kn : K0 β) : O β :=
 condV x110 (
 kn h) (
 bnd (A.nilCheck x0) fun c =>
 bnd (A.fieldAddr 0 c) fun d =>
 bnd2 (C 46 [d] h) fun e f =>
 bnd (A.nilCheck x0) fun i =>
 bnd (A.fieldAddr 2 i) fun j =>
 bnd (A.fieldAddr 4 j) fun k =>
 bnd (A.store 1 k e f) fun m =>
 bnd2 (C 48 [x0] m) fun o p =>
 kn p)
theorem epakI : E34 C L h K 895 [] [(0,[])] (r2 110 0 x110 x0)=pakI C h x0 x110 (N0 K) := by kernel_rfl
noncomputable def pafK (kn : K0 β) : O β :=
 pakH h x0 x9 (fun x110 x0 h=>pakI C h x0 x110 kn)
def epafK:=(sq K (epakH C L h _ x0 x1 x9 x57) (congrArg _ (w2 fun x110 x0 h=>sn (epakI ..))) (by kernel_rfl) : _=pafK C h x0 x9 (N0 K))
noncomputable def padF (kn : K0 β) : O β :=
 condV x57 (pagN C h x0 x1 kn) (pafK C h x0 x9 kn)
def epadF:=(cd K (.tmp 57) x57 (epagN C L h K x0 x1 x9 x57) (epafK C L h K x0 x1 x9 x57) (by kernel_rfl) : _=padF C h x0 x1 x9 x57 (N0 K))
noncomputable def pacF (kn : K0 β) : O β :=
 paiF h x0 x1 x9 (fun x57 x1 x9 x0 h=>padF C h x0 x1 x9 x57 kn)
def epacF:=(sq K (epaiF C L h _ x0 x1 x9 x24) (congrArg _ (w4 fun x57 x1 x9 x0 h=>sn (epadF ..))) (by kernel_rfl) : _=pacF C h x0 x1 x9 (N0 K))
noncomputable def pabR (kn : K0 β) : O β :=
 condV x24 (panC C h x0 kn) (pacF C h x0 x1 x9 kn)
def epabR:=(cd K (.tmp 24) x24 (epanC C L h K x0 x1 x9 x24) (epacF C L h K x0 x1 x9 x24) (by kernel_rfl) : _=pabR C h x0 x1 x9 x24 (N0 K))
noncomputable def pabB (kn : K0 β) : O β :=
 pahH h x0 x1 x9 (fun x24 x1 x9 x0 h=>pabR C h x0 x1 x9 x24 kn)
def epabB:=(sq K (epahH C L h _ x0 x1 x9 x20) (congrArg _ (w4 fun x24 x1 x9 x0 h=>sn (epabR ..))) (by kernel_rfl) : _=pabB C h x0 x1 x9 (N0 K))
noncomputable def paaW (kn : K0 β) : O β :=
 condV x20 (paqG C h x0 kn) (pabB C h x0 x1 x9 kn)
def epaaW:=(cd K (.tmp 20) x20 (epaqG C L h K x0 x1 x9 x20) (epabB C L h K x0 x1 x9 x20) (by kernel_rfl) : _=paaW C h x0 x1 x9 x20 (N0 K))
noncomputable def paaR (kn : K0 β) : O β :=
 pahA h x0 x1 x9 (fun x20 x1 x9 x0 h=>paaW C h x0 x1 x9 x20 kn)
def epaaR:=(sq K (epahA C L h _ x0 x1 x9) (congrArg _ (w4 fun x20 x1 x9 x0 h=>sn (epaaW ..))) (by kernel_rfl) : _=paaR C h x0 x1 x9 (N0 K))
noncomputable def p34a (kn : K0 β) : O β :=
 pagZ h x0 x1 (fun x1 x9 x0 h=>paaR C h x0 x1 x9 kn)
def ep34a:=(sq K (epagZ C L h _ x0 x1) (congrArg _ (w3 fun x1 x9 x0 h=>sn (bk (epaaR ..)))) (by kernel_rfl) : _=p34a C h x0 x1 (N0 K))
noncomputable def F34 (C : CF) (L : Nat) (x0 x1 : V) (h : H) : O (V × H) :=
 p34a C h x0 x1 (fun h=>some (.tuple ⟨[]⟩,h))
theorem F34eq (Q : Orc) (n : Nat) (x0 x1 : V) (h : H) (q : Q 34 [x0,x1]=none) : callO prog 2 Q (n + 1) 34 [x0,x1] h=F34 (callO prog 2 Q n) n x0 x1 h :=
 (tp q Tryd.func34 (ep34a (callO prog 2 Q n) n h _ x0 x1) (by kernel_rfl)).trans (by kernel_rfl)
noncomputable def c35a : Code := (Tryd.f35.body).getD .skip
noncomputable abbrev E35 (C : CF) (L : Nat) {β : Type} (h : H) (K : KK β) (n : Nat) (o : List Nat) (v : List (Nat × List Nat)) (r : T Value) : O β := execK prog C L 2 6 [2] (g c35a n) o v r h K
noncomputable def p35a (kr : K1 β) : O β :=
 bnd2 (A.box 24 x0 h) fun a b =>
 bnd (A.load true 24 a b) fun d =>
 bnd2 (C 13 [d] b) fun e f =>
 bnd (A.bin prog .geq 3 e (.int .i64 0)) fun i =>
 toBK i fun j =>
 kr (.bool j) f
theorem ep35a : E35 C L h K 1 [2] [] (r1 0 x0)=p35a C h x0 (R1 K 2) := by kernel_rfl
noncomputable def F35 (C : CF) (L : Nat) (x0 : V) (h : H) : O (V × H) :=
 p35a C h x0 (fun x2 h=>some (x2,h))
theorem F35eq (Q : Orc) (n : Nat) (x0 : V) (h : H) (q : Q 35 [x0]=none) : callO prog 2 Q (n + 1) 35 [x0] h=F35 (callO prog 2 Q n) n x0 h :=
 (tp q Tryd.func35 (ep35a (callO prog 2 Q n) n h _ x0) (by kernel_rfl)).trans (by kernel_rfl)
noncomputable def c38a : Code := (Tryd.f38.body).getD .skip
noncomputable abbrev E38 (C : CF) (L : Nat) {β : Type} (h : H) (K : KK β) (n : Nat) (o : List Nat) (v : List (Nat × List Nat)) (r : T Value) : O β := execK prog C L 2 6 [2] (g c38a n) o v r h K
noncomputable def p38a (kr : K1 β) : O β :=
 bnd2 (C 54 [x0] h) fun c d =>
 bnd (A.bin prog .geq 3 c (.int .i64 0)) fun e =>
 toBK e fun f =>
 kr (.bool f) d
theorem ep38a : E38 C L h K 1 [2] [] (r1 0 x0)=p38a C h x0 (R1 K 2) := by kernel_rfl
noncomputable def F38 (C : CF) (L : Nat) (x0 : V) (h : H) : O (V × H) :=
 p38a C h x0 (fun x2 h=>some (x2,h))
theorem F38eq (Q : Orc) (n : Nat) (x0 : V) (h : H) (q : Q 38 [x0]=none) : callO prog 2 Q (n + 1) 38 [x0] h=F38 (callO prog 2 Q n) n x0 h :=
 (tp q Tryd.func38 (ep38a (callO prog 2 Q n) n h _ x0) (by kernel_rfl)).trans (by kernel_rfl)
noncomputable def c39a : Code := (Tryd.f39.body).getD .skip
noncomputable abbrev E39 (C : CF) (L : Nat) {β : Type} (h : H) (K : KK β) (n : Nat) (o : List Nat) (v : List (Nat × List Nat)) (r : T Value) : O β := execK prog C L 2 14 [2] (g c39a n) o v r h K
noncomputable def p39a (kr : K1 β) : O β :=
 bnd (A.bin prog .neq 9 x0 (.string ⟨⟨[]⟩⟩)) fun c =>
 toBK c fun d =>
 (bif d then
 bnd2 (C 38 [x0] h) fun i j =>
 toBK i fun k =>
 (bif k then
 bnd2 (C 55 [x0,(.string ⟨⟨[43,35]⟩⟩)] j) fun o p =>
 toBK o fun q =>
 bnd (A.un prog .not (.bool q)) fun r =>
 toBK r fun s =>
 kr (.bool s) p
 else
 kr (.bool false) j)
 else
 kr (.bool false) h)
theorem ep39a : E39 C L h K 1 [2] [] (r1 0 x0)=p39a C h x0 (R1 K 2) := by kernel_rfl
noncomputable def F39 (C : CF) (L : Nat) (x0 : V) (h : H) : O (V × H) :=
 p39a C h x0 (fun x2 h=>some (x2,h))
theorem F39eq (Q : Orc) (n : Nat) (x0 : V) (h : H) (q : Q 39 [x0]=none) : callO prog 2 Q (n + 1) 39 [x0] h=F39 (callO prog 2 Q n) n x0 h :=
 (tp q Tryd.func39 (ep39a (callO prog 2 Q n) n h _ x0) (by kernel_rfl)).trans (by kernel_rfl)
noncomputable def c40a : Code := (Tryd.f40.body).getD .skip
noncomputable abbrev E40 (C : CF) (L : Nat) {β : Type} (h : H) (K : KK β) (n : Nat) (o : List Nat) (v : List (Nat × List Nat)) (r : T Value) : O β := execK prog C L 2 38 [2] (g c40a n) o v r h K
noncomputable def palZ (kn : K1 β) : O β :=
 kn x0 h
theorem epalZ : E40 C L h K 2 [0] [] (r1 0 x0)=palZ h x0 (N1 K 0) := by kernel_rfl
noncomputable def pamA (kr kn : K1 β) : O β :=
 bnd (A.bin prog .eql 9 x0 (.string ⟨⟨[]⟩⟩)) fun b =>
 toBK b fun c =>
 (bif c then
 kr (.bool false) h
 else
 bnd2 (C 38 [x0] h) fun j k =>
 toBK j fun l =>
 bnd (A.un prog .not (.bool l)) fun m =>
 toBK m fun n =>
 (bif n then
 kr (.bool false) k
 else
 kn x0 k))
theorem epamA : E40 C L h K 6 [0] [] (r1 0 x0)=pamA C h x0 (R1 K 2) (N1 K 0) := by kernel_rfl
noncomputable def paqK (kn : K1 β) : O β :=
 bnd2 (C 56 [x0,(.string ⟨⟨[47]⟩⟩)] h) fun b c =>
 kn b c
theorem epaqK : E40 C L h K 14 [3] [] (r1 0 x0)=paqK C h x0 (N1 K 3) := by kernel_rfl
noncomputable def paqL (kn : K4 β) : O β :=
 bnd (A.lenS x3) fun b =>
 kn b (.int .i64 0) x3 x3 h
theorem epaqL : E40 C L h K 60 [16,17,3,15] [] (r1 3 x3)=paqL h x3 (N4 K 16 17 3 15) := by kernel_rfl
noncomputable def pakJ (kn : K5 β) : O β :=
 bnd (A.bin prog .lss 3 x17 x16) fun a =>
 kn a x15 x3 x16 x17 h
theorem epakJ : E40 C L h K 488 [18,15,3,16,17] [(0,[])] (r4 16 17 3 15 x16 x17 x3 x15)=pakJ h x3 x15 x16 x17 (N5 K 18 15 3 16 17) := by kernel_rfl
noncomputable def pakK (kx0 : K0 β) (kn : K4 β) : O β :=
 condV x18 (
 kn x17 x16 x3 x15 h) (
 kx0 h)
theorem epakK : E40 C L h K 978 [17,16,3,15] [(0,[])] (r5 18 15 3 16 17 x18 x15 x3 x16 x17)=pakK h x3 x15 x16 x17 x18 (X0 K 0) (N4 K 17 16 3 15) := by kernel_rfl
noncomputable def pamB (kn : K6 β) : O β :=
 bnd (A.idxS 1 x15 x17) fun b =>
 bnd (A.load false 1 b h) fun c =>
 kn x17 c x17 x16 x3 x15 h
theorem epamB : E40 C L h K 7832 [4,5,17,16,3,15] [(1,[17,16,3,15]),(0,[])] (r4 17 16 3 15 x17 x16 x3 x15)=pamB h x3 x15 x16 x17 (N6 K 4 5 17 16 3 15) := by kernel_rfl
noncomputable def paiZ (C : CF) (L : Nat) {β : Type} (x4 x5 x17 x16 x3 x15 : V) (h : H) (kn : K6 β) : O β :=
 bnd (A.bin prog .eql 9 x5 (.string ⟨⟨[35]⟩⟩)) fun b =>
 toBK b fun c =>
 (bif c then
 bnd (A.lenS x3) fun i =>
 bnd (A.bin prog .sub 3 i (.int .i64 1)) fun j =>
 bnd (A.bin prog .eql 3 x4 j) fun k =>
 toBK k fun l =>
 (bif l then
 kn (.bool l) x5 x17 x16 x3 x15 h
 else
 bnd (A.bin prog .eql 9 x5 (.string ⟨⟨[43]⟩⟩)) fun p =>
 toBK p fun q =>
 kn (.bool q) x5 x17 x16 x3 x15 h)
 else
 bnd (A.bin prog .eql 9 x5 (.string ⟨⟨[43]⟩⟩)) fun v =>
 toBK v fun w =>
 kn (.bool w) x5 x17 x16 x3 x15 h)
theorem epaiZ : E40 C L h K 31332 [22,5,17,16,3,15] [(2,[17,16,3,15]),(1,[17,16,3,15]),(0,[])] (r6 4 5 17 16 3 15 x4 x5 x17 x16 x3 x15)=paiZ C L x4 x5 x17 x16 x3 x15 h (N6 K 22 5 17 16 3 15) := by kernel_rfl
noncomputable def pamC (kr : K1 β) (kn : K4 β) : O β :=
 condV x22 (
 kn x17 x16 x3 x15 h) (
 bnd2 (C 55 [x5,(.string ⟨⟨[43,35]⟩⟩)] h) fun b c =>
 toBK b fun d =>
 (bif d then
 kr (.bool false) c
 else
 kn x17 x16 x3 x15 c))
theorem epamC : E40 C L h K 31333 [17,16,3,15] [(2,[17,16,3,15]),(1,[17,16,3,15]),(0,[])] (r6 22 5 17 16 3 15 x22 x5 x17 x16 x3 x15)=pamC C h x3 x5 x15 x16 x17 x22 (R1 K 2) (N4 K 17 16 3 15) := by kernel_rfl
noncomputable def pafV (kr : K1 β) (kn : K4 β) : O β :=
 paiZ C L x4 x5 x17 x16 x3 x15 h (fun x22 x5 x17 x16 x3 x15 h=>pamC C h x3 x5 x15 x16 x17 x22 kr kn)
def epafV:=(sq K (epaiZ C L h _ x3 x4 x5 x15 x16 x17) (congrArg _ (w6 fun x22 x5 x17 x16 x3 x15 h=>sn (epamC ..))) (by kernel_rfl) : _=pafV C L h x3 x4 x5 x15 x16 x17 (R1 K 2) (N4 K 17 16 3 15))
noncomputable def paeG (kr : K1 β) (kn : K4 β) : O β :=
 pamB h x3 x15 x16 x17 (fun x4 x5 x17 x16 x3 x15 h=>pafV C L h x3 x4 x5 x15 x16 x17 kr kn)
def epaeG:=(sq K (epamB C L h _ x3 x15 x16 x17) (congrArg _ (w6 fun x4 x5 x17 x16 x3 x15 h=>sn (bk (epafV ..)))) (by kernel_rfl) : _=paeG C L h x3 x15 x16 x17 (R1 K 2) (N4 K 17 16 3 15))
noncomputable def panE (kn : K4 β) : O β :=
 bnd (A.bin prog .add 3 x17 (.int .i64 1)) fun a =>
 kn x16 a x3 x15 h
theorem epanE : E40 C L h K 1959 [16,17,3,15] [(0,[])] (r4 17 16 3 15 x17 x16 x3 x15)=panE h x3 x15 x16 x17 (N4 K 16 17 3 15) := by kernel_rfl
noncomputable def pacL (kr : K1 β) (kx0 : K0 β) (kn : K4 β) : O β :=
 pakJ h x3 x15 x16 x17 (fun x18 x15 x3 x16 x17 h=>pakK h x3 x15 x16 x17 x18 kx0 (fun x17 x16 x3 x15 h=>paeG C L h x3 x15 x16 x17 kr (fun x17 x16 x3 x15 h=>panE h x3 x15 x16 x17 kn)))
def epacL:=(sq K (epakJ C L h _ x3 x15 x16 x17) (congrArg _ (w5 fun x18 x15 x3 x16 x17 h=>sn (sq K (epakK C L h _ x3 x15 x16 x17 x18) (congrArg _ (w4 fun x17 x16 x3 x15 h=>sn (sq K (bk (epaeG C L h _ x3 x15 x16 x17)) (congrArg _ (w4 fun x17 x16 x3 x15 h=>sn (epanE ..))) (by kernel_rfl)))) (by kernel_rfl)))) (by kernel_rfl) : _=pacL C L h x3 x15 x16 x17 (R1 K 2) (X0 K 0) (N4 K 16 17 3 15))
noncomputable def pahI (C : CF) (L : Nat) {β : Type} (kr : K1 β) (kx0 : K0 β) : Nat → K4 β
 | 0,_,_,_,_,_ => none
 | n + 1,x16,x17,x3,x15,h => pacL C L h x3 x15 x16 x17 kr kx0 (fun x16 x17 x3 x15 h=>pahI C L kr kx0 n x16 x17 x3 x15 h)
theorem epahI (C : CF) (L : Nat) {β : Type} (K : KK β) : ∀ (n : Nat) (x16 x17 x3 x15 : V) (h : H),loopK (fun fr h K=>execK prog C L 2 38 [2] (g c40a 244) [16,17,3,15] [(0,[])] fr h K) n (r4 16 17 3 15 x16 x17 x3 x15) h K=pahI C L (R1 K 2) (X0 K 0) n x16 x17 x3 x15 h
 | 0,_,_,_,_,_ => rfl
 | n + 1,x16,x17,x3,x15,h => (cg (epacL C L h _ x3 x15 x16 x17) (by kernel_rfl)).trans (congrArg _ (w4 fun x16 x17 x3 x15 h=>sl (epahI C L K n x16 x17 x3 x15 h)))
noncomputable def pabS (kr : K1 β) (kx0 : K0 β) : O β :=
 pahI C L kr kx0 L x16 x17 x3 x15 h
def epabS:=(lp [] (r4 16 17 3 15 x16 x17 x3 x15) (epahI C L K L x16 x17 x3 x15 h) (by kernel_rfl) : _=pabS C L h x3 x15 x16 x17 (R1 K 2) (X0 K 0))
noncomputable def pabL (kr : K1 β) (kn : K0 β) : O β :=
 paqL h x3 (fun x16 x17 x3 x15 h=>pabS C L h x3 x15 x16 x17 kr kn)
def epabL:=(sq K (epaqL C L h _ x3) (congrArg _ (w4 fun x16 x17 x3 x15 h=>sn (bk (epabS ..)))) (by kernel_rfl) : _=pabL C L h x3 (R1 K 2) (N0 K))
noncomputable def pamD (C : CF) (L : Nat) {β : Type} (h : H) (kr : K1 β) : O β :=
 kr (.bool true) h
theorem epamD : E40 C L h K 31 [2] [] r0=pamD C L h (R1 K 2) := by kernel_rfl
noncomputable def p40a (kr : K1 β) : O β :=
 palZ h x0 (fun x0 h=>pamA C h x0 kr (fun x0 h=>paqK C h x0 (fun x3 h=>pabL C L h x3 kr (fun h=>pamD C L h kr))))
def ep40a:=(sq K (epalZ C L h _ x0) (congrArg _ (w1 fun x0 h=>sn (sq K (epamA C L h _ x0) (congrArg _ (w1 fun x0 h=>sn (sq K (epaqK C L h _ x0) (congrArg _ (w1 fun x3 h=>sn (sq K (epabL C L h _ x3) (congrArg _ (w0 fun h=>sn (epamD ..))) (by kernel_rfl)))) (by kernel_rfl)))) (by kernel_rfl)))) (by kernel_rfl) : _=p40a C L h x0 (R1 K 2))
noncomputable def F40 (C : CF) (L : Nat) (x0 : V) (h : H) : O (V × H) :=
 p40a C L h x0 (fun x2 h=>some (x2,h))
theorem F40eq (Q : Orc) (n : Nat) (x0 : V) (h : H) (q : Q 40 [x0]=none) : callO prog 2 Q (n + 1) 40 [x0] h=F40 (callO prog 2 Q n) n x0 h :=
 (tp q Tryd.func40 (ep40a (callO prog 2 Q n) n h _ x0) (by kernel_rfl)).trans (by kernel_rfl)
noncomputable def c41a : Code := (Tryd.f41.body).getD .skip
noncomputable abbrev E41 (C : CF) (L : Nat) {β : Type} (h : H) (K : KK β) (n : Nat) (o : List Nat) (v : List (Nat × List Nat)) (r : T Value) : O β := execK prog C L 2 18 [2,3] (g c41a n) o v r h K
noncomputable def p41a (kr : K2 β) : O β :=
 bnd (A.lenStr x0) fun d =>
 bnd2 (A.buildSlice 1 1 Z3L [(0,1,d)] h) fun e f =>
 bnd2 (C 42 [e] f) fun i j =>
 bnd (A.extract 0 i) fun l =>
 bnd (A.extract 1 i) fun m =>
 bnd (A.bin prog .neq 31 m (.int .i64 0)) fun q =>
 toBK q fun r =>
 (bif r then
 kr (.string ⟨⟨[]⟩⟩) (.int .i64 3) j
 else
 bnd (A.bin prog .add 9 l x0) fun w =>
 kr w (.int .i64 0) j)
theorem ep41a : E41 C L h K 1 [2,3] [] (r1 0 x0)=p41a C h x0 (R2 K 2 3) := by kernel_rfl
noncomputable def F41 (C : CF) (L : Nat) (x0 : V) (h : H) : O (V × H) :=
 p41a C h x0 (fun x2 x3 h=>some (.tuple ⟨[x2,x3]⟩,h))
theorem F41eq (Q : Orc) (n : Nat) (x0 : V) (h : H) (q : Q 41 [x0]=none) : callO prog 2 Q (n + 1) 41 [x0] h=F41 (callO prog 2 Q n) n x0 h :=
 (tp q Tryd.func41 (ep41a (callO prog 2 Q n) n h _ x0) (by kernel_rfl)).trans (by kernel_rfl)
noncomputable def c42a : Code := (Tryd.f42.body).getD .skip
noncomputable abbrev E42 (C : CF) (L : Nat) {β : Type} (h : H) (K : KK β) (n : Nat) (o : List Nat) (v : List (Nat × List Nat)) (r : T Value) : O β := execK prog C L 2 34 [2,3] (g c42a n) o v r h K
noncomputable def paqM (kn : K1 β) : O β :=
 kn x0 h
theorem epaqM : E42 C L h K 2 [0] [] (r1 0 x0)=paqM h x0 (N1 K 0) := by kernel_rfl
noncomputable def paqN (kn : K2 β) : O β :=
 bnd (A.lenS x0) fun b =>
 bnd (A.bin prog .mul 3 (.int .i64 2) b) fun c =>
 bnd2 (A.makeSlice 1 1 Z5L (.int .i64 0) c h) fun d e =>
 kn x0 d e
theorem epaqN : E42 C L h K 6 [0,4] [] (r1 0 x0)=paqN h x0 (N2 K 0 4) := by kernel_rfl
noncomputable def paqO (kn : K4 β) : O β :=
 bnd (A.lenS x0) fun b =>
 kn b (.int .i64 0) x0 x4 h
theorem epaqO : E42 C L h K 28 [12,13,11,4] [] (r2 0 4 x0 x4)=paqO h x0 x4 (N4 K 12 13 11 4) := by kernel_rfl
noncomputable def paqP (kn : K5 β) : O β :=
 bnd (A.bin prog .lss 3 x13 x12) fun a =>
 kn a x11 x12 x13 x4 h
theorem epaqP : E42 C L h K 232 [14,11,12,13,4] [(0,[4])] (r4 12 13 11 4 x12 x13 x11 x4)=paqP h x4 x11 x12 x13 (N5 K 14 11 12 13 4) := by kernel_rfl
noncomputable def paqQ (kx0 : K1 β) (kn : K4 β) : O β :=
 condV x14 (
 kn x4 x13 x12 x11 h) (
 kx0 x4 h)
theorem epaqQ : E42 C L h K 466 [4,13,12,11] [(0,[4])] (r5 14 11 12 13 4 x14 x11 x12 x13 x4)=paqQ h x4 x11 x12 x13 x14 (X1 K 0 4) (N4 K 4 13 12 11) := by kernel_rfl
noncomputable def paqR (kr : K2 β) (kn : K4 β) : O β :=
 bnd (A.idxS 1 x11 x13) fun a =>
 bnd (A.load false 1 a h) fun b =>
 bnd (A.bin prog .lss 3 b (.int .i64 0)) fun e =>
 toBK e fun f =>
 (bif f then
 kr (.string ⟨⟨[]⟩⟩) (.int .i64 1) h
 else
 bnd (A.bin prog .gtr 3 b (.int .i64 65535)) fun n =>
 toBK n fun o =>
 (bif o then
 kr (.string ⟨⟨[]⟩⟩) (.int .i64 1) h
 else
 bnd (A.bin prog .shr 3 b (.int .u64 8)) fun u =>
 bnd (A.conv prog 3 5 u) fun v =>
 bnd (A.conv prog 3 5 b) fun y =>
 bnd2 (A.buildSlice 1 2 Z5L [(0,1,v),(1,1,y)] h) fun z a1 =>
 bnd2 (A.append 1 1 x4 z a1) fun b1 c1 =>
 kn x13 x12 x11 b1 c1))
theorem epaqR : E42 C L h K 1868 [13,12,11,4] [(1,[13,12,11,4]),(0,[4])] (r4 4 13 12 11 x4 x13 x12 x11)=paqR h x4 x11 x12 x13 (R2 K 2 3) (N4 K 13 12 11 4) := by kernel_rfl
noncomputable def paqS (kn : K4 β) : O β :=
 bnd (A.bin prog .add 3 x13 (.int .i64 1)) fun a =>
 kn x12 a x11 x4 h
theorem epaqS : E42 C L h K 935 [12,13,11,4] [(0,[4])] (r4 13 12 11 4 x13 x12 x11 x4)=paqS h x4 x11 x12 x13 (N4 K 12 13 11 4) := by kernel_rfl
noncomputable def paeY (kr : K2 β) (kx0 : K1 β) (kn : K4 β) : O β :=
 paqP h x4 x11 x12 x13 (fun x14 x11 x12 x13 x4 h=>paqQ h x4 x11 x12 x13 x14 kx0 (fun x4 x13 x12 x11 h=>paqR h x4 x11 x12 x13 kr (fun x13 x12 x11 x4 h=>paqS h x4 x11 x12 x13 kn)))
def epaeY:=(sq K (epaqP C L h _ x4 x11 x12 x13) (congrArg _ (w5 fun x14 x11 x12 x13 x4 h=>sn (sq K (epaqQ C L h _ x4 x11 x12 x13 x14) (congrArg _ (w4 fun x4 x13 x12 x11 h=>sn (sq K (bk (epaqR C L h _ x4 x11 x12 x13)) (congrArg _ (w4 fun x13 x12 x11 x4 h=>sn (epaqS ..))) (by kernel_rfl)))) (by kernel_rfl)))) (by kernel_rfl) : _=paeY h x4 x11 x12 x13 (R2 K 2 3) (X1 K 0 4) (N4 K 12 13 11 4))
noncomputable def pamE (C : CF) (L : Nat) {β : Type} (kr : K2 β) (kx0 : K1 β) : Nat → K4 β
 | 0,_,_,_,_,_ => none
 | n + 1,x12,x13,x11,x4,h => paeY h x4 x11 x12 x13 kr kx0 (fun x12 x13 x11 x4 h=>pamE C L kr kx0 n x12 x13 x11 x4 h)
theorem epamE (C : CF) (L : Nat) {β : Type} (K : KK β) : ∀ (n : Nat) (x12 x13 x11 x4 : V) (h : H),loopK (fun fr h K=>execK prog C L 2 34 [2,3] (g c42a 116) [12,13,11,4] [(0,[4])] fr h K) n (r4 12 13 11 4 x12 x13 x11 x4) h K=pamE C L (R2 K 2 3) (X1 K 0 4) n x12 x13 x11 x4 h
 | 0,_,_,_,_,_ => rfl
 | n + 1,x12,x13,x11,x4,h => (cg (epaeY C L h _ x4 x11 x12 x13) (by kernel_rfl)).trans (congrArg _ (w4 fun x12 x13 x11 x4 h=>sl (epamE C L K n x12 x13 x11 x4 h)))
noncomputable def padZ (kr : K2 β) (kx0 : K1 β) : O β :=
 pamE C L kr kx0 L x12 x13 x11 x4 h
def epadZ:=(lp [4] (r4 12 13 11 4 x12 x13 x11 x4) (epamE C L K L x12 x13 x11 x4 h) (by kernel_rfl) : _=padZ C L h x4 x11 x12 x13 (R2 K 2 3) (X1 K 0 4))
noncomputable def padG (kr : K2 β) (kn : K1 β) : O β :=
 paqO h x0 x4 (fun x12 x13 x11 x4 h=>padZ C L h x4 x11 x12 x13 kr kn)
def epadG:=(sq K (epaqO C L h _ x0 x4) (congrArg _ (w4 fun x12 x13 x11 x4 h=>sn (bk (epadZ ..)))) (by kernel_rfl) : _=padG C L h x0 x4 (R2 K 2 3) (N1 K 4))
noncomputable def paqT (kr : K2 β) : O β :=
 bnd (A.b2s x4 h) fun b =>
 kr b (.int .i64 0) h
theorem epaqT : E42 C L h K 15 [2,3] [] (r1 4 x4)=paqT h x4 (R2 K 2 3) := by kernel_rfl
noncomputable def p42a (kr : K2 β) : O β :=
 paqM h x0 (fun x0 h=>paqN h x0 (fun x0 x4 h=>padG C L h x0 x4 kr (fun x4 h=>paqT h x4 kr)))
def ep42a:=(sq K (epaqM C L h _ x0) (congrArg _ (w1 fun x0 h=>sn (sq K (epaqN C L h _ x0) (congrArg _ (w2 fun x0 x4 h=>sn (sq K (epadG C L h _ x0 x4) (congrArg _ (w1 fun x4 h=>sn (epaqT ..))) (by kernel_rfl)))) (by kernel_rfl)))) (by kernel_rfl) : _=p42a C L h x0 (R2 K 2 3))
noncomputable def F42 (C : CF) (L : Nat) (x0 : V) (h : H) : O (V × H) :=
 p42a C L h x0 (fun x2 x3 h=>some (.tuple ⟨[x2,x3]⟩,h))
theorem F42eq (Q : Orc) (n : Nat) (x0 : V) (h : H) (q : Q 42 [x0]=none) : callO prog 2 Q (n + 1) 42 [x0] h=F42 (callO prog 2 Q n) n x0 h :=
 (tp q Tryd.func42 (ep42a (callO prog 2 Q n) n h _ x0) (by kernel_rfl)).trans (by kernel_rfl)
noncomputable def c43a : Code := (Tryd.f43.body).getD .skip
noncomputable abbrev E43 (C : CF) (L : Nat) {β : Type} (h : H) (K : KK β) (n : Nat) (o : List Nat) (v : List (Nat × List Nat)) (r : T Value) : O β := execK prog C L 2 148 [] (g c43a n) o v r h K
noncomputable def paqU (kn : K2 β) : O β :=
 bnd (A.nilCheck x0) fun b =>
 bnd (A.fieldAddr 0 b) fun c =>
 bnd2 (C 45 [c] h) fun d e =>
 kn d x0 e
theorem epaqU : E43 C L h K 2 [2,0] [] (r1 0 x0)=paqU C h x0 (N2 K 2 0) := by kernel_rfl
noncomputable def paqV (kn : K2 β) : O β :=
 bnd (A.nilCheck x0) fun c =>
 bnd (A.fieldAddr 0 c) fun d =>
 bnd2 (C 44 [d] h) fun e f =>
 bnd (A.nilCheck x0) fun i =>
 bnd (A.fieldAddr 2 i) fun j =>
 bnd (A.fieldAddr 7 j) fun k =>
 bnd (A.store 1 k e f) fun m =>
 kn x2 x0 m
theorem epaqV : E43 C L h K 6 [2,0] [] (r2 2 0 x2 x0)=paqV C h x0 x2 (N2 K 2 0) := by kernel_rfl
noncomputable def paqW (kn : K3 β) : O β :=
 bnd (A.nilCheck x0) fun b =>
 bnd (A.fieldAddr 0 b) fun c =>
 bnd2 (C 44 [c] h) fun d e =>
 kn x2 d x0 e
theorem epaqW : E43 C L h K 14 [2,3,0] [] (r2 2 0 x2 x0)=paqW C h x0 x2 (N3 K 2 3 0) := by kernel_rfl
noncomputable def pakL (C : CF) (L : Nat) {β : Type} (x2 x3 x0 : V) (h : H) (kn : K2 β) : O β :=
 bnd (A.nilCheck x0) fun c =>
 bnd (A.fieldAddr 0 c) fun d =>
 bnd (A.fieldAddr 1 d) fun e =>
 bnd (A.load false 1 e h) fun f =>
 toBK f fun i =>
 (bif i then
 bnd (A.nilCheck x0) fun n =>
 bnd (A.fieldAddr 0 n) fun o =>
 bnd (A.fieldAddr 1 o) fun p =>
 bnd (A.store 1 p (.bool true) h) fun r =>
 kn x3 x0 r
 else
 bnd (A.sliceStr (.string ⟨⟨[0,4,77,81,84,84]⟩⟩) (some (.int .i64 2)) none) fun t =>
 bnd (A.bin prog .neq 9 x2 t) fun u =>
 toBK u fun v =>
 (bif v then
 bnd (A.nilCheck x0) fun a1 =>
 bnd (A.fieldAddr 0 a1) fun b1 =>
 bnd (A.fieldAddr 1 b1) fun c1 =>
 bnd (A.store 1 c1 (.bool true) h) fun e1 =>
 kn x3 x0 e1
 else
 bnd (A.bin prog .and 5 x3 (.int .u8 1)) fun i1 =>
 bnd (A.bin prog .gtr 5 i1 (.int .u8 0)) fun j1 =>
 toBK j1 fun k1 =>
 bnd (A.nilCheck x0) fun m1 =>
 bnd (A.fieldAddr 0 m1) fun n1 =>
 bnd (A.fieldAddr 1 n1) fun o1 =>
 bnd (A.store 1 o1 (.bool k1) h) fun q1 =>
 kn x3 x0 q1))
theorem epakL : E43 C L h K 30 [3,0] [] (r3 2 3 0 x2 x3 x0)=pakL C L x2 x3 x0 h (N2 K 3 0) := by kernel_rfl
noncomputable def paqX (kn : K2 β) : O β :=
 bnd (A.bin prog .and 5 x3 (.int .u8 2)) fun c =>
 bnd (A.bin prog .gtr 5 c (.int .u8 0)) fun d =>
 toBK d fun e =>
 bnd (A.nilCheck x0) fun f =>
 bnd (A.fieldAddr 2 f) fun i =>
 bnd (A.fieldAddr 8 i) fun j =>
 bnd (A.store 1 j (.bool e) h) fun l =>
 kn x3 x0 l
theorem epaqX : E43 C L h K 62 [3,0] [] (r2 3 0 x3 x0)=paqX h x0 x3 (N2 K 3 0) := by kernel_rfl
noncomputable def paqY (kn : K2 β) : O β :=
 bnd (A.bin prog .and 5 x3 (.int .u8 4)) fun c =>
 bnd (A.bin prog .gtr 5 c (.int .u8 0)) fun d =>
 toBK d fun e =>
 bnd (A.nilCheck x0) fun f =>
 bnd (A.fieldAddr 2 f) fun i =>
 bnd (A.fieldAddr 11 i) fun j =>
 bnd (A.store 1 j (.bool e) h) fun l =>
 kn x3 x0 l
theorem epaqY : E43 C L h K 126 [3,0] [] (r2 3 0 x3 x0)=paqY h x0 x3 (N2 K 3 0) := by kernel_rfl
noncomputable def paqZ (kn : K2 β) : O β :=
 bnd (A.bin prog .shr 5 x3 (.int .u64 3)) fun c =>
 bnd (A.bin prog .and 5 c (.int .u8 3)) fun d =>
 bnd (A.nilCheck x0) fun e =>
 bnd (A.fieldAddr 2 e) fun f =>
 bnd (A.fieldAddr 12 f) fun i =>
 bnd (A.fieldAddr 2 i) fun j =>
 bnd (A.store 1 j d h) fun l =>
 kn x3 x0 l
theorem epaqZ : E43 C L h K 254 [3,0] [] (r2 3 0 x3 x0)=paqZ h x0 x3 (N2 K 3 0) := by kernel_rfl
noncomputable def parA (kn : K2 β) : O β :=
 bnd (A.bin prog .and 5 x3 (.int .u8 32)) fun c =>
 bnd (A.bin prog .gtr 5 c (.int .u8 0)) fun d =>
 toBK d fun e =>
 bnd (A.nilCheck x0) fun f =>
 bnd (A.fieldAddr 2 f) fun i =>
 bnd (A.fieldAddr 12 i) fun j =>
 bnd (A.fieldAddr 3 j) fun k =>
 bnd (A.store 1 k (.bool e) h) fun m =>
 kn x3 x0 m
theorem eparA : E43 C L h K 510 [3,0] [] (r2 3 0 x3 x0)=parA h x0 x3 (N2 K 3 0) := by kernel_rfl
noncomputable def parB (kn : K2 β) : O β :=
 bnd (A.bin prog .and 5 x3 (.int .u8 64)) fun c =>
 bnd (A.bin prog .gtr 5 c (.int .u8 0)) fun d =>
 toBK d fun e =>
 bnd (A.nilCheck x0) fun f =>
 bnd (A.fieldAddr 2 f) fun i =>
 bnd (A.fieldAddr 17 i) fun j =>
 bnd (A.store 1 j (.bool e) h) fun l =>
 kn x3 x0 l
theorem eparB : E43 C L h K 1022 [3,0] [] (r2 3 0 x3 x0)=parB h x0 x3 (N2 K 3 0) := by kernel_rfl
noncomputable def parC (kn : K1 β) : O β :=
 bnd (A.bin prog .and 5 x3 (.int .u8 128)) fun c =>
 bnd (A.bin prog .gtr 5 c (.int .u8 0)) fun d =>
 toBK d fun e =>
 bnd (A.nilCheck x0) fun f =>
 bnd (A.fieldAddr 2 f) fun i =>
 bnd (A.fieldAddr 16 i) fun j =>
 bnd (A.store 1 j (.bool e) h) fun l =>
 kn x0 l
theorem eparC : E43 C L h K 2046 [0] [] (r2 3 0 x3 x0)=parC h x0 x3 (N1 K 0) := by kernel_rfl
noncomputable def parD (kn : K1 β) : O β :=
 bnd (A.nilCheck x0) fun c =>
 bnd (A.fieldAddr 0 c) fun d =>
 bnd2 (C 46 [d] h) fun e f =>
 bnd (A.nilCheck x0) fun i =>
 bnd (A.fieldAddr 2 i) fun j =>
 bnd (A.fieldAddr 9 j) fun k =>
 bnd (A.store 1 k e f) fun m =>
 kn x0 m
theorem eparD : E43 C L h K 4094 [0] [] (r1 0 x0)=parD C h x0 (N1 K 0) := by kernel_rfl
noncomputable def parE (kn : K1 β) : O β :=
 bnd (A.nilCheck x0) fun c =>
 bnd (A.fieldAddr 0 c) fun d =>
 bnd2 (C 45 [d] h) fun e f =>
 bnd (A.nilCheck x0) fun i =>
 bnd (A.fieldAddr 2 i) fun j =>
 bnd (A.fieldAddr 10 j) fun k =>
 bnd (A.store 1 k e f) fun m =>
 kn x0 m
theorem eparE : E43 C L h K 8190 [0] [] (r1 0 x0)=parE C h x0 (N1 K 0) := by kernel_rfl
noncomputable def panF (kn : K1 β) : O β :=
 bnd (A.nilCheck x0) fun b =>
 bnd (A.fieldAddr 2 b) fun c =>
 bnd (A.fieldAddr 11 c) fun d =>
 bnd (A.load false 1 d h) fun e =>
 toBK e fun f =>
 (bif f then
 bnd (A.nilCheck x0) fun k =>
 bnd (A.fieldAddr 0 k) fun l =>
 bnd2 (C 45 [l] h) fun m n =>
 bnd (A.nilCheck x0) fun o =>
 bnd (A.fieldAddr 2 o) fun p =>
 bnd (A.fieldAddr 12 p) fun q =>
 bnd (A.fieldAddr 0 q) fun r =>
 bnd (A.store 1 r m n) fun t =>
 bnd (A.nilCheck x0) fun w =>
 bnd (A.fieldAddr 0 w) fun y =>
 bnd2 (C 57 [y] t) fun z a1 =>
 bnd (A.nilCheck x0) fun b1 =>
 bnd (A.fieldAddr 2 b1) fun c1 =>
 bnd (A.fieldAddr 12 c1) fun d1 =>
 bnd (A.fieldAddr 1 d1) fun e1 =>
 bnd (A.store 1 e1 z a1) fun i1 =>
 kn x0 i1
 else
 kn x0 h)
theorem epanF : E43 C L h K 16382 [0] [] (r1 0 x0)=panF C h x0 (N1 K 0) := by kernel_rfl
noncomputable def paiH (C : CF) (L : Nat) {β : Type} (x0 : V) (h : H) (kn : K0 β) : O β :=
 bnd (A.nilCheck x0) fun b =>
 bnd (A.fieldAddr 2 b) fun c =>
 bnd (A.fieldAddr 16 c) fun d =>
 bnd (A.load false 1 d h) fun e =>
 toBK e fun f =>
 (bif f then
 bnd (A.nilCheck x0) fun k =>
 bnd (A.fieldAddr 0 k) fun l =>
 bnd2 (C 45 [l] h) fun m n =>
 bnd (A.nilCheck x0) fun o =>
 bnd (A.fieldAddr 2 o) fun p =>
 bnd (A.fieldAddr 18 p) fun q =>
 bnd (A.store 1 q m n) fun s =>
 bnd (A.nilCheck x0) fun u =>
 bnd (A.fieldAddr 2 u) fun v =>
 bnd (A.fieldAddr 17 v) fun w =>
 bnd (A.load false 1 w s) fun y =>
 toBK y fun z =>
 (bif z then
 bnd (A.nilCheck x0) fun c1 =>
 bnd (A.fieldAddr 0 c1) fun d1 =>
 bnd2 (C 57 [d1] s) fun e1 f1 =>
 bnd (A.nilCheck x0) fun i1 =>
 bnd (A.fieldAddr 2 i1) fun j1 =>
 bnd (A.fieldAddr 19 j1) fun k1 =>
 bnd (A.store 1 k1 e1 f1) fun m1 =>
 kn m1
 else
 kn s)
 else
 bnd (A.nilCheck x0) fun o1 =>
 bnd (A.fieldAddr 2 o1) fun p1 =>
 bnd (A.fieldAddr 17 p1) fun q1 =>
 bnd (A.load false 1 q1 h) fun r1 =>
 toBK r1 fun s1 =>
 (bif s1 then
 bnd (A.nilCheck x0) fun v1 =>
 bnd (A.fieldAddr 0 v1) fun w1 =>
 bnd2 (C 57 [w1] h) fun y1 z1 =>
 bnd (A.nilCheck x0) fun a2 =>
 bnd (A.fieldAddr 2 a2) fun b2 =>
 bnd (A.fieldAddr 19 b2) fun c2 =>
 bnd (A.store 1 c2 y1 z1) fun e2 =>
 kn e2
 else
 kn h))
theorem epaiH : E43 C L h K 16383 [] [] (r1 0 x0)=paiH C L x0 h (N0 K) := by kernel_rfl
noncomputable def pafL (C : CF) (L : Nat) {β : Type} (x0 : V) (h : H) (kn : K0 β) : O β :=
 panF C h x0 (fun x0 h=>paiH C L x0 h kn)
def epafL:=(sq K (epanF C L h _ x0) (congrArg _ (w1 fun x0 h=>sn (epaiH ..))) (by kernel_rfl) : _=pafL C L x0 h (N0 K))
noncomputable def padV (C : CF) (L : Nat) {β : Type} (x0 : V) (h : H) (kn : K0 β) : O β :=
 parD C h x0 (fun x0 h=>parE C h x0 (fun x0 h=>pafL C L x0 h kn))
def epadV:=(sq K (eparD C L h _ x0) (congrArg _ (w1 fun x0 h=>sn (sq K (eparE C L h _ x0) (congrArg _ (w1 fun x0 h=>sn (epafL ..))) (by kernel_rfl)))) (by kernel_rfl) : _=padV C L x0 h (N0 K))
noncomputable def p43a (C : CF) (L : Nat) {β : Type} (x0 : V) (h : H) (kn : K0 β) : O β :=
 paqU C h x0 (fun x2 x0 h=>paqV C h x0 x2 (fun x2 x0 h=>paqW C h x0 x2 (fun x2 x3 x0 h=>pakL C L x2 x3 x0 h (fun x3 x0 h=>paqX h x0 x3 (fun x3 x0 h=>paqY h x0 x3 (fun x3 x0 h=>paqZ h x0 x3 (fun x3 x0 h=>parA h x0 x3 (fun x3 x0 h=>parB h x0 x3 (fun x3 x0 h=>parC h x0 x3 (fun x0 h=>padV C L x0 h kn))))))))))
def ep43a:=(sq K (epaqU C L h _ x0) (congrArg _ (w2 fun x2 x0 h=>sn (sq K (epaqV C L h _ x0 x2) (congrArg _ (w2 fun x2 x0 h=>sn (sq K (epaqW C L h _ x0 x2) (congrArg _ (w3 fun x2 x3 x0 h=>sn (sq K (epakL C L h _ x0 x2 x3) (congrArg _ (w2 fun x3 x0 h=>sn (sq K (epaqX C L h _ x0 x3) (congrArg _ (w2 fun x3 x0 h=>sn (sq K (epaqY C L h _ x0 x3) (congrArg _ (w2 fun x3 x0 h=>sn (sq K (epaqZ C L h _ x0 x3) (congrArg _ (w2 fun x3 x0 h=>sn (sq K (eparA C L h _ x0 x3) (congrArg _ (w2 fun x3 x0 h=>sn (sq K (eparB C L h _ x0 x3) (congrArg _ (w2 fun x3 x0 h=>sn (sq K (eparC C L h _ x0 x3) (congrArg _ (w1 fun x0 h=>sn (epadV ..))) (by kernel_rfl)))) (by kernel_rfl)))) (by kernel_rfl)))) (by kernel_rfl)))) (by kernel_rfl)))) (by kernel_rfl)))) (by kernel_rfl)))) (by kernel_rfl)))) (by kernel_rfl)))) (by kernel_rfl) : _=p43a C L x0 h (N0 K))
noncomputable def F43 (C : CF) (L : Nat) (x0 : V) (h : H) : O (V × H) :=
 p43a C L x0 h (fun h=>some (.tuple ⟨[]⟩,h))
theorem F43eq (Q : Orc) (n : Nat) (x0 : V) (h : H) (q : Q 43 [x0]=none) : callO prog 2 Q (n + 1) 43 [x0] h=F43 (callO prog 2 Q n) n x0 h :=
 (tp q Tryd.func43 (ep43a (callO prog 2 Q n) n h _ x0) (by kernel_rfl)).trans (by kernel_rfl)
noncomputable def c44a : Code := (Tryd.f44.body).getD .skip
noncomputable abbrev E44 (C : CF) (L : Nat) {β : Type} (h : H) (K : KK β) (n : Nat) (o : List Nat) (v : List (Nat × List Nat)) (r : T Value) : O β := execK prog C L 2 26 [2] (g c44a n) o v r h K
noncomputable def p44a (kr : K1 β) : O β :=
 bnd (A.nilCheck x0) fun c =>
 bnd (A.fieldAddr 0 c) fun d =>
 bnd (A.load false 1 d h) fun e =>
 bnd (A.bin prog .eql 9 e (.string ⟨⟨[]⟩⟩)) fun f =>
 toBK f fun i =>
 (bif i then
 bnd (A.nilCheck x0) fun k =>
 bnd (A.fieldAddr 1 k) fun l =>
 bnd (A.store 1 l (.bool true) h) fun n =>
 kr (.int .u8 0) n
 else
 bnd (A.nilCheck x0) fun q =>
 bnd (A.fieldAddr 0 q) fun r =>
 bnd (A.load false 1 r h) fun s =>
 bnd (A.indexStr s (.int .i64 0)) fun t =>
 bnd (A.nilCheck x0) fun y =>
 bnd (A.fieldAddr 0 y) fun z =>
 bnd (A.load false 1 z h) fun a1 =>
 bnd (A.sliceStr a1 (some (.int .i64 1)) none) fun b1 =>
 bnd (A.nilCheck x0) fun c1 =>
 bnd (A.fieldAddr 0 c1) fun d1 =>
 bnd (A.store 1 d1 b1 h) fun f1 =>
 kr t f1)
theorem ep44a : E44 C L h K 1 [2] [] (r1 0 x0)=p44a h x0 (R1 K 2) := by kernel_rfl
noncomputable def F44 (C : CF) (L : Nat) (x0 : V) (h : H) : O (V × H) :=
 p44a h x0 (fun x2 h=>some (x2,h))
theorem F44eq (Q : Orc) (n : Nat) (x0 : V) (h : H) (q : Q 44 [x0]=none) : callO prog 2 Q (n + 1) 44 [x0] h=F44 (callO prog 2 Q n) n x0 h :=
 (tp q Tryd.func44 (ep44a (callO prog 2 Q n) n h _ x0) (by kernel_rfl)).trans (by kernel_rfl)
noncomputable def c45a : Code := (Tryd.f45.body).getD .skip
noncomputable abbrev E45 (C : CF) (L : Nat) {β : Type} (h : H) (K : KK β) (n : Nat) (o : List Nat) (v : List (Nat × List Nat)) (r : T Value) : O β := execK prog C L 2 36 [2] (g c45a n) o v r h K
noncomputable def p45a (kr : K1 β) : O β :=
 bnd (A.nilCheck x0) fun c =>
 bnd (A.fieldAddr 0 c) fun d =>
 bnd (A.load false 1 d h) fun e =>
 bnd2 (C 58 [e] h) fun f i =>
 bnd (A.extract 0 f) fun k =>
 bnd (A.extract 1 f) fun l =>
 bnd (A.extract 2 f) fun m =>
 bnd (A.nilCheck x0) fun s =>
 bnd (A.fieldAddr 1 s) fun t =>
 bnd (A.load false 1 t i) fun u =>
 toBK u fun v =>
 (bif v then
 bnd (A.nilCheck x0) fun z =>
 bnd (A.fieldAddr 1 z) fun a1 =>
 bnd (A.store 1 a1 (.bool true) i) fun c1 =>
 bnd (A.nilCheck x0) fun f1 =>
 bnd (A.fieldAddr 0 f1) fun i1 =>
 bnd (A.load false 1 i1 c1) fun j1 =>
 bnd (A.sliceStr j1 (some l) none) fun l1 =>
 bnd (A.nilCheck x0) fun m1 =>
 bnd (A.fieldAddr 0 m1) fun n1 =>
 bnd (A.store 1 n1 l1 c1) fun p1 =>
 kr k p1
 else
 bnd (A.bin prog .neq 31 m (.int .i64 0)) fun t1 =>
 toBK t1 fun u1 =>
 bnd (A.nilCheck x0) fun w1 =>
 bnd (A.fieldAddr 1 w1) fun y1 =>
 bnd (A.store 1 y1 (.bool u1) i) fun a2 =>
 bnd (A.nilCheck x0) fun d2 =>
 bnd (A.fieldAddr 0 d2) fun e2 =>
 bnd (A.load false 1 e2 a2) fun f2 =>
 bnd (A.sliceStr f2 (some l) none) fun j2 =>
 bnd (A.nilCheck x0) fun k2 =>
 bnd (A.fieldAddr 0 k2) fun l2 =>
 bnd (A.store 1 l2 j2 a2) fun n2 =>
 kr k n2)
theorem ep45a : E45 C L h K 1 [2] [] (r1 0 x0)=p45a C h x0 (R1 K 2) := by kernel_rfl
noncomputable def F45 (C : CF) (L : Nat) (x0 : V) (h : H) : O (V × H) :=
 p45a C h x0 (fun x2 h=>some (x2,h))
theorem F45eq (Q : Orc) (n : Nat) (x0 : V) (h : H) (q : Q 45 [x0]=none) : callO prog 2 Q (n + 1) 45 [x0] h=F45 (callO prog 2 Q n) n x0 h :=
 (tp q Tryd.func45 (ep45a (callO prog 2 Q n) n h _ x0) (by kernel_rfl)).trans (by kernel_rfl)
noncomputable def c46a : Code := (Tryd.f46.body).getD .skip
noncomputable abbrev E46 (C : CF) (L : Nat) {β : Type} (h : H) (K : KK β) (n : Nat) (o : List Nat) (v : List (Nat × List Nat)) (r : T Value) : O β := execK prog C L 2 37 [2] (g c46a n) o v r h K
noncomputable def p46a (kr : K1 β) : O β :=
 bnd (A.nilCheck x0) fun c =>
 bnd (A.fieldAddr 0 c) fun d =>
 bnd (A.load false 1 d h) fun e =>
 bnd2 (C 59 [e] h) fun f i =>
 bnd (A.extract 0 f) fun k =>
 bnd (A.extract 1 f) fun l =>
 bnd (A.extract 2 f) fun m =>
 bnd (A.nilCheck x0) fun s =>
 bnd (A.fieldAddr 1 s) fun t =>
 bnd (A.load false 1 t i) fun u =>
 toBK u fun v =>
 (bif v then
 bnd (A.nilCheck x0) fun z =>
 bnd (A.fieldAddr 1 z) fun a1 =>
 bnd (A.store 1 a1 (.bool true) i) fun c1 =>
 bnd (A.nilCheck x0) fun f1 =>
 bnd (A.fieldAddr 0 f1) fun i1 =>
 bnd (A.load false 1 i1 c1) fun j1 =>
 bnd (A.sliceStr j1 (some l) none) fun l1 =>
 bnd (A.nilCheck x0) fun m1 =>
 bnd (A.fieldAddr 0 m1) fun n1 =>
 bnd (A.store 1 n1 l1 c1) fun p1 =>
 bnd (A.conv prog 3 25 k) fun r1 =>
 kr r1 p1
 else
 bnd (A.bin prog .neq 31 m (.int .i64 0)) fun u1 =>
 toBK u1 fun v1 =>
 bnd (A.nilCheck x0) fun y1 =>
 bnd (A.fieldAddr 1 y1) fun z1 =>
 bnd (A.store 1 z1 (.bool v1) i) fun b2 =>
 bnd (A.nilCheck x0) fun e2 =>
 bnd (A.fieldAddr 0 e2) fun f2 =>
 bnd (A.load false 1 f2 b2) fun i2 =>
 bnd (A.sliceStr i2 (some l) none) fun k2 =>
 bnd (A.nilCheck x0) fun l2 =>
 bnd (A.fieldAddr 0 l2) fun m2 =>
 bnd (A.store 1 m2 k2 b2) fun o2 =>
 bnd (A.conv prog 3 25 k) fun q2 =>
 kr q2 o2)
theorem ep46a : E46 C L h K 1 [2] [] (r1 0 x0)=p46a C h x0 (R1 K 2) := by kernel_rfl
noncomputable def F46 (C : CF) (L : Nat) (x0 : V) (h : H) : O (V × H) :=
 p46a C h x0 (fun x2 h=>some (x2,h))
theorem F46eq (Q : Orc) (n : Nat) (x0 : V) (h : H) (q : Q 46 [x0]=none) : callO prog 2 Q (n + 1) 46 [x0] h=F46 (callO prog 2 Q n) n x0 h :=
 (tp q Tryd.func46 (ep46a (callO prog 2 Q n) n h _ x0) (by kernel_rfl)).trans (by kernel_rfl)
noncomputable def c47a : Code := (Tryd.f47.body).getD .skip
noncomputable abbrev E47 (C : CF) (L : Nat) {β : Type} (h : H) (K : KK β) (n : Nat) (o : List Nat) (v : List (Nat × List Nat)) (r : T Value) : O β := execK prog C L 2 12 [2] (g c47a n) o v r h K
noncomputable def p47a (kr : K1 β) : O β :=
 bnd (A.nilCheck x0) fun c =>
 bnd (A.fieldAddr 0 c) fun d =>
 bnd (A.load false 1 d h) fun e =>
 bnd (A.nilCheck x0) fun j =>
 bnd (A.fieldAddr 0 j) fun k =>
 bnd (A.store 1 k (.string ⟨⟨[]⟩⟩) h) fun m =>
 kr e m
theorem ep47a : E47 C L h K 1 [2] [] (r1 0 x0)=p47a h x0 (R1 K 2) := by kernel_rfl
noncomputable def F47 (C : CF) (L : Nat) (x0 : V) (h : H) : O (V × H) :=
 p47a h x0 (fun x2 h=>some (x2,h))
theorem F47eq (Q : Orc) (n : Nat) (x0 : V) (h : H) (q : Q 47 [x0]=none) : callO prog 2 Q (n + 1) 47 [x0] h=F47 (callO prog 2 Q n) n x0 h :=
 (tp q Tryd.func47 (ep47a (callO prog 2 Q n) n h _ x0) (by kernel_rfl)).trans (by kernel_rfl)
noncomputable def c48a : Code := (Tryd.f48.body).getD .skip
noncomputable abbrev E48 (C : CF) (L : Nat) {β : Type} (h : H) (K : KK β) (n : Nat) (o : List Nat) (v : List (Nat × List Nat)) (r : T Value) : O β := execK prog C L 2 63 [] (g c48a n) o v r h K
noncomputable def pakM (kn : K2 β) : O β :=
 bnd (A.nilCheck x0) fun b =>
 bnd (A.fieldAddr 2 b) fun c =>
 bnd (A.fieldAddr 0 c) fun d =>
 bnd (A.load false 1 d h) fun e =>
 kn e x0 h
theorem epakM : E48 C L h K 2 [7,0] [] (r1 0 x0)=pakM h x0 (N2 K 7 0) := by kernel_rfl
noncomputable def pakN (kn : K3 β) : O β :=
 bnd (A.bin prog .eql 5 x7 (.int .u8 9)) fun a =>
 toBK a fun b =>
 kn (.bool b) x7 x0 h
theorem epakN : E48 C L h K 12 [8,7,0] [(0,[])] (r2 7 0 x7 x0)=pakN h x0 x7 (N3 K 8 7 0) := by kernel_rfl
noncomputable def parG (kn : K0 β) : O β :=
 bnd (A.nilCheck x0) fun c =>
 bnd (A.fieldAddr 0 c) fun d =>
 bnd2 (C 47 [d] h) fun e f =>
 bnd (A.nilCheck x0) fun i =>
 bnd (A.fieldAddr 2 i) fun j =>
 bnd (A.fieldAddr 23 j) fun k =>
 bnd (A.store 1 k e f) fun m =>
 kn m
theorem eparG : E48 C L h K 26 [] [(0,[])] (r3 8 7 0 x8 x7 x0)=parG C h x0 (N0 K) := by kernel_rfl
noncomputable def pamF (kn : K2 β) : O β :=
 bnd (A.bin prog .eql 5 x7 (.int .u8 8)) fun a =>
 toBK a fun b =>
 (bif b then
 kn (.bool b) x0 h
 else
 bnd (A.bin prog .eql 5 x7 (.int .u8 10)) fun d =>
 toBK d fun e =>
 kn (.bool e) x0 h)
theorem epamF : E48 C L h K 54 [18,0] [(0,[])] (r3 8 7 0 x8 x7 x0)=pamF h x0 x7 (N2 K 18 0) := by kernel_rfl
noncomputable def pahS (kx1 : K0 β) (kn : K1 β) : O β :=
 bnd (A.nilCheck x0) fun b =>
 bnd (A.fieldAddr 0 b) fun c =>
 bnd (A.fieldAddr 0 c) fun d =>
 bnd (A.load false 1 d h) fun e =>
 bnd (A.bin prog .neq 9 e (.string ⟨⟨[]⟩⟩)) fun f =>
 toBK f fun i =>
 (bif i then
 bnd (A.nilCheck x0) fun l =>
 bnd (A.fieldAddr 0 l) fun m =>
 bnd (A.fieldAddr 1 m) fun n =>
 bnd (A.load false 1 n h) fun o =>
 toBK o fun p =>
 bnd (A.un prog .not (.bool p)) fun q =>
 toBK q fun r =>
 (bif r then
 kn x0 h
 else
 kx1 h)
 else
 kx1 h)
theorem epahS : E48 C L h K 880 [0] [(1,[]),(0,[])] (r1 0 x0)=pahS h x0 (X0 K 1) (N1 K 0) := by kernel_rfl
noncomputable def panG (kn : K2 β) : O β :=
 bnd (A.nilCheck x0) fun b =>
 bnd (A.fieldAddr 0 b) fun c =>
 bnd2 (C 45 [c] h) fun d e =>
 bnd (A.build Z43L [(0,1,d)]) fun f =>
 bnd2 (A.box 2 Z43 e) fun i j =>
 bnd (A.store 2 i f j) fun l =>
 kn i x0 l
theorem epanG : E48 C L h K 3524 [2,0] [(2,[0]),(1,[]),(0,[])] (r1 0 x0)=panG C h x0 (N2 K 2 0) := by kernel_rfl
noncomputable def panH (kn : K2 β) : O β :=
 bnd (A.nilCheck x0) fun b =>
 bnd (A.fieldAddr 2 b) fun c =>
 bnd (A.fieldAddr 0 c) fun d =>
 bnd (A.load false 1 d h) fun e =>
 bnd (A.bin prog .eql 5 e (.int .u8 8)) fun f =>
 toBK f fun i =>
 (bif i then
 bnd (A.nilCheck x0) fun k =>
 bnd (A.fieldAddr 0 k) fun l =>
 bnd2 (C 44 [l] h) fun m n =>
 bnd (A.fieldAddr 1 x2) fun o =>
 bnd (A.store 1 o m n) fun q =>
 kn x2 x0 q
 else
 kn x2 x0 h)
theorem epanH : E48 C L h K 7050 [2,0] [(2,[0]),(1,[]),(0,[])] (r2 2 0 x2 x0)=panH C h x0 x2 (N2 K 2 0) := by kernel_rfl
noncomputable def panI (kn : K1 β) : O β :=
 bnd (A.nilCheck x0) fun c =>
 bnd (A.fieldAddr 2 c) fun d =>
 bnd (A.fieldAddr 22 d) fun e =>
 bnd (A.load false 1 e h) fun f =>
 bnd (A.load true 2 x2 h) fun i =>
 bnd2 (A.buildSlice 2 1 Z43L [(0,2,i)] h) fun j k =>
 bnd2 (A.append 2 24 f j k) fun l m =>
 bnd (A.nilCheck x0) fun n =>
 bnd (A.fieldAddr 2 n) fun o =>
 bnd (A.fieldAddr 22 o) fun p =>
 bnd (A.store 1 p l m) fun r =>
 kn x0 r
theorem epanI : E48 C L h K 7051 [0] [(2,[0]),(1,[]),(0,[])] (r2 2 0 x2 x0)=panI h x0 x2 (N1 K 0) := by kernel_rfl
noncomputable def pafA (kn : K1 β) : O β :=
 panG C h x0 (fun x2 x0 h=>panH C h x0 x2 (fun x2 x0 h=>panI h x0 x2 kn))
def epafA:=(sq K (epanG C L h _ x0) (congrArg _ (w2 fun x2 x0 h=>sn (sq K (epanH C L h _ x0 x2) (congrArg _ (w2 fun x2 x0 h=>sn (epanI ..))) (by kernel_rfl)))) (by kernel_rfl) : _=pafA C h x0 (N1 K 0))
noncomputable def padM (kx1 : K0 β) (kn : K1 β) : O β :=
 pahS h x0 kx1 (fun x0 h=>pafA C h x0 kn)
def epadM:=(sq K (epahS C L h _ x0) (congrArg _ (w1 fun x0 h=>sn (bk (epafA ..)))) (by kernel_rfl) : _=padM C h x0 (X0 K 1) (N1 K 0))
noncomputable def pagT (C : CF) (L : Nat) {β : Type} (kx1 : K0 β) : Nat → K1 β
 | 0,_,_ => none
 | n + 1,x0,h => padM C h x0 kx1 (fun x0 h=>pagT C L kx1 n x0 h)
theorem epagT (C : CF) (L : Nat) {β : Type} (K : KK β) : ∀ (n : Nat) (x0 : V) (h : H),loopK (fun fr h K=>execK prog C L 2 63 [] (g c48a 440) [0] [(1,[]),(0,[])] fr h K) n (r1 0 x0) h K=pagT C L (X0 K 1) n x0 h
 | 0,_,_ => rfl
 | n + 1,x0,h => (cg (epadM C L h _ x0) (by kernel_rfl)).trans (congrArg _ (w1 fun x0 h=>sl (epagT C L K n x0 h)))
noncomputable def pacN (kx1 : K0 β) : O β :=
 pagT C L kx1 L x0 h
def epacN:=(lp [] (r2 18 0 x18 x0) (epagT C L K L x0 h) (by kernel_rfl) : _=pacN C L h x0 (X0 K 1))
noncomputable def parF (kn : K0 β) : O β :=
 kn h
theorem eparF : E48 C L h K 111 [] [(0,[])] (r2 18 0 x18 x0)=parF h (N0 K) := by kernel_rfl
noncomputable def pabX (kn : K0 β) : O β :=
 condV x18 (pacN C L h x0 kn) (parF h kn)
def epabX:=(cd K (.tmp 18) x18 (bk (epacN C L h _ x0 x18)) (eparF C L h K x0 x18) (by kernel_rfl) : _=pabX C L h x0 x18 (N0 K))
noncomputable def pabO (kn : K0 β) : O β :=
 pamF h x0 x7 (fun x18 x0 h=>pabX C L h x0 x18 kn)
def epabO:=(sq K (epamF C L h _ x0 x7 x8) (congrArg _ (w2 fun x18 x0 h=>sn (epabX ..))) (by kernel_rfl) : _=pabO C L h x0 x7 (N0 K))
noncomputable def pabF (kn : K0 β) : O β :=
 condV x8 (parG C h x0 kn) (pabO C L h x0 x7 kn)
def epabF:=(cd K (.tmp 8) x8 (eparG C L h K x0 x7 x8) (epabO C L h K x0 x7 x8) (by kernel_rfl) : _=pabF C L h x0 x7 x8 (N0 K))
noncomputable def paaZ (kn : K0 β) : O β :=
 pakN h x0 x7 (fun x8 x7 x0 h=>pabF C L h x0 x7 x8 kn)
def epaaZ:=(sq K (epakN C L h _ x0 x7) (congrArg _ (w3 fun x8 x7 x0 h=>sn (epabF ..))) (by kernel_rfl) : _=paaZ C L h x0 x7 (N0 K))
noncomputable def p48a (kn : K0 β) : O β :=
 pakM h x0 (fun x7 x0 h=>paaZ C L h x0 x7 kn)
def ep48a:=(sq K (epakM C L h _ x0) (congrArg _ (w2 fun x7 x0 h=>sn (bk (epaaZ ..)))) (by kernel_rfl) : _=p48a C L h x0 (N0 K))
noncomputable def F48 (C : CF) (L : Nat) (x0 : V) (h : H) : O (V × H) :=
 p48a C L h x0 (fun h=>some (.tuple ⟨[]⟩,h))
theorem F48eq (Q : Orc) (n : Nat) (x0 : V) (h : H) (q : Q 48 [x0]=none) : callO prog 2 Q (n + 1) 48 [x0] h=F48 (callO prog 2 Q n) n x0 h :=
 (tp q Tryd.func48 (ep48a (callO prog 2 Q n) n h _ x0) (by kernel_rfl)).trans (by kernel_rfl)
noncomputable def c54a : Code := (Tryd.f54.body).getD .skip
noncomputable abbrev E54 (C : CF) (L : Nat) {β : Type} (h : H) (K : KK β) (n : Nat) (o : List Nat) (v : List (Nat × List Nat)) (r : T Value) : O β := execK prog C L 2 31 [2] (g c54a n) o v r h K
noncomputable def panJ (kn : K1 β) : O β :=
 kn x0 h
theorem epanJ : E54 C L h K 2 [0] [] (r1 0 x0)=panJ h x0 (N1 K 0) := by kernel_rfl
noncomputable def panK (kr kn : K1 β) : O β :=
 bnd (A.lenStr x0) fun b =>
 bnd (A.bin prog .gtr 3 b (.int .i64 65535)) fun c =>
 toBK c fun d =>
 (bif d then
 kr (.int .i64 (-1)) h
 else
 kn x0 h)
theorem epanK : E54 C L h K 6 [0] [] (r1 0 x0)=panK h x0 (R1 K 2) (N1 K 0) := by kernel_rfl
noncomputable def parH (kn : K2 β) : O β :=
 kn x0 (.int .i64 0) h
theorem eparH : E54 C L h K 14 [0,3] [] (r1 0 x0)=parH h x0 (N2 K 0 3) := by kernel_rfl
noncomputable def parI (kn : K3 β) : O β :=
 bnd2 (A.rangeS x0 h) fun b c =>
 kn b x0 x3 c
theorem eparI : E54 C L h K 60 [10,0,3] [] (r2 0 3 x0 x3)=parI h x0 x3 (N3 K 10 0 3) := by kernel_rfl
noncomputable def paiI (kn : K5 β) : O β :=
 bnd2 (A.nextS x10 h) fun a b =>
 bnd (A.extract 0 a) fun c =>
 toBK c fun d =>
 kn (.bool d) x0 x10 a x3 b
theorem epaiI : E54 C L h K 488 [12,0,10,11,3] [(0,[3])] (r3 10 0 3 x10 x0 x3)=paiI h x0 x3 x10 (N5 K 12 0 10 11 3) := by kernel_rfl
noncomputable def paiJ (kx0 : K1 β) (kn : K4 β) : O β :=
 condV x12 (
 kn x11 x3 x10 x0 h) (
 kx0 x3 h)
theorem epaiJ : E54 C L h K 978 [11,3,10,0] [(0,[3])] (r5 12 0 10 11 3 x12 x0 x10 x11 x3)=paiJ h x0 x3 x10 x11 x12 (X1 K 0 3) (N4 K 11 3 10 0) := by kernel_rfl
noncomputable def pakO (kn : K5 β) : O β :=
 bnd (A.extract 1 x11) fun a =>
 bnd (A.extract 2 x11) fun b =>
 kn b a x3 x10 x0 h
theorem epakO : E54 C L h K 3916 [5,4,3,10,0] [(1,[10,0,3]),(0,[3])] (r4 11 3 10 0 x11 x3 x10 x0)=pakO h x0 x3 x10 x11 (N5 K 5 4 3 10 0) := by kernel_rfl
noncomputable def pakP (kn : K4 β) : O β :=
 bnd (A.bin prog .eql 21 x5 (.int .i32 0)) fun b =>
 toBK b fun c =>
 (bif c then
 kn (.bool true) x3 x10 x0 h
 else
 bnd (A.bin prog .eql 21 x5 (.int .i32 65533)) fun i =>
 toBK i fun j =>
 (bif j then
 bnd (A.sliceStr x0 (some x4) none) fun n =>
 bnd2 (C 61 [n] h) fun o p =>
 toBK o fun q =>
 bnd (A.un prog .not (.bool q)) fun r =>
 toBK r fun s =>
 kn (.bool s) x3 x10 x0 p
 else
 kn (.bool false) x3 x10 x0 h))
theorem epakP : E54 C L h K 15668 [27,3,10,0] [(1,[10,0,3]),(0,[3])] (r5 5 4 3 10 0 x5 x4 x3 x10 x0)=pakP C h x0 x3 x4 x5 x10 (N4 K 27 3 10 0) := by kernel_rfl
noncomputable def pakQ (kr : K1 β) (kn : K3 β) : O β :=
 condV x27 (
 kr (.int .i64 (-1)) h) (
 kn x3 x10 x0 h)
theorem epakQ : E54 C L h K 15669 [3,10,0] [(1,[10,0,3]),(0,[3])] (r4 27 3 10 0 x27 x3 x10 x0)=pakQ h x0 x3 x10 x27 (R1 K 2) (N3 K 3 10 0) := by kernel_rfl
noncomputable def pafM (kr : K1 β) (kn : K3 β) : O β :=
 pakP C h x0 x3 x4 x5 x10 (fun x27 x3 x10 x0 h=>pakQ h x0 x3 x10 x27 kr kn)
def epafM:=(sq K (epakP C L h _ x0 x3 x4 x5 x10) (congrArg _ (w4 fun x27 x3 x10 x0 h=>sn (epakQ ..))) (by kernel_rfl) : _=pafM C h x0 x3 x4 x5 x10 (R1 K 2) (N3 K 3 10 0))
noncomputable def panL (kn : K3 β) : O β :=
 bnd (A.bin prog .add 3 x3 (.int .i64 1)) fun b =>
 kn x10 x0 b h
theorem epanL : E54 C L h K 7835 [10,0,3] [(1,[10,0,3]),(0,[3])] (r3 3 10 0 x3 x10 x0)=panL h x0 x3 x10 (N3 K 10 0 3) := by kernel_rfl
noncomputable def padN (kr : K1 β) (kn : K3 β) : O β :=
 pakO h x0 x3 x10 x11 (fun x5 x4 x3 x10 x0 h=>pafM C h x0 x3 x4 x5 x10 kr (fun x3 x10 x0 h=>panL h x0 x3 x10 kn))
def epadN:=(sq K (epakO C L h _ x0 x3 x10 x11) (congrArg _ (w5 fun x5 x4 x3 x10 x0 h=>sn (sq K (epafM C L h _ x0 x3 x4 x5 x10) (congrArg _ (w3 fun x3 x10 x0 h=>sn (epanL ..))) (by kernel_rfl)))) (by kernel_rfl) : _=padN C h x0 x3 x10 x11 (R1 K 2) (N3 K 10 0 3))
noncomputable def pacA (kr kx0 : K1 β) (kn : K3 β) : O β :=
 paiI h x0 x3 x10 (fun x12 x0 x10 x11 x3 h=>paiJ h x0 x3 x10 x11 x12 kx0 (fun x11 x3 x10 x0 h=>padN C h x0 x3 x10 x11 kr kn))
def epacA:=(sq K (epaiI C L h _ x0 x3 x10) (congrArg _ (w5 fun x12 x0 x10 x11 x3 h=>sn (sq K (epaiJ C L h _ x0 x3 x10 x11 x12) (congrArg _ (w4 fun x11 x3 x10 x0 h=>sn (bk (epadN ..)))) (by kernel_rfl)))) (by kernel_rfl) : _=pacA C h x0 x3 x10 (R1 K 2) (X1 K 0 3) (N3 K 10 0 3))
noncomputable def pagU (C : CF) (L : Nat) {β : Type} (kr kx0 : K1 β) : Nat → K3 β
 | 0,_,_,_,_ => none
 | n + 1,x10,x0,x3,h => pacA C h x0 x3 x10 kr kx0 (fun x10 x0 x3 h=>pagU C L kr kx0 n x10 x0 x3 h)
theorem epagU (C : CF) (L : Nat) {β : Type} (K : KK β) : ∀ (n : Nat) (x10 x0 x3 : V) (h : H),loopK (fun fr h K=>execK prog C L 2 31 [2] (g c54a 244) [10,0,3] [(0,[3])] fr h K) n (r3 10 0 3 x10 x0 x3) h K=pagU C L (R1 K 2) (X1 K 0 3) n x10 x0 x3 h
 | 0,_,_,_,_ => rfl
 | n + 1,x10,x0,x3,h => (cg (epacA C L h _ x0 x3 x10) (by kernel_rfl)).trans (congrArg _ (w3 fun x10 x0 x3 h=>sl (epagU C L K n x10 x0 x3 h)))
noncomputable def pabN (kr kx0 : K1 β) : O β :=
 pagU C L kr kx0 L x10 x0 x3 h
def epabN:=(lp [3] (r3 10 0 3 x10 x0 x3) (epagU C L K L x10 x0 x3 h) (by kernel_rfl) : _=pabN C L h x0 x3 x10 (R1 K 2) (X1 K 0 3))
noncomputable def pabG (kr kn : K1 β) : O β :=
 parI h x0 x3 (fun x10 x0 x3 h=>pabN C L h x0 x3 x10 kr kn)
def epabG:=(sq K (eparI C L h _ x0 x3) (congrArg _ (w3 fun x10 x0 x3 h=>sn (bk (epabN ..)))) (by kernel_rfl) : _=pabG C L h x0 x3 (R1 K 2) (N1 K 3))
noncomputable def pakR (C : CF) (L : Nat) {β : Type} (x3 : V) (h : H) (kr : K1 β) : O β :=
 kr x3 h
theorem epakR : E54 C L h K 31 [2] [] (r1 3 x3)=pakR C L x3 h (R1 K 2) := by kernel_rfl
noncomputable def p54a (kr : K1 β) : O β :=
 panJ h x0 (fun x0 h=>panK h x0 kr (fun x0 h=>parH h x0 (fun x0 x3 h=>pabG C L h x0 x3 kr (fun x3 h=>pakR C L x3 h kr))))
def ep54a:=(sq K (epanJ C L h _ x0) (congrArg _ (w1 fun x0 h=>sn (sq K (epanK C L h _ x0) (congrArg _ (w1 fun x0 h=>sn (sq K (eparH C L h _ x0) (congrArg _ (w2 fun x0 x3 h=>sn (sq K (epabG C L h _ x0 x3) (congrArg _ (w1 fun x3 h=>sn (epakR ..))) (by kernel_rfl)))) (by kernel_rfl)))) (by kernel_rfl)))) (by kernel_rfl) : _=p54a C L h x0 (R1 K 2))
noncomputable def F54 (C : CF) (L : Nat) (x0 : V) (h : H) : O (V × H) :=
 p54a C L h x0 (fun x2 h=>some (x2,h))
theorem F54eq (Q : Orc) (n : Nat) (x0 : V) (h : H) (q : Q 54 [x0]=none) : callO prog 2 Q (n + 1) 54 [x0] h=F54 (callO prog 2 Q n) n x0 h :=
 (tp q Tryd.func54 (ep54a (callO prog 2 Q n) n h _ x0) (by kernel_rfl)).trans (by kernel_rfl)
noncomputable def c55a : Code := (Tryd.f55.body).getD .skip
noncomputable abbrev E55 (C : CF) (L : Nat) {β : Type} (h : H) (K : KK β) (n : Nat) (o : List Nat) (v : List (Nat × List Nat)) (r : T Value) : O β := execK prog C L 2 9 [4] (g c55a n) o v r h K
noncomputable def p55a (kr : K1 β) : O β :=
 bnd2 (C 62 [x0,x1] h) fun d e =>
 bnd (A.bin prog .geq 3 d (.int .i64 0)) fun f =>
 toBK f fun i =>
 kr (.bool i) e
theorem ep55a : E55 C L h K 1 [4] [] (r2 0 1 x0 x1)=p55a C h x0 x1 (R1 K 4) := by kernel_rfl
noncomputable def F55 (C : CF) (L : Nat) (x0 x1 : V) (h : H) : O (V × H) :=
 p55a C h x0 x1 (fun x4 h=>some (x4,h))
theorem F55eq (Q : Orc) (n : Nat) (x0 x1 : V) (h : H) (q : Q 55 [x0,x1]=none) : callO prog 2 Q (n + 1) 55 [x0,x1] h=F55 (callO prog 2 Q n) n x0 x1 h :=
 (tp q Tryd.func55 (ep55a (callO prog 2 Q n) n h _ x0 x1) (by kernel_rfl)).trans (by kernel_rfl)
noncomputable def c56a : Code := (Tryd.f56.body).getD .skip
noncomputable abbrev E56 (C : CF) (L : Nat) {β : Type} (h : H) (K : KK β) (n : Nat) (o : List Nat) (v : List (Nat × List Nat)) (r : T Value) : O β := execK prog C L 2 8 [4] (g c56a n) o v r h K
noncomputable def p56a (kr : K1 β) : O β :=
 bnd2 (C 63 [x0,x1,(.int .i64 0),(.int .i64 (-1))] h) fun d e =>
 kr d e
theorem ep56a : E56 C L h K 1 [4] [] (r2 0 1 x0 x1)=p56a C h x0 x1 (R1 K 4) := by kernel_rfl
noncomputable def F56 (C : CF) (L : Nat) (x0 x1 : V) (h : H) : O (V × H) :=
 p56a C h x0 x1 (fun x4 h=>some (x4,h))
theorem F56eq (Q : Orc) (n : Nat) (x0 x1 : V) (h : H) (q : Q 56 [x0,x1]=none) : callO prog 2 Q (n + 1) 56 [x0,x1] h=F56 (callO prog 2 Q n) n x0 x1 h :=
 (tp q Tryd.func56 (ep56a (callO prog 2 Q n) n h _ x0 x1) (by kernel_rfl)).trans (by kernel_rfl)
noncomputable def c57a : Code := (Tryd.f57.body).getD .skip
noncomputable abbrev E57 (C : CF) (L : Nat) {β : Type} (h : H) (K : KK β) (n : Nat) (o : List Nat) (v : List (Nat × List Nat)) (r : T Value) : O β := execK prog C L 2 36 [2] (g c57a n) o v r h K
noncomputable def p57a (kr : K1 β) : O β :=
 bnd (A.nilCheck x0) fun c =>
 bnd (A.fieldAddr 0 c) fun d =>
 bnd (A.load false 1 d h) fun e =>
 bnd2 (C 64 [e] h) fun f i =>
 bnd (A.extract 0 f) fun k =>
 bnd (A.extract 1 f) fun l =>
 bnd (A.extract 2 f) fun m =>
 bnd (A.nilCheck x0) fun s =>
 bnd (A.fieldAddr 1 s) fun t =>
 bnd (A.load false 1 t i) fun u =>
 toBK u fun v =>
 (bif v then
 bnd (A.nilCheck x0) fun z =>
 bnd (A.fieldAddr 1 z) fun a1 =>
 bnd (A.store 1 a1 (.bool true) i) fun c1 =>
 bnd (A.nilCheck x0) fun f1 =>
 bnd (A.fieldAddr 0 f1) fun i1 =>
 bnd (A.load false 1 i1 c1) fun j1 =>
 bnd (A.sliceStr j1 (some l) none) fun l1 =>
 bnd (A.nilCheck x0) fun m1 =>
 bnd (A.fieldAddr 0 m1) fun n1 =>
 bnd (A.store 1 n1 l1 c1) fun p1 =>
 kr k p1
 else
 bnd (A.bin prog .neq 31 m (.int .i64 0)) fun t1 =>
 toBK t1 fun u1 =>
 bnd (A.nilCheck x0) fun w1 =>
 bnd (A.fieldAddr 1 w1) fun y1 =>
 bnd (A.store 1 y1 (.bool u1) i) fun a2 =>
 bnd (A.nilCheck x0) fun d2 =>
 bnd (A.fieldAddr 0 d2) fun e2 =>
 bnd (A.load false 1 e2 a2) fun f2 =>
 bnd (A.sliceStr f2 (some l) none) fun j2 =>
 bnd (A.nilCheck x0) fun k2 =>
 bnd (A.fieldAddr 0 k2) fun l2 =>
 bnd (A.store 1 l2 j2 a2) fun n2 =>
 kr k n2)
theorem ep57a : E57 C L h K 1 [2] [] (r1 0 x0)=p57a C h x0 (R1 K 2) := by kernel_rfl
noncomputable def F57 (C : CF) (L : Nat) (x0 : V) (h : H) : O (V × H) :=
 p57a C h x0 (fun x2 h=>some (x2,h))
theorem F57eq (Q : Orc) (n : Nat) (x0 : V) (h : H) (q : Q 57 [x0]=none) : callO prog 2 Q (n + 1) 57 [x0] h=F57 (callO prog 2 Q n) n x0 h :=
 (tp q Tryd.func57 (ep57a (callO prog 2 Q n) n h _ x0) (by kernel_rfl)).trans (by kernel_rfl)
noncomputable def c58a : Code := (Tryd.f58.body).getD .skip
noncomputable abbrev E58 (C : CF) (L : Nat) {β : Type} (h : H) (K : KK β) (n : Nat) (o : List Nat) (v : List (Nat × List Nat)) (r : T Value) : O β := execK prog C L 2 21 [2,3,4] (g c58a n) o v r h K
noncomputable def p58a (kr : K3 β) : O β :=
 bnd2 (C 64 [x0] h) fun e f =>
 bnd (A.extract 0 e) fun j =>
 bnd (A.extract 1 e) fun k =>
 bnd (A.extract 2 e) fun l =>
 bnd (A.bin prog .eql 31 l (.int .i64 0)) fun q =>
 toBK q fun r =>
 (bif r then
 bnd2 (C 38 [j] f) fun u v =>
 toBK u fun w =>
 bnd (A.un prog .not (.bool w)) fun y =>
 toBK y fun z =>
 (bif z then
 kr (.string ⟨⟨[]⟩⟩) (.int .i64 0) (.int .i64 5) v
 else
 kr j k l v)
 else
 kr j k l f)
theorem ep58a : E58 C L h K 1 [2,3,4] [] (r1 0 x0)=p58a C h x0 (R3 K 2 3 4) := by kernel_rfl
noncomputable def F58 (C : CF) (L : Nat) (x0 : V) (h : H) : O (V × H) :=
 p58a C h x0 (fun x2 x3 x4 h=>some (.tuple ⟨[x2,x3,x4]⟩,h))
theorem F58eq (Q : Orc) (n : Nat) (x0 : V) (h : H) (q : Q 58 [x0]=none) : callO prog 2 Q (n + 1) 58 [x0] h=F58 (callO prog 2 Q n) n x0 h :=
 (tp q Tryd.func58 (ep58a (callO prog 2 Q n) n h _ x0) (by kernel_rfl)).trans (by kernel_rfl)
noncomputable def c59a : Code := (Tryd.f59.body).getD .skip
noncomputable abbrev E59 (C : CF) (L : Nat) {β : Type} (h : H) (K : KK β) (n : Nat) (o : List Nat) (v : List (Nat × List Nat)) (r : T Value) : O β := execK prog C L 2 16 [2,3,4] (g c59a n) o v r h K
noncomputable def p59a (kr : K3 β) : O β :=
 bnd (A.lenStr x0) fun e =>
 bnd (A.bin prog .lss 3 e (.int .i64 2)) fun f =>
 toBK f fun i =>
 (bif i then
 kr (.int .i64 0) (.int .i64 0) (.int .i64 2) h
 else
 bnd (A.indexStr x0 (.int .i64 0)) fun n =>
 bnd (A.conv prog 5 3 n) fun o =>
 bnd (A.bin prog .shl 3 o (.int .u64 8)) fun p =>
 bnd (A.indexStr x0 (.int .i64 1)) fun r =>
 bnd (A.conv prog 5 3 r) fun s =>
 bnd (A.bin prog .or 3 p s) fun t =>
 kr t (.int .i64 2) (.int .i64 0) h)
theorem ep59a : E59 C L h K 1 [2,3,4] [] (r1 0 x0)=p59a h x0 (R3 K 2 3 4) := by kernel_rfl
noncomputable def F59 (C : CF) (L : Nat) (x0 : V) (h : H) : O (V × H) :=
 p59a h x0 (fun x2 x3 x4 h=>some (.tuple ⟨[x2,x3,x4]⟩,h))
theorem F59eq (Q : Orc) (n : Nat) (x0 : V) (h : H) (q : Q 59 [x0]=none) : callO prog 2 Q (n + 1) 59 [x0] h=F59 (callO prog 2 Q n) n x0 h :=
 (tp q Tryd.func59 (ep59a (callO prog 2 Q n) n h _ x0) (by kernel_rfl)).trans (by kernel_rfl)
noncomputable def c61a : Code := (Tryd.f61.body).getD .skip
noncomputable abbrev E61 (C : CF) (L : Nat) {β : Type} (h : H) (K : KK β) (n : Nat) (o : List Nat) (v : List (Nat × List Nat)) (r : T Value) : O β := execK prog C L 2 12 [2] (g c61a n) o v r h K
noncomputable def p61a (kr : K1 β) : O β :=
 bnd2 (C 65 [x0] h) fun c d =>
 bnd (A.extract 0 c) fun f =>
 bnd (A.extract 1 c) fun i =>
 bnd (A.bin prog .gtr 3 i (.int .i64 1)) fun m =>
 toBK m fun n =>
 kr (.bool n) d
theorem ep61a : E61 C L h K 1 [2] [] (r1 0 x0)=p61a C h x0 (R1 K 2) := by kernel_rfl
noncomputable def F61 (C : CF) (L : Nat) (x0 : V) (h : H) : O (V × H) :=
 p61a C h x0 (fun x2 h=>some (x2,h))
theorem F61eq (Q : Orc) (n : Nat) (x0 : V) (h : H) (q : Q 61 [x0]=none) : callO prog 2 Q (n + 1) 61 [x0] h=F61 (callO prog 2 Q n) n x0 h :=
 (tp q Tryd.func61 (ep61a (callO prog 2 Q n) n h _ x0) (by kernel_rfl)).trans (by kernel_rfl)
noncomputable def c62a : Code := (Tryd.f62.body).getD .skip
noncomputable abbrev E62 (C : CF) (L : Nat) {β : Type} (h : H) (K : KK β) (n : Nat) (o : List Nat) (v : List (Nat × List Nat)) (r : T Value) : O β := execK prog C L 2 55 [4] (g c62a n) o v r h K
noncomputable def panM (kn : K2 β) : O β :=
 kn x0 x1 h
theorem epanM : E62 C L h K 2 [0,1] [] (r2 0 1 x0 x1)=panM h x0 x1 (N2 K 0 1) := by kernel_rfl
noncomputable def panN (kr : K1 β) (kn : K2 β) : O β :=
 bnd (A.bin prog .eql 9 x1 (.string ⟨⟨[]⟩⟩)) fun b =>
 toBK b fun c =>
 (bif c then
 kr (.int .i64 (-1)) h
 else
 kn x0 x1 h)
theorem epanN : E62 C L h K 6 [0,1] [] (r2 0 1 x0 x1)=panN h x0 x1 (R1 K 4) (N2 K 0 1) := by kernel_rfl
noncomputable def panO (kr : K1 β) (kn : K2 β) : O β :=
 bnd (A.lenStr x1) fun b =>
 bnd (A.bin prog .eql 3 b (.int .i64 1)) fun c =>
 toBK c fun d =>
 (bif d then
 bnd (A.indexStr x1 (.int .i64 0)) fun f =>
 bnd (A.conv prog 5 21 f) fun i =>
 bnd (A.bin prog .geq 21 i (.int .i32 128)) fun l =>
 toBK l fun m =>
 (bif m then
 bnd2 (C 66 [x0,(.int .i32 65533)] h) fun q r =>
 kr q r
 else
 bnd2 (C 66 [x0,i] h) fun v w =>
 kr v w)
 else
 kn x0 x1 h)
theorem epanO : E62 C L h K 14 [0,1] [] (r2 0 1 x0 x1)=panO C h x0 x1 (R1 K 4) (N2 K 0 1) := by kernel_rfl
noncomputable def panP (kn : K3 β) : O β :=
 bnd (A.lenStr x0) fun b =>
 bnd2 (C 67 [b] h) fun c d =>
 toBK c fun e =>
 kn (.bool e) x0 x1 d
theorem epanP : E62 C L h K 60 [26,0,1] [] (r2 0 1 x0 x1)=panP C h x0 x1 (N3 K 26 0 1) := by kernel_rfl
noncomputable def parM (kn : K4 β) : O β :=
 bnd2 (C 68 [x1] h) fun b c =>
 bnd (A.extract 0 b) fun e =>
 bnd (A.extract 1 b) fun f =>
 toBK f fun i =>
 bnd2 (A.box 256 Z105 c) fun j k =>
 bnd (A.store 256 j e k) fun m =>
 kn (.bool i) j x0 x1 m
theorem eparM : E62 C L h K 244 [7,6,0,1] [] (r3 26 0 1 x26 x0 x1)=parM C h x0 x1 (N4 K 7 6 0 1) := by kernel_rfl
noncomputable def parN (kn : K4 β) : O β :=
 toBK x7 fun b =>
 kn (.bool b) x6 x0 x1 h
theorem eparN : E62 C L h K 490 [32,6,0,1] [] (r4 7 6 0 1 x7 x6 x0 x1)=parN h x0 x1 x6 x7 (N4 K 32 6 0 1) := by kernel_rfl
noncomputable def parO (kn : K3 β) : O β :=
 kn (.int .i64 0) x6 x0 h
theorem eparO : E62 C L h K 3928 [8,6,0] [] (r4 32 6 0 1 x32 x6 x0 x1)=parO h x0 x6 (N3 K 8 6 0) := by kernel_rfl
noncomputable def pamH (kr : K1 β) (kx0 : K0 β) (kn : K3 β) : O β :=
 bnd (A.lenStr x0) fun c =>
 bnd (A.bin prog .lss 3 x8 c) fun d =>
 toBK d fun e =>
 (bif e then
 bnd (A.indexStr x0 x8) fun j =>
 bnd2 (C 69 [x6,j] h) fun k l =>
 toBK k fun m =>
 (bif m then
 kr x8 l
 else
 bnd (A.bin prog .add 3 x8 (.int .i64 1)) fun q =>
 kn q x6 x0 l)
 else
 kx0 h)
theorem epamH : E62 C L h K 15716 [8,6,0] [(0,[])] (r3 8 6 0 x8 x6 x0)=pamH C h x0 x6 x8 (R1 K 4) (X0 K 0) (N3 K 8 6 0) := by kernel_rfl
noncomputable def pahV (C : CF) (L : Nat) {β : Type} (kr : K1 β) (kx0 : K0 β) : Nat → K3 β
 | 0,_,_,_,_ => none
 | n + 1,x8,x6,x0,h => pamH C h x0 x6 x8 kr kx0 (fun x8 x6 x0 h=>pahV C L kr kx0 n x8 x6 x0 h)
theorem epahV (C : CF) (L : Nat) {β : Type} (K : KK β) : ∀ (n : Nat) (x8 x6 x0 : V) (h : H),loopK (fun fr h K=>execK prog C L 2 55 [4] (g c62a 15716) [8,6,0] [(0,[])] fr h K) n (r3 8 6 0 x8 x6 x0) h K=pahV C L (R1 K 4) (X0 K 0) n x8 x6 x0 h
 | 0,_,_,_,_ => rfl
 | n + 1,x8,x6,x0,h => (cg (epamH C L h _ x0 x6 x8) (by kernel_rfl)).trans (congrArg _ (w3 fun x8 x6 x0 h=>sl (epahV C L K n x8 x6 x0 h)))
noncomputable def pafX (kr : K1 β) (kx0 : K0 β) : O β :=
 pahV C L kr kx0 L x8 x6 x0 h
def epafX:=(lp [] (r3 8 6 0 x8 x6 x0) (epahV C L K L x8 x6 x0 h) (by kernel_rfl) : _=pafX C L h x0 x6 x8 (R1 K 4) (X0 K 0))
noncomputable def paeP (kr : K1 β) (kn : K0 β) : O β :=
 parO h x0 x6 (fun x8 x6 x0 h=>pafX C L h x0 x6 x8 kr kn)
def epaeP:=(sq K (eparO C L h _ x0 x1 x6 x32) (congrArg _ (w3 fun x8 x6 x0 h=>sn (bk (epafX ..)))) (by kernel_rfl) : _=paeP C L h x0 x6 (R1 K 4) (N0 K))
noncomputable def pamI (C : CF) (L : Nat) {β : Type} (h : H) (kr : K1 β) : O β :=
 kr (.int .i64 (-1)) h
theorem epamI : E62 C L h K 1965 [0,1] [] r0=pamI C L h (R1 K 4) := by kernel_rfl
noncomputable def padO (kr : K1 β) : O β :=
 paeP C L h x0 x6 kr (fun h=>pamI C L h kr)
def epadO:=(sq K (epaeP C L h _ x0 x1 x6 x32) (congrArg _ (w0 fun h=>sn (epamI ..))) (by kernel_rfl) : _=padO C L h x0 x6 (R1 K 4))
noncomputable def pasZ (kn : K2 β) : O β :=
 kn x0 x1 h
theorem epasZ : E62 C L h K 983 [0,1] [] (r4 32 6 0 1 x32 x6 x0 x1)=pasZ h x0 x1 (N2 K 0 1) := by kernel_rfl
noncomputable def pacY (kr : K1 β) (kn : K2 β) : O β :=
 condV x32 (padO C L h x0 x6 kr) (pasZ h x0 x1 kn)
def epacY:=(cd K (.tmp 32) x32 (epadO C L h K x0 x1 x6 x32) (epasZ C L h K x0 x1 x6 x32) (by kernel_rfl) : _=pacY C L h x0 x1 x6 x32 (R1 K 4) (N2 K 0 1))
noncomputable def pacG (kr : K1 β) (kn : K2 β) : O β :=
 parM C h x0 x1 (fun x7 x6 x0 x1 h=>parN h x0 x1 x6 x7 (fun x32 x6 x0 x1 h=>pacY C L h x0 x1 x6 x32 kr kn))
def epacG:=(sq K (eparM C L h _ x0 x1 x26) (congrArg _ (w4 fun x7 x6 x0 x1 h=>sn (sq K (eparN C L h _ x0 x1 x6 x7) (congrArg _ (w4 fun x32 x6 x0 x1 h=>sn (epacY ..))) (by kernel_rfl)))) (by kernel_rfl) : _=pacG C L h x0 x1 (R1 K 4) (N2 K 0 1))
noncomputable def parL (kn : K2 β) : O β :=
 kn x0 x1 h
theorem eparL : E62 C L h K 123 [0,1] [] (r3 26 0 1 x26 x0 x1)=parL h x0 x1 (N2 K 0 1) := by kernel_rfl
noncomputable def pabT (kr : K1 β) (kn : K2 β) : O β :=
 condV x26 (pacG C L h x0 x1 kr kn) (parL h x0 x1 kn)
def epabT:=(cd K (.tmp 26) x26 (epacG C L h K x0 x1 x26) (eparL C L h K x0 x1 x26) (by kernel_rfl) : _=pabT C L h x0 x1 x26 (R1 K 4) (N2 K 0 1))
noncomputable def pabJ (kr : K1 β) (kn : K2 β) : O β :=
 panP C h x0 x1 (fun x26 x0 x1 h=>pabT C L h x0 x1 x26 kr kn)
def epabJ:=(sq K (epanP C L h _ x0 x1) (congrArg _ (w3 fun x26 x0 x1 h=>sn (epabT ..))) (by kernel_rfl) : _=pabJ C L h x0 x1 (R1 K 4) (N2 K 0 1))
noncomputable def parP (kn : K2 β) : O β :=
 bnd2 (A.rangeS x0 h) fun b c =>
 kn b x1 c
theorem eparP : E62 C L h K 124 [45,1] [] (r2 0 1 x0 x1)=parP h x0 x1 (N2 K 45 1) := by kernel_rfl
noncomputable def pakS (kr : K1 β) (kx2 : K0 β) (kn : K2 β) : O β :=
 bnd2 (A.nextS x45 h) fun a b =>
 bnd (A.extract 0 a) fun c =>
 toBK c fun d =>
 (bif d then
 bnd (A.extract 1 a) fun e =>
 bnd (A.extract 2 a) fun f =>
 bnd2 (C 66 [x1,f] b) fun m n =>
 bnd (A.bin prog .geq 3 m (.int .i64 0)) fun o =>
 toBK o fun p =>
 (bif p then
 kr e n
 else
 kn x45 x1 n)
 else
 kx2 b)
theorem epakS : E62 C L h K 500 [45,1] [(2,[])] (r2 45 1 x45 x1)=pakS C h x1 x45 (R1 K 4) (X0 K 2) (N2 K 45 1) := by kernel_rfl
noncomputable def pahJ (C : CF) (L : Nat) {β : Type} (kr : K1 β) (kx2 : K0 β) : Nat → K2 β
 | 0,_,_,_ => none
 | n + 1,x45,x1,h => pakS C h x1 x45 kr kx2 (fun x45 x1 h=>pahJ C L kr kx2 n x45 x1 h)
theorem epahJ (C : CF) (L : Nat) {β : Type} (K : KK β) : ∀ (n : Nat) (x45 x1 : V) (h : H),loopK (fun fr h K=>execK prog C L 2 55 [4] (g c62a 500) [45,1] [(2,[])] fr h K) n (r2 45 1 x45 x1) h K=pahJ C L (R1 K 4) (X0 K 2) n x45 x1 h
 | 0,_,_,_ => rfl
 | n + 1,x45,x1,h => (cg (epakS C L h _ x1 x45) (by kernel_rfl)).trans (congrArg _ (w2 fun x45 x1 h=>sl (epahJ C L K n x45 x1 h)))
noncomputable def pafB (kr : K1 β) (kx2 : K0 β) : O β :=
 pahJ C L kr kx2 L x45 x1 h
def epafB:=(lp [] (r2 45 1 x45 x1) (epahJ C L K L x45 x1 h) (by kernel_rfl) : _=pafB C L h x1 x45 (R1 K 4) (X0 K 2))
noncomputable def paeL (kr : K1 β) (kn : K0 β) : O β :=
 parP h x0 x1 (fun x45 x1 h=>pafB C L h x1 x45 kr kn)
def epaeL:=(sq K (eparP C L h _ x0 x1) (congrArg _ (w2 fun x45 x1 h=>sn (bk (epafB ..)))) (by kernel_rfl) : _=paeL C L h x0 x1 (R1 K 4) (N0 K))
noncomputable def pakT (C : CF) (L : Nat) {β : Type} (h : H) (kr : K1 β) : O β :=
 kr (.int .i64 (-1)) h
theorem epakT : E62 C L h K 63 [4] [] r0=pakT C L h (R1 K 4) := by kernel_rfl
noncomputable def p62a (kr : K1 β) : O β :=
 panM h x0 x1 (fun x0 x1 h=>panN h x0 x1 kr (fun x0 x1 h=>panO C h x0 x1 kr (fun x0 x1 h=>pabJ C L h x0 x1 kr (fun x0 x1 h=>paeL C L h x0 x1 kr (fun h=>pakT C L h kr)))))
def ep62a:=(sq K (epanM C L h _ x0 x1) (congrArg _ (w2 fun x0 x1 h=>sn (sq K (epanN C L h _ x0 x1) (congrArg _ (w2 fun x0 x1 h=>sn (sq K (epanO C L h _ x0 x1) (congrArg _ (w2 fun x0 x1 h=>sn (sq K (epabJ C L h _ x0 x1) (congrArg _ (w2 fun x0 x1 h=>sn (sq K (epaeL C L h _ x0 x1) (congrArg _ (w0 fun h=>sn (epakT ..))) (by kernel_rfl)))) (by kernel_rfl)))) (by kernel_rfl)))) (by kernel_rfl)))) (by kernel_rfl) : _=p62a C L h x0 x1 (R1 K 4))
noncomputable def F62 (C : CF) (L : Nat) (x0 x1 : V) (h : H) : O (V × H) :=
 p62a C L h x0 x1 (fun x4 h=>some (x4,h))
theorem F62eq (Q : Orc) (n : Nat) (x0 x1 : V) (h : H) (q : Q 62 [x0,x1]=none) : callO prog 2 Q (n + 1) 62 [x0,x1] h=F62 (callO prog 2 Q n) n x0 x1 h :=
 (tp q Tryd.func62 (ep62a (callO prog 2 Q n) n h _ x0 x1) (by kernel_rfl)).trans (by kernel_rfl)
noncomputable def c63a : Code := (Tryd.f63.body).getD .skip
noncomputable abbrev E63 (C : CF) (L : Nat) {β : Type} (h : H) (K : KK β) (n : Nat) (o : List Nat) (v : List (Nat × List Nat)) (r : T Value) : O β := execK prog C L 2 66 [8] (g c63a n) o v r h K
noncomputable def parQ (kn : K4 β) : O β :=
 kn x3 x1 x2 x0 h
theorem eparQ : E63 C L h K 2 [3,1,2,0] [] (r4 0 1 2 3 x0 x1 x2 x3)=parQ h x0 x1 x2 x3 (N4 K 3 1 2 0) := by kernel_rfl
noncomputable def parR (kr : K1 β) (kn : K4 β) : O β :=
 bnd (A.bin prog .eql 3 x3 (.int .i64 0)) fun b =>
 toBK b fun c =>
 (bif c then
 kr (.slice none 0 0) h
 else
 kn x3 x1 x2 x0 h)
theorem eparR : E63 C L h K 6 [3,1,2,0] [] (r4 3 1 2 0 x3 x1 x2 x0)=parR h x0 x1 x2 x3 (R1 K 8) (N4 K 3 1 2 0) := by kernel_rfl
noncomputable def parS (kr : K1 β) (kn : K4 β) : O β :=
 bnd (A.bin prog .eql 9 x1 (.string ⟨⟨[]⟩⟩)) fun b =>
 toBK b fun c =>
 (bif c then
 bnd2 (C 70 [x0,x3] h) fun f i =>
 kr f i
 else
 kn x3 x1 x2 x0 h)
theorem eparS : E63 C L h K 14 [3,1,2,0] [] (r4 3 1 2 0 x3 x1 x2 x0)=parS C h x0 x1 x2 x3 (R1 K 8) (N4 K 3 1 2 0) := by kernel_rfl
noncomputable def parT (kn : K4 β) : O β :=
 bnd (A.bin prog .lss 3 x3 (.int .i64 0)) fun b =>
 toBK b fun c =>
 (bif c then
 bnd2 (C 71 [x0,x1] h) fun f i =>
 bnd (A.bin prog .add 3 f (.int .i64 1)) fun j =>
 kn j x1 x2 x0 i
 else
 kn x3 x1 x2 x0 h)
theorem eparT : E63 C L h K 30 [3,1,2,0] [] (r4 3 1 2 0 x3 x1 x2 x0)=parT C h x0 x1 x2 x3 (N4 K 3 1 2 0) := by kernel_rfl
noncomputable def parU (kn : K4 β) : O β :=
 bnd (A.lenStr x0) fun c =>
 bnd (A.bin prog .add 3 c (.int .i64 1)) fun d =>
 bnd (A.pureB prog .min ⟨[3,3]⟩ 3 [x3,d]) fun e =>
 kn e x1 x2 x0 h
theorem eparU : E63 C L h K 62 [3,1,2,0] [] (r4 3 1 2 0 x3 x1 x2 x0)=parU h x0 x1 x2 x3 (N4 K 3 1 2 0) := by kernel_rfl
noncomputable def parV (kn : K5 β) : O β :=
 bnd2 (A.makeSlice 1 16 Z9L x3 x3 h) fun b c =>
 kn x3 x1 x2 x0 b c
theorem eparV : E63 C L h K 126 [3,1,2,0,9] [] (r4 3 1 2 0 x3 x1 x2 x0)=parV h x0 x1 x2 x3 (N5 K 3 1 2 0 9) := by kernel_rfl
noncomputable def parW (kn : K5 β) : O β :=
 bnd (A.bin prog .sub 3 x3 (.int .i64 1)) fun b =>
 kn b x1 x2 x0 x9 h
theorem eparW : E63 C L h K 254 [3,1,2,0,9] [] (r5 3 1 2 0 9 x3 x1 x2 x0 x9)=parW h x0 x1 x2 x3 x9 (N5 K 3 1 2 0 9) := by kernel_rfl
noncomputable def parX (kn : K6 β) : O β :=
 kn x3 x1 x2 x0 x9 (.int .i64 0) h
theorem eparX : E63 C L h K 510 [3,1,2,0,9,10] [] (r5 3 1 2 0 9 x3 x1 x2 x0 x9)=parX h x0 x1 x2 x3 x9 (N6 K 3 1 2 0 9 10) := by kernel_rfl
noncomputable def pamJ (kx0 : K3 β) (kn : K6 β) : O β :=
 bnd (A.bin prog .lss 3 x10 x3) fun c =>
 toBK c fun d =>
 (bif d then
 bnd2 (C 72 [x0,x1] h) fun i j =>
 bnd (A.bin prog .lss 3 i (.int .i64 0)) fun m =>
 toBK m fun n =>
 (bif n then
 kx0 x0 x9 x10 j
 else
 bnd (A.bin prog .add 3 i x2) fun t =>
 bnd (A.sliceStr x0 none (some t)) fun u =>
 bnd (A.idxS 1 x9 x10) fun v =>
 bnd (A.store 1 v u j) fun y =>
 bnd (A.lenStr x1) fun c1 =>
 bnd (A.bin prog .add 3 i c1) fun d1 =>
 bnd (A.sliceStr x0 (some d1) none) fun e1 =>
 bnd (A.bin prog .add 3 x10 (.int .i64 1)) fun j1 =>
 kn x3 x1 x2 e1 x9 j1 y)
 else
 kx0 x0 x9 x10 h)
theorem epamJ : E63 C L h K 4088 [3,1,2,0,9,10] [(0,[0,9,10])] (r6 3 1 2 0 9 10 x3 x1 x2 x0 x9 x10)=pamJ C h x0 x1 x2 x3 x9 x10 (X3 K 0 0 9 10) (N6 K 3 1 2 0 9 10) := by kernel_rfl
noncomputable def pahW (C : CF) (L : Nat) {β : Type} (kx0 : K3 β) : Nat → K6 β
 | 0,_,_,_,_,_,_,_ => none
 | n + 1,x3,x1,x2,x0,x9,x10,h => pamJ C h x0 x1 x2 x3 x9 x10 kx0 (fun x3 x1 x2 x0 x9 x10 h=>pahW C L kx0 n x3 x1 x2 x0 x9 x10 h)
theorem epahW (C : CF) (L : Nat) {β : Type} (K : KK β) : ∀ (n : Nat) (x3 x1 x2 x0 x9 x10 : V) (h : H),loopK (fun fr h K=>execK prog C L 2 66 [8] (g c63a 4088) [3,1,2,0,9,10] [(0,[0,9,10])] fr h K) n (r6 3 1 2 0 9 10 x3 x1 x2 x0 x9 x10) h K=pahW C L (X3 K 0 0 9 10) n x3 x1 x2 x0 x9 x10 h
 | 0,_,_,_,_,_,_,_ => rfl
 | n + 1,x3,x1,x2,x0,x9,x10,h => (cg (epamJ C L h _ x0 x1 x2 x3 x9 x10) (by kernel_rfl)).trans (congrArg _ (w6 fun x3 x1 x2 x0 x9 x10 h=>sl (epahW C L K n x3 x1 x2 x0 x9 x10 h)))
noncomputable def pafY (kx0 : K3 β) : O β :=
 pahW C L kx0 L x3 x1 x2 x0 x9 x10 h
def epafY:=(lp [0,9,10] (r6 3 1 2 0 9 10 x3 x1 x2 x0 x9 x10) (epahW C L K L x3 x1 x2 x0 x9 x10 h) (by kernel_rfl) : _=pafY C L h x0 x1 x2 x3 x9 x10 (X3 K 0 0 9 10))
noncomputable def pamK (C : CF) (L : Nat) {β : Type} (x0 x9 x10 : V) (h : H) (kr : K1 β) : O β :=
 bnd (A.idxS 1 x9 x10) fun d =>
 bnd (A.store 1 d x0 h) fun f =>
 bnd (A.bin prog .add 3 x10 (.int .i64 1)) fun k =>
 bnd (A.sliceS 1 x9 none (some k) none f) fun l =>
 kr l f
theorem epamK : E63 C L h K 1023 [8] [] (r3 0 9 10 x0 x9 x10)=pamK C L x0 x9 x10 h (R1 K 8) := by kernel_rfl
noncomputable def p63a (kr : K1 β) : O β :=
 parQ h x0 x1 x2 x3 (fun x3 x1 x2 x0 h=>parR h x0 x1 x2 x3 kr (fun x3 x1 x2 x0 h=>parS C h x0 x1 x2 x3 kr (fun x3 x1 x2 x0 h=>parT C h x0 x1 x2 x3 (fun x3 x1 x2 x0 h=>parU h x0 x1 x2 x3 (fun x3 x1 x2 x0 h=>parV h x0 x1 x2 x3 (fun x3 x1 x2 x0 x9 h=>parW h x0 x1 x2 x3 x9 (fun x3 x1 x2 x0 x9 h=>parX h x0 x1 x2 x3 x9 (fun x3 x1 x2 x0 x9 x10 h=>pafY C L h x0 x1 x2 x3 x9 x10 (fun x0 x9 x10 h=>pamK C L x0 x9 x10 h kr)))))))))
def ep63a:=(sq K (eparQ C L h _ x0 x1 x2 x3) (congrArg _ (w4 fun x3 x1 x2 x0 h=>sn (sq K (eparR C L h _ x0 x1 x2 x3) (congrArg _ (w4 fun x3 x1 x2 x0 h=>sn (sq K (eparS C L h _ x0 x1 x2 x3) (congrArg _ (w4 fun x3 x1 x2 x0 h=>sn (sq K (eparT C L h _ x0 x1 x2 x3) (congrArg _ (w4 fun x3 x1 x2 x0 h=>sn (sq K (eparU C L h _ x0 x1 x2 x3) (congrArg _ (w4 fun x3 x1 x2 x0 h=>sn (sq K (eparV C L h _ x0 x1 x2 x3) (congrArg _ (w5 fun x3 x1 x2 x0 x9 h=>sn (sq K (eparW C L h _ x0 x1 x2 x3 x9) (congrArg _ (w5 fun x3 x1 x2 x0 x9 h=>sn (sq K (eparX C L h _ x0 x1 x2 x3 x9) (congrArg _ (w6 fun x3 x1 x2 x0 x9 x10 h=>sn (sq K (bk (epafY C L h _ x0 x1 x2 x3 x9 x10)) (congrArg _ (w3 fun x0 x9 x10 h=>sn (epamK ..))) (by kernel_rfl)))) (by kernel_rfl)))) (by kernel_rfl)))) (by kernel_rfl)))) (by kernel_rfl)))) (by kernel_rfl)))) (by kernel_rfl)))) (by kernel_rfl)))) (by kernel_rfl) : _=p63a C L h x0 x1 x2 x3 (R1 K 8))
noncomputable def F63 (C : CF) (L : Nat) (x0 x1 x2 x3 : V) (h : H) : O (V × H) :=
 p63a C L h x0 x1 x2 x3 (fun x8 h=>some (x8,h))
theorem F63eq (Q : Orc) (n : Nat) (x0 x1 x2 x3 : V) (h : H) (q : Q 63 [x0,x1,x2,x3]=none) : callO prog 2 Q (n + 1) 63 [x0,x1,x2,x3] h=F63 (callO prog 2 Q n) n x0 x1 x2 x3 h :=
 (tp q Tryd.func63 (ep63a (callO prog 2 Q n) n h _ x0 x1 x2 x3) (by kernel_rfl)).trans (by kernel_rfl)
noncomputable def c64a : Code := (Tryd.f64.body).getD .skip
noncomputable abbrev E64 (C : CF) (L : Nat) {β : Type} (h : H) (K : KK β) (n : Nat) (o : List Nat) (v : List (Nat × List Nat)) (r : T Value) : O β := execK prog C L 2 32 [2,3,4] (g c64a n) o v r h K
noncomputable def p64a (kr : K3 β) : O β :=
 bnd2 (C 59 [x0] h) fun e f =>
 bnd (A.extract 0 e) fun j =>
 bnd (A.extract 1 e) fun k =>
 bnd (A.extract 2 e) fun l =>
 bnd (A.bin prog .neq 31 l (.int .i64 0)) fun q =>
 toBK q fun r =>
 (bif r then
 kr (.string ⟨⟨[]⟩⟩) (.int .i64 0) (.int .i64 2) f
 else
 bnd (A.lenStr x0) fun a1 =>
 bnd (A.bin prog .sub 3 a1 k) fun c1 =>
 bnd (A.bin prog .gtr 3 j c1) fun d1 =>
 toBK d1 fun e1 =>
 (bif e1 then
 kr (.string ⟨⟨[]⟩⟩) (.int .i64 0) (.int .i64 2) f
 else
 bnd (A.bin prog .add 3 k j) fun p1 =>
 bnd (A.sliceStr x0 (some k) (some p1)) fun q1 =>
 bnd (A.bin prog .add 3 k j) fun t1 =>
 kr q1 t1 (.int .i64 0) f))
theorem ep64a : E64 C L h K 1 [2,3,4] [] (r1 0 x0)=p64a C h x0 (R3 K 2 3 4) := by kernel_rfl
noncomputable def F64 (C : CF) (L : Nat) (x0 : V) (h : H) : O (V × H) :=
 p64a C h x0 (fun x2 x3 x4 h=>some (.tuple ⟨[x2,x3,x4]⟩,h))
theorem F64eq (Q : Orc) (n : Nat) (x0 : V) (h : H) (q : Q 64 [x0]=none) : callO prog 2 Q (n + 1) 64 [x0] h=F64 (callO prog 2 Q n) n x0 h :=
 (tp q Tryd.func64 (ep64a (callO prog 2 Q n) n h _ x0) (by kernel_rfl)).trans (by kernel_rfl)
noncomputable def c65a : Code := (Tryd.f65.body).getD .skip
noncomputable abbrev E65 (C : CF) (L : Nat) {β : Type} (h : H) (K : KK β) (n : Nat) (o : List Nat) (v : List (Nat × List Nat)) (r : T Value) : O β := execK prog C L 2 19 [2,3] (g c65a n) o v r h K
noncomputable def p65a (kr : K2 β) : O β :=
 bnd (A.bin prog .neq 9 x0 (.string ⟨⟨[]⟩⟩)) fun d =>
 toBK d fun e =>
 (bif e then
 bnd (A.indexStr x0 (.int .i64 0)) fun j =>
 bnd (A.bin prog .lss 5 j (.int .u8 128)) fun k =>
 toBK k fun l =>
 (bif l then
 bnd (A.indexStr x0 (.int .i64 0)) fun o =>
 bnd (A.conv prog 5 21 o) fun p =>
 kr p (.int .i64 1) h
 else
 bnd2 (C 73 [x0] h) fun t u =>
 bnd (A.extract 0 t) fun w =>
 bnd (A.extract 1 t) fun y =>
 kr w y u)
 else
 bnd2 (C 73 [x0] h) fun d1 e1 =>
 bnd (A.extract 0 d1) fun i1 =>
 bnd (A.extract 1 d1) fun j1 =>
 kr i1 j1 e1)
theorem ep65a : E65 C L h K 1 [2,3] [] (r1 0 x0)=p65a C h x0 (R2 K 2 3) := by kernel_rfl
noncomputable def F65 (C : CF) (L : Nat) (x0 : V) (h : H) : O (V × H) :=
 p65a C h x0 (fun x2 x3 h=>some (.tuple ⟨[x2,x3]⟩,h))
theorem F65eq (Q : Orc) (n : Nat) (x0 : V) (h : H) (q : Q 65 [x0]=none) : callO prog 2 Q (n + 1) 65 [x0] h=F65 (callO prog 2 Q n) n x0 h :=
 (tp q Tryd.func65 (ep65a (callO prog 2 Q n) n h _ x0) (by kernel_rfl)).trans (by kernel_rfl)
noncomputable def c66a : Code := (Tryd.f66.body).getD .skip
noncomputable abbrev E66 (C : CF) (L : Nat) {β : Type} (h : H) (K : KK β) (n : Nat) (o : List Nat) (v : List (Nat × List Nat)) (r : T Value) : O β := execK prog C L 2 187 [4] (g c66a n) o v r h K
noncomputable def panQ (kn : K2 β) : O β :=
 kn x1 x0 h
theorem epanQ : E66 C L h K 2 [1,0] [] (r2 0 1 x0 x1)=panQ h x0 x1 (N2 K 1 0) := by kernel_rfl
noncomputable def panR (kn : K3 β) : O β :=
 bnd (A.bin prog .leq 21 (.int .i32 0) x1) fun b =>
 toBK b fun c =>
 (bif c then
 bnd (A.bin prog .lss 21 x1 (.int .i32 128)) fun f =>
 toBK f fun i =>
 kn (.bool i) x1 x0 h
 else
 kn (.bool false) x1 x0 h)
theorem epanR : E66 C L h K 12 [160,1,0] [(0,[4])] (r2 1 0 x1 x0)=panR h x0 x1 (N3 K 160 1 0) := by kernel_rfl
noncomputable def pasF (kr : K1 β) : O β :=
 bnd (A.conv prog 21 5 x1) fun c =>
 bnd2 (C 74 [x0,c] h) fun d e =>
 kr d e
theorem epasF : E66 C L h K 26 [4] [(0,[4])] (r3 160 1 0 x160 x1 x0)=pasF C h x0 x1 (R1 K 4) := by kernel_rfl
noncomputable def pamL (kn : K3 β) : O β :=
 bnd (A.bin prog .eql 21 x1 (.int .i32 65533)) fun b =>
 toBK b fun c =>
 kn (.bool c) x1 x0 h
theorem epamL : E66 C L h K 54 [171,1,0] [(0,[4])] (r3 160 1 0 x160 x1 x0)=pamL h x0 x1 (N3 K 171 1 0) := by kernel_rfl
noncomputable def pasD (kn : K1 β) : O β :=
 bnd2 (A.rangeS x0 h) fun b c =>
 kn b c
theorem epasD : E66 C L h K 440 [175] [(0,[4])] (r3 171 1 0 x171 x1 x0)=pasD h x0 (N1 K 175) := by kernel_rfl
noncomputable def pasE (kr : K1 β) (kx9 : K0 β) (kn : K1 β) : O β :=
 bnd2 (A.nextS x175 h) fun a b =>
 bnd (A.extract 0 a) fun c =>
 toBK c fun d =>
 (bif d then
 bnd (A.extract 1 a) fun e =>
 bnd (A.extract 2 a) fun f =>
 bnd (A.bin prog .eql 21 f (.int .i32 65533)) fun l =>
 toBK l fun m =>
 (bif m then
 kr e b
 else
 kn x175 b)
 else
 kx9 b)
theorem epasE : E66 C L h K 1764 [175] [(9,[]),(0,[4])] (r1 175 x175)=pasE h x175 (R1 K 4) (X0 K 9) (N1 K 175) := by kernel_rfl
noncomputable def pajA (C : CF) (L : Nat) {β : Type} (kr : K1 β) (kx9 : K0 β) : Nat → K1 β
 | 0,_,_ => none
 | n + 1,x175,h => pasE h x175 kr kx9 (fun x175 h=>pajA C L kr kx9 n x175 h)
theorem epajA (C : CF) (L : Nat) {β : Type} (K : KK β) : ∀ (n : Nat) (x175 : V) (h : H),loopK (fun fr h K=>execK prog C L 2 187 [4] (g c66a 1764) [175] [(9,[]),(0,[4])] fr h K) n (r1 175 x175) h K=pajA C L (R1 K 4) (X0 K 9) n x175 h
 | 0,_,_ => rfl
 | n + 1,x175,h => (cg (epasE C L h _ x175) (by kernel_rfl)).trans (congrArg _ (w1 fun x175 h=>sl (epajA C L K n x175 h)))
noncomputable def pagM (kr : K1 β) (kx9 : K0 β) : O β :=
 pajA C L kr kx9 L x175 h
def epagM:=(lp [] (r1 175 x175) (epajA C L K L x175 h) (by kernel_rfl) : _=pagM C L h x175 (R1 K 4) (X0 K 9))
noncomputable def paeU (kr : K1 β) (kn : K0 β) : O β :=
 pasD h x0 (fun x175 h=>pagM C L h x175 kr kn)
def epaeU:=(sq K (epasD C L h _ x0 x1 x171) (congrArg _ (w1 fun x175 h=>sn (bk (epagM ..)))) (by kernel_rfl) : _=paeU C L h x0 (R1 K 4) (N0 K))
noncomputable def patD (kr : K1 β) : O β :=
 kr (.int .i64 (-1)) h
theorem epatD : E66 C L h K 221 [4] [(0,[4])] r0=patD h (R1 K 4) := by kernel_rfl
noncomputable def padX (kr : K1 β) : O β :=
 paeU C L h x0 kr (fun h=>patD h kr)
def epadX:=(sq K (epaeU C L h _ x0 x1 x171) (congrArg _ (w0 fun h=>sn (epatD ..))) (by kernel_rfl) : _=padX C L h x0 (R1 K 4))
noncomputable def panS (kn : K3 β) : O β :=
 bnd2 (C 75 [x1] h) fun b c =>
 toBK b fun d =>
 bnd (A.un prog .not (.bool d)) fun e =>
 toBK e fun f =>
 kn (.bool f) x1 x0 c
theorem epanS : E66 C L h K 222 [183,1,0] [(0,[4])] (r3 171 1 0 x171 x1 x0)=panS C h x0 x1 (N3 K 183 1 0) := by kernel_rfl
noncomputable def pasC (kr : K1 β) : O β :=
 kr (.int .i64 (-1)) h
theorem epasC : E66 C L h K 446 [4] [(0,[4])] (r3 183 1 0 x183 x1 x0)=pasC h (R1 K 4) := by kernel_rfl
noncomputable def parY (kn : K2 β) : O β :=
 bnd (A.conv prog 21 9 x1) fun b =>
 kn x0 b h
theorem eparY : E66 C L h K 1788 [0,7] [(0,[4])] (r3 183 1 0 x183 x1 x0)=parY h x0 x1 (N2 K 0 7) := by kernel_rfl
noncomputable def panT (kn : K3 β) : O β :=
 bnd (A.lenStr x7) fun b =>
 bnd (A.bin prog .sub 3 b (.int .i64 1)) fun c =>
 kn c x0 x7 h
theorem epanT : E66 C L h K 3578 [8,0,7] [(0,[4])] (r2 0 7 x0 x7)=panT h x0 x7 (N3 K 8 0 7) := by kernel_rfl
noncomputable def panU (kn : K4 β) : O β :=
 kn x8 x8 x0 x7 h
theorem epanU : E66 C L h K 7158 [8,9,0,7] [(0,[4])] (r3 8 0 7 x8 x0 x7)=panU h x0 x7 x8 (N4 K 8 9 0 7) := by kernel_rfl
noncomputable def panV (kn : K4 β) : O β :=
 kn x8 x9 x0 x7 h
theorem epanV : E66 C L h K 14318 [8,9,0,7] [(0,[4])] (r4 8 9 0 7 x8 x9 x0 x7)=panV h x0 x7 x8 x9 (N4 K 8 9 0 7) := by kernel_rfl
noncomputable def panW (kx1 : K0 β) (kn : K4 β) : O β :=
 bnd (A.lenStr x0) fun c =>
 bnd (A.bin prog .lss 3 x9 c) fun d =>
 toBK d fun e =>
 (bif e then
 kn x7 x0 x9 x8 h
 else
 kx1 h)
theorem epanW : E66 C L h K 229104 [7,0,9,8] [(1,[]),(0,[4])] (r4 8 9 0 7 x8 x9 x0 x7)=panW h x0 x7 x8 x9 (X0 K 1) (N4 K 7 0 9 8) := by kernel_rfl
noncomputable def parZ (kn : K5 β) : O β :=
 bnd (A.indexStr x0 x9) fun c =>
 bnd (A.indexStr x7 x8) fun f =>
 bnd (A.bin prog .neq 5 c f) fun i =>
 toBK i fun j =>
 kn (.bool j) x7 x0 x9 x8 h
theorem eparZ : E66 C L h K 3665680 [33,7,0,9,8] [(2,[8,9,0,7]),(1,[]),(0,[4])] (r4 7 0 9 8 x7 x0 x9 x8)=parZ h x0 x7 x8 x9 (N5 K 33 7 0 9 8) := by kernel_rfl
noncomputable def pasA (kr : K1 β) (kn : K4 β) : O β :=
 condV x33 (
 bnd (A.bin prog .add 3 x9 (.int .i64 1)) fun c =>
 bnd (A.sliceStr x0 (some c) none) fun d =>
 bnd (A.indexStr x7 x8) fun i =>
 bnd2 (C 74 [d,i] h) fun j k =>
 bnd (A.bin prog .lss 3 j (.int .i64 0)) fun n =>
 toBK n fun o =>
 (bif o then
 kr (.int .i64 (-1)) k
 else
 bnd (A.bin prog .add 3 j (.int .i64 1)) fun s =>
 bnd (A.bin prog .add 3 x9 s) fun t =>
 kn x7 x0 t x8 k)) (
 kn x7 x0 x9 x8 h)
theorem epasA : E66 C L h K 3665681 [7,0,9,8] [(2,[8,9,0,7]),(1,[]),(0,[4])] (r5 33 7 0 9 8 x33 x7 x0 x9 x8)=pasA C h x0 x7 x8 x9 x33 (R1 K 4) (N4 K 7 0 9 8) := by kernel_rfl
noncomputable def pagQ (kr : K1 β) (kn : K4 β) : O β :=
 parZ h x0 x7 x8 x9 (fun x33 x7 x0 x9 x8 h=>pasA C h x0 x7 x8 x9 x33 kr kn)
def epagQ:=(sq K (eparZ C L h _ x0 x7 x8 x9) (congrArg _ (w5 fun x33 x7 x0 x9 x8 h=>sn (epasA ..))) (by kernel_rfl) : _=pagQ C h x0 x7 x8 x9 (R1 K 4) (N4 K 7 0 9 8))
noncomputable def patA (kn : K5 β) : O β :=
 kn (.int .i64 1) x7 x0 x9 x8 h
theorem epatA : E66 C L h K 7331364 [12,7,0,9,8] [(2,[8,9,0,7]),(1,[]),(0,[4])] (r4 7 0 9 8 x7 x0 x9 x8)=patA h x0 x7 x8 x9 (N5 K 12 7 0 9 8) := by kernel_rfl
noncomputable def patB (kx3 : K2 β) (kn : K5 β) : O β :=
 bnd (A.lenStr x7) fun c =>
 bnd (A.bin prog .lss 3 x12 c) fun d =>
 toBK d fun e =>
 (bif e then
 bnd (A.bin prog .sub 3 x9 x12) fun k =>
 bnd (A.indexStr x0 k) fun l =>
 bnd (A.bin prog .sub 3 x8 x12) fun p =>
 bnd (A.indexStr x7 p) fun q =>
 bnd (A.bin prog .neq 5 l q) fun r =>
 toBK r fun s =>
 (bif s then
 none
 else
 bnd (A.bin prog .add 3 x12 (.int .i64 1)) fun u =>
 kn u x7 x0 x9 x8 h)
 else
 kx3 x9 x8 h)
theorem epatB : E66 C L h K 29325460 [12,7,0,9,8] [(3,[9,8]),(2,[8,9,0,7]),(1,[]),(0,[4])] (r5 12 7 0 9 8 x12 x7 x0 x9 x8)=patB h x0 x7 x8 x9 x12 (X2 K 3 9 8) (N5 K 12 7 0 9 8) := by kernel_rfl
noncomputable def panX (C : CF) (L : Nat) {β : Type} (kx3 : K2 β) : Nat → K5 β
 | 0,_,_,_,_,_,_ => none
 | n + 1,x12,x7,x0,x9,x8,h => patB h x0 x7 x8 x9 x12 kx3 (fun x12 x7 x0 x9 x8 h=>panX C L kx3 n x12 x7 x0 x9 x8 h)
theorem epanX (C : CF) (L : Nat) {β : Type} (K : KK β) : ∀ (n : Nat) (x12 x7 x0 x9 x8 : V) (h : H),loopK (fun fr h K=>execK prog C L 2 187 [4] (g c66a 29325460) [12,7,0,9,8] [(3,[9,8]),(2,[8,9,0,7]),(1,[]),(0,[4])] fr h K) n (r5 12 7 0 9 8 x12 x7 x0 x9 x8) h K=panX C L (X2 K 3 9 8) n x12 x7 x0 x9 x8 h
 | 0,_,_,_,_,_,_ => rfl
 | n + 1,x12,x7,x0,x9,x8,h => (cg (epatB C L h _ x0 x7 x8 x9 x12) (by kernel_rfl)).trans (congrArg _ (w5 fun x12 x7 x0 x9 x8 h=>sl (epanX C L K n x12 x7 x0 x9 x8 h)))
noncomputable def pagR (kx3 : K2 β) : O β :=
 panX C L kx3 L x12 x7 x0 x9 x8 h
def epagR:=(lp [9,8] (r5 12 7 0 9 8 x12 x7 x0 x9 x8) (epanX C L K L x12 x7 x0 x9 x8 h) (by kernel_rfl) : _=pagR C L h x0 x7 x8 x9 x12 (X2 K 3 9 8))
noncomputable def pafN (kn : K2 β) : O β :=
 patA h x0 x7 x8 x9 (fun x12 x7 x0 x9 x8 h=>pagR C L h x0 x7 x8 x9 x12 kn)
def epafN:=(sq K (epatA C L h _ x0 x7 x8 x9) (congrArg _ (w5 fun x12 x7 x0 x9 x8 h=>sn (bk (epagR ..)))) (by kernel_rfl) : _=pafN C L h x0 x7 x8 x9 (N2 K 9 8))
noncomputable def patC (kr : K1 β) : O β :=
 bnd (A.bin prog .sub 3 x9 x8) fun c =>
 kr c h
theorem epatC : E66 C L h K 3665683 [8,9,0,7] [(2,[8,9,0,7]),(1,[]),(0,[4])] (r2 9 8 x9 x8)=patC h x8 x9 (R1 K 4) := by kernel_rfl
noncomputable def padH (kr : K1 β) : O β :=
 pagQ C h x0 x7 x8 x9 kr (fun x7 x0 x9 x8 h=>pafN C L h x0 x7 x8 x9 (fun x9 x8 h=>patC h x8 x9 kr))
def epadH:=(sq K (epagQ C L h _ x0 x7 x8 x9) (congrArg _ (w4 fun x7 x0 x9 x8 h=>sn (sq K (epafN C L h _ x0 x7 x8 x9) (congrArg _ (w2 fun x9 x8 h=>sn (epatC ..))) (by kernel_rfl)))) (by kernel_rfl) : _=padH C L h x0 x7 x8 x9 (R1 K 4))
noncomputable def pacQ (kr : K1 β) (kx1 : K0 β) : O β :=
 panW h x0 x7 x8 x9 kx1 (fun x7 x0 x9 x8 h=>padH C L h x0 x7 x8 x9 kr)
def epacQ:=(sq K (epanW C L h _ x0 x7 x8 x9) (congrArg _ (w4 fun x7 x0 x9 x8 h=>sn (bk (sc (epadH ..))))) (by kernel_rfl) : _=pacQ C L h x0 x7 x8 x9 (R1 K 4) (X0 K 1))
noncomputable def paiK (C : CF) (L : Nat) {β : Type} (kr : K1 β) (kx1 : K0 β) : Nat → K4 β
 | 0,_,_,_,_,_ => none
 | n + 1,x8,x9,x0,x7,h => pacQ C L h x0 x7 x8 x9 kr kx1
theorem epaiK (C : CF) (L : Nat) {β : Type} (K : KK β) : ∀ (n : Nat) (x8 x9 x0 x7 : V) (h : H),loopK (fun fr h K=>execK prog C L 2 187 [4] (g c66a 114552) [8,9,0,7] [(1,[]),(0,[4])] fr h K) n (r4 8 9 0 7 x8 x9 x0 x7) h K=paiK C L (R1 K 4) (X0 K 1) n x8 x9 x0 x7 h
 | 0,_,_,_,_,_ => rfl
 | n + 1,x8,x9,x0,x7,h => cg (epacQ C L h _ x0 x7 x8 x9) (by kernel_rfl)
noncomputable def pabY (kr : K1 β) (kx1 : K0 β) : O β :=
 paiK C L kr kx1 L x8 x9 x0 x7 h
def epabY:=(lp [] (r4 8 9 0 7 x8 x9 x0 x7) (epaiK C L K L x8 x9 x0 x7 h) (by kernel_rfl) : _=pabY C L h x0 x7 x8 x9 (R1 K 4) (X0 K 1))
noncomputable def pasB (kr : K1 β) : O β :=
 kr (.int .i64 (-1)) h
theorem epasB : E66 C L h K 57278 [1,9,7,0,8] [(0,[4])] r0=pasB h (R1 K 4) := by kernel_rfl
noncomputable def pabC (C : CF) (L : Nat) {β : Type} (x0 x7 : V) (h : H) (kr : K1 β) : O β :=
 panT h x0 x7 (fun x8 x0 x7 h=>panU h x0 x7 x8 (fun x8 x9 x0 x7 h=>panV h x0 x7 x8 x9 (fun x8 x9 x0 x7 h=>pabY C L h x0 x7 x8 x9 kr (fun h=>pasB h kr))))
def epabC:=(sq K (epanT C L h _ x0 x7) (congrArg _ (w3 fun x8 x0 x7 h=>sn (sq K (epanU C L h _ x0 x7 x8) (congrArg _ (w4 fun x8 x9 x0 x7 h=>sn (sq K (epanV C L h _ x0 x7 x8 x9) (congrArg _ (w4 fun x8 x9 x0 x7 h=>sn (sq K (bk (epabY C L h _ x0 x7 x8 x9)) (congrArg _ (w0 fun h=>sn (s0 K (g c66a 57279) [4] (epasB C L h _) (by kernel_rfl)))) (by kernel_rfl)))) (by kernel_rfl)))) (by kernel_rfl)))) (by kernel_rfl) : _=pabC C L x0 x7 h (R1 K 4))
noncomputable def pabA (kr : K1 β) : O β :=
 parY h x0 x1 (fun x0 x7 h=>pabC C L x0 x7 h kr)
def epabA:=(sq K (eparY C L h _ x0 x1 x183) (congrArg _ (w2 fun x0 x7 h=>sn (epabC ..))) (by kernel_rfl) : _=pabA C L h x0 x1 (R1 K 4))
noncomputable def paaV (kr : K1 β) : O β :=
 condV x183 (pasC h kr) (pabA C L h x0 x1 kr)
def epaaV:=(cd K (.tmp 183) x183 (epasC C L h K x0 x1 x183) (sc (epabA C L h K x0 x1 x183)) (by kernel_rfl) : _=paaV C L h x0 x1 x183 (R1 K 4))
noncomputable def paaU (kr : K1 β) : O β :=
 panS C h x0 x1 (fun x183 x1 x0 h=>paaV C L h x0 x1 x183 kr)
def epaaU:=(sq K (epanS C L h _ x0 x1 x171) (congrArg _ (w3 fun x183 x1 x0 h=>sn (epaaV ..))) (by kernel_rfl) : _=paaU C L h x0 x1 (R1 K 4))
noncomputable def paaM (kr : K1 β) : O β :=
 condV x171 (padX C L h x0 kr) (paaU C L h x0 x1 kr)
def epaaM:=(cd K (.tmp 171) x171 (epadX C L h K x0 x1 x171) (epaaU C L h K x0 x1 x171) (by kernel_rfl) : _=paaM C L h x0 x1 x171 (R1 K 4))
noncomputable def paaK (C : CF) (L : Nat) {β : Type} (x160 x1 x0 : V) (h : H) (kr : K1 β) : O β :=
 pamL h x0 x1 (fun x171 x1 x0 h=>paaM C L h x0 x1 x171 kr)
def epaaK:=(sq K (epamL C L h _ x0 x1 x160) (congrArg _ (w3 fun x171 x1 x0 h=>sn (epaaM ..))) (by kernel_rfl) : _=paaK C L x160 x1 x0 h (R1 K 4))
noncomputable def paaI (kr : K1 β) : O β :=
 condV x160 (pasF C h x0 x1 kr) (paaK C L x160 x1 x0 h kr)
def epaaI:=(cd K (.tmp 160) x160 (epasF C L h K x0 x1 x160) (epaaK C L h K x0 x1 x160) (by kernel_rfl) : _=paaI C L h x0 x1 x160 (R1 K 4))
noncomputable def paaH (kr : K1 β) : O β :=
 panR h x0 x1 (fun x160 x1 x0 h=>paaI C L h x0 x1 x160 kr)
def epaaH:=(sq K (epanR C L h _ x0 x1) (congrArg _ (w3 fun x160 x1 x0 h=>sn (epaaI ..))) (by kernel_rfl) : _=paaH C L h x0 x1 (R1 K 4))
noncomputable def paaF (C : CF) (L : Nat) {β : Type} (x1 x0 : V) (h : H) (kr : K1 β) : O β :=
 paaH C L h x0 x1 kr
def epaaF:=(bk (epaaH C L h _ x0 x1) : _=paaF C L x1 x0 h (R1 K 4))
noncomputable def p66a (kr : K1 β) : O β :=
 panQ h x0 x1 (fun x1 x0 h=>paaF C L x1 x0 h kr)
def ep66a:=(sq K (epanQ C L h _ x0 x1) (congrArg _ (w2 fun x1 x0 h=>sn (epaaF ..))) (by kernel_rfl) : _=p66a C L h x0 x1 (R1 K 4))
noncomputable def F66 (C : CF) (L : Nat) (x0 x1 : V) (h : H) : O (V × H) :=
 p66a C L h x0 x1 (fun x4 h=>some (x4,h))
theorem F66eq (Q : Orc) (n : Nat) (x0 x1 : V) (h : H) (q : Q 66 [x0,x1]=none) : callO prog 2 Q (n + 1) 66 [x0,x1] h=F66 (callO prog 2 Q n) n x0 x1 h :=
 (tp q Tryd.func66 (ep66a (callO prog 2 Q n) n h _ x0 x1) (by kernel_rfl)).trans (by kernel_rfl)
noncomputable def c67a : Code := (Tryd.f67.body).getD .skip
noncomputable abbrev E67 (C : CF) (L : Nat) {β : Type} (h : H) (K : KK β) (n : Nat) (o : List Nat) (v : List (Nat × List Nat)) (r : T Value) : O β := execK prog C L 2 5 [2] (g c67a n) o v r h K
noncomputable def p67a (kr : K1 β) : O β :=
 bnd (A.bin prog .gtr 3 x0 (.int .i64 8)) fun c =>
 toBK c fun d =>
 kr (.bool d) h
theorem ep67a : E67 C L h K 1 [2] [] (r1 0 x0)=p67a h x0 (R1 K 2) := by kernel_rfl
noncomputable def F67 (C : CF) (L : Nat) (x0 : V) (h : H) : O (V × H) :=
 p67a h x0 (fun x2 h=>some (x2,h))
theorem F67eq (Q : Orc) (n : Nat) (x0 : V) (h : H) (q : Q 67 [x0]=none) : callO prog 2 Q (n + 1) 67 [x0] h=F67 (callO prog 2 Q n) n x0 h :=
 (tp q Tryd.func67 (ep67a (callO prog 2 Q n) n h _ x0) (by kernel_rfl)).trans (by kernel_rfl)
noncomputable def c69a : Code := (Tryd.f69.body).getD .skip
noncomputable abbrev E69 (C : CF) (L : Nat) {β : Type} (h : H) (K : KK β) (n : Nat) (o : List Nat) (v : List (Nat × List Nat)) (r : T Value) : O β := execK prog C L 2 10 [4] (g c69a n) o v r h K
noncomputable def p69a (kr : K1 β) : O β :=
 bnd (A.nilCheck x0) fun d =>
 bnd (A.idxA 256 1 d x1) fun e =>
 bnd (A.load false 1 e h) fun f =>
 toBK f fun i =>
 kr (.bool i) h
theorem ep69a : E69 C L h K 1 [4] [] (r2 0 1 x0 x1)=p69a h x0 x1 (R1 K 4) := by kernel_rfl
noncomputable def F69 (C : CF) (L : Nat) (x0 x1 : V) (h : H) : O (V × H) :=
 p69a h x0 x1 (fun x4 h=>some (x4,h))
theorem F69eq (Q : Orc) (n : Nat) (x0 x1 : V) (h : H) (q : Q 69 [x0,x1]=none) : callO prog 2 Q (n + 1) 69 [x0,x1] h=F69 (callO prog 2 Q n) n x0 x1 h :=
 (tp q Tryd.func69 (ep69a (callO prog 2 Q n) n h _ x0 x1) (by kernel_rfl)).trans (by kernel_rfl)
noncomputable def c71a : Code := (Tryd.f71.body).getD .skip
noncomputable abbrev E71 (C : CF) (L : Nat) {β : Type} (h : H) (K : KK β) (n : Nat) (o : List Nat) (v : List (Nat × List Nat)) (r : T Value) : O β := execK prog C L 2 34 [4] (g c71a n) o v r h K
noncomputable def pasL (kn : K2 β) : O β :=
 kn x0 x1 h
theorem epasL : E71 C L h K 2 [0,1] [] (r2 0 1 x0 x1)=pasL h x0 x1 (N2 K 0 1) := by kernel_rfl
noncomputable def pasM (kr : K1 β) (kn : K2 β) : O β :=
 bnd (A.lenStr x1) fun b =>
 bnd (A.bin prog .eql 3 b (.int .i64 0)) fun c =>
 toBK c fun d =>
 (bif d then
 bnd2 (C 78 [x0] h) fun f i =>
 bnd (A.bin prog .add 3 f (.int .i64 1)) fun j =>
 kr j i
 else
 kn x0 x1 h)
theorem epasM : E71 C L h K 6 [0,1] [] (r2 0 1 x0 x1)=pasM C h x0 x1 (R1 K 4) (N2 K 0 1) := by kernel_rfl
noncomputable def pasN (kr : K1 β) (kn : K2 β) : O β :=
 bnd (A.lenStr x1) fun b =>
 bnd (A.bin prog .eql 3 b (.int .i64 1)) fun c =>
 toBK c fun d =>
 (bif d then
 bnd (A.indexStr x1 (.int .i64 0)) fun i =>
 bnd2 (C 79 [x0,i] h) fun j k =>
 kr j k
 else
 kn x0 x1 h)
theorem epasN : E71 C L h K 14 [0,1] [] (r2 0 1 x0 x1)=pasN C h x0 x1 (R1 K 4) (N2 K 0 1) := by kernel_rfl
noncomputable def patE (kn : K3 β) : O β :=
 kn (.int .i64 0) x0 x1 h
theorem epatE : E71 C L h K 30 [5,0,1] [] (r2 0 1 x0 x1)=patE h x0 x1 (N3 K 5 0 1) := by kernel_rfl
noncomputable def patF (kr : K1 β) (kn : K3 β) : O β :=
 bnd2 (C 72 [x0,x1] h) fun c d =>
 bnd (A.bin prog .eql 3 c (.int .i64 (-1))) fun i =>
 toBK i fun j =>
 (bif j then
 kr x5 d
 else
 bnd (A.bin prog .add 3 x5 (.int .i64 1)) fun n =>
 bnd (A.lenStr x1) fun s =>
 bnd (A.bin prog .add 3 c s) fun t =>
 bnd (A.sliceStr x0 (some t) none) fun u =>
 kn n u x1 d)
theorem epatF : E71 C L h K 124 [5,0,1] [(0,[4])] (r3 5 0 1 x5 x0 x1)=patF C h x0 x1 x5 (R1 K 4) (N3 K 5 0 1) := by kernel_rfl
noncomputable def paoB (C : CF) (L : Nat) {β : Type} (kr : K1 β) : Nat → K3 β
 | 0,_,_,_,_ => none
 | n + 1,x5,x0,x1,h => patF C h x0 x1 x5 kr (fun x5 x0 x1 h=>paoB C L kr n x5 x0 x1 h)
theorem epaoB (C : CF) (L : Nat) {β : Type} (K : KK β) : ∀ (n : Nat) (x5 x0 x1 : V) (h : H),loopK (fun fr h K=>execK prog C L 2 34 [4] (g c71a 124) [5,0,1] [(0,[4])] fr h K) n (r3 5 0 1 x5 x0 x1) h K=paoB C L (R1 K 4) n x5 x0 x1 h
 | 0,_,_,_,_ => rfl
 | n + 1,x5,x0,x1,h => (cg (epatF C L h _ x0 x1 x5) (by kernel_rfl)).trans (congrArg _ (w3 fun x5 x0 x1 h=>sl (epaoB C L K n x5 x0 x1 h)))
noncomputable def pagS (kr : K1 β) : O β :=
 paoB C L kr L x5 x0 x1 h
def epagS:=(lp [4] (r3 5 0 1 x5 x0 x1) (epaoB C L K L x5 x0 x1 h) (by kernel_rfl) : _=pagS C L h x0 x1 x5 (R1 K 4))
noncomputable def p71a (kr : K1 β) : O β :=
 pasL h x0 x1 (fun x0 x1 h=>pasM C h x0 x1 kr (fun x0 x1 h=>pasN C h x0 x1 kr (fun x0 x1 h=>patE h x0 x1 (fun x5 x0 x1 h=>pagS C L h x0 x1 x5 kr))))
def ep71a:=(sq K (epasL C L h _ x0 x1) (congrArg _ (w2 fun x0 x1 h=>sn (sq K (epasM C L h _ x0 x1) (congrArg _ (w2 fun x0 x1 h=>sn (sq K (epasN C L h _ x0 x1) (congrArg _ (w2 fun x0 x1 h=>sn (sq K (epatE C L h _ x0 x1) (congrArg _ (w3 fun x5 x0 x1 h=>sn (bk (epagS ..)))) (by kernel_rfl)))) (by kernel_rfl)))) (by kernel_rfl)))) (by kernel_rfl) : _=p71a C L h x0 x1 (R1 K 4))
noncomputable def F71 (C : CF) (L : Nat) (x0 x1 : V) (h : H) : O (V × H) :=
 p71a C L h x0 x1 (fun x4 h=>some (x4,h))
theorem F71eq (Q : Orc) (n : Nat) (x0 x1 : V) (h : H) (q : Q 71 [x0,x1]=none) : callO prog 2 Q (n + 1) 71 [x0,x1] h=F71 (callO prog 2 Q n) n x0 x1 h :=
 (tp q Tryd.func71 (ep71a (callO prog 2 Q n) n h _ x0 x1) (by kernel_rfl)).trans (by kernel_rfl)
noncomputable def c72a : Code := (Tryd.f72.body).getD .skip
noncomputable abbrev E72 (C : CF) (L : Nat) {β : Type} (h : H) (K : KK β) (n : Nat) (o : List Nat) (v : List (Nat × List Nat)) (r : T Value) : O β := execK prog C L 2 8 [4] (g c72a n) o v r h K
noncomputable def p72a (kr : K1 β) : O β :=
 bnd2 (C 80 [x0,x1] h) fun d e =>
 kr d e
theorem ep72a : E72 C L h K 1 [4] [] (r2 0 1 x0 x1)=p72a C h x0 x1 (R1 K 4) := by kernel_rfl
noncomputable def F72 (C : CF) (L : Nat) (x0 x1 : V) (h : H) : O (V × H) :=
 p72a C h x0 x1 (fun x4 h=>some (x4,h))
theorem F72eq (Q : Orc) (n : Nat) (x0 x1 : V) (h : H) (q : Q 72 [x0,x1]=none) : callO prog 2 Q (n + 1) 72 [x0,x1] h=F72 (callO prog 2 Q n) n x0 x1 h :=
 (tp q Tryd.func72 (ep72a (callO prog 2 Q n) n h _ x0 x1) (by kernel_rfl)).trans (by kernel_rfl)
noncomputable def c73a : Code := (Tryd.f73.body).getD .skip
noncomputable abbrev E73 (C : CF) (L : Nat) {β : Type} (h : H) (K : KK β) (n : Nat) (o : List Nat) (v : List (Nat × List Nat)) (r : T Value) : O β := execK prog C L 2 117 [2,3] (g c73a n) o v r h K
noncomputable def paoC (kn : K1 β) : O β :=
 kn x0 h
theorem epaoC : E73 C L h K 2 [0] [] (r1 0 x0)=paoC h x0 (N1 K 0) := by kernel_rfl
noncomputable def paoD (kn : K2 β) : O β :=
 bnd (A.lenStr x0) fun b =>
 kn b x0 h
theorem epaoD : E73 C L h K 6 [4,0] [] (r1 0 x0)=paoD h x0 (N2 K 4 0) := by kernel_rfl
noncomputable def paoE (kr kn : K2 β) : O β :=
 bnd (A.bin prog .lss 3 x4 (.int .i64 1)) fun b =>
 toBK b fun c =>
 (bif c then
 kr (.int .i32 65533) (.int .i64 0) h
 else
 kn x4 x0 h)
theorem epaoE : E73 C L h K 14 [4,0] [] (r2 4 0 x4 x0)=paoE h x0 x4 (R2 K 2 3) (N2 K 4 0) := by kernel_rfl
noncomputable def paoF (kn : K3 β) : O β :=
 bnd (A.indexStr x0 (.int .i64 0)) fun b =>
 kn x4 x0 b h
theorem epaoF : E73 C L h K 30 [4,0,5] [] (r2 4 0 x4 x0)=paoF h x0 x4 (N3 K 4 0 5) := by kernel_rfl
noncomputable def paoG (kn : K4 β) : O β :=
 bnd (A.idxA 256 1 (.pointer (some ⟨0,0,none⟩)) x5) fun b =>
 bnd (A.load false 1 b h) fun c =>
 kn c x4 x0 x5 h
theorem epaoG : E73 C L h K 62 [6,4,0,5] [] (r3 4 0 5 x4 x0 x5)=paoG h x0 x4 x5 (N4 K 6 4 0 5) := by kernel_rfl
noncomputable def paoH (kr : K2 β) (kn : K4 β) : O β :=
 bnd (A.bin prog .geq 5 x6 (.int .u8 240)) fun b =>
 toBK b fun c =>
 (bif c then
 bnd (A.conv prog 5 21 x6) fun e =>
 bnd (A.bin prog .shl 21 e (.int .u64 31)) fun f =>
 bnd (A.bin prog .shr 21 f (.int .u64 31)) fun i =>
 bnd (A.indexStr x0 (.int .i64 0)) fun l =>
 bnd (A.conv prog 5 21 l) fun m =>
 bnd (A.bin prog .andNot 21 m i) fun o =>
 bnd (A.bin prog .and 21 (.int .i32 65533) i) fun q =>
 bnd (A.bin prog .or 21 o q) fun r =>
 kr r (.int .i64 1) h
 else
 kn x6 x4 x0 x5 h)
theorem epaoH : E73 C L h K 126 [6,4,0,5] [] (r4 6 4 0 5 x6 x4 x0 x5)=paoH h x0 x4 x5 x6 (R2 K 2 3) (N4 K 6 4 0 5) := by kernel_rfl
noncomputable def pasP (kn : K5 β) : O β :=
 bnd (A.bin prog .and 5 x6 (.int .u8 7)) fun b =>
 bnd (A.conv prog 5 3 b) fun c =>
 kn x6 x4 c x0 x5 h
theorem epasP : E73 C L h K 254 [6,4,8,0,5] [] (r4 6 4 0 5 x6 x4 x0 x5)=pasP h x0 x4 x5 x6 (N5 K 6 4 8 0 5) := by kernel_rfl
noncomputable def pasQ (kn : K5 β) : O β :=
 bnd (A.bin prog .shr 5 x6 (.int .u64 4)) fun b =>
 bnd (A.idxA 16 2 (.pointer (some ⟨1,0,none⟩)) b) fun c =>
 bnd (A.load true 2 c h) fun d =>
 bnd2 (A.box 2 Z114 h) fun e f =>
 bnd (A.store 2 e d f) fun j =>
 kn x4 e x8 x0 x5 j
theorem epasQ : E73 C L h K 510 [4,9,8,0,5] [] (r5 6 4 8 0 5 x6 x4 x8 x0 x5)=pasQ h x0 x4 x5 x6 x8 (N5 K 4 9 8 0 5) := by kernel_rfl
noncomputable def pajB (kr : K2 β) (kn : K4 β) : O β :=
 bnd (A.bin prog .lss 3 x4 x8) fun c =>
 toBK c fun d =>
 (bif d then
 kr (.int .i32 65533) (.int .i64 1) h
 else
 kn x9 x8 x0 x5 h)
theorem epajB : E73 C L h K 1022 [9,8,0,5] [] (r5 4 9 8 0 5 x4 x9 x8 x0 x5)=pajB h x0 x4 x5 x8 x9 (R2 K 2 3) (N4 K 9 8 0 5) := by kernel_rfl
noncomputable def pakV (kn : K5 β) : O β :=
 bnd (A.indexStr x0 (.int .i64 1)) fun b =>
 kn x9 x8 x0 x5 b h
theorem epakV : E73 C L h K 2046 [9,8,0,5,10] [] (r4 9 8 0 5 x9 x8 x0 x5)=pakV h x0 x5 x8 x9 (N5 K 9 8 0 5 10) := by kernel_rfl
noncomputable def pakW (kr : K2 β) (kn : K4 β) : O β :=
 bnd (A.fieldAddr 0 x9) fun b =>
 bnd (A.load false 1 b h) fun c =>
 bnd (A.bin prog .lss 5 x10 c) fun d =>
 toBK d fun e =>
 (bif e then
 kr (.int .i32 65533) (.int .i64 1) h
 else
 bnd (A.fieldAddr 1 x9) fun l =>
 bnd (A.load false 1 l h) fun m =>
 bnd (A.bin prog .lss 5 m x10) fun o =>
 toBK o fun p =>
 (bif p then
 kr (.int .i32 65533) (.int .i64 1) h
 else
 kn x8 x0 x5 x10 h))
theorem epakW : E73 C L h K 4094 [8,0,5,10] [] (r5 9 8 0 5 10 x9 x8 x0 x5 x10)=pakW h x0 x5 x8 x9 x10 (R2 K 2 3) (N4 K 8 0 5 10) := by kernel_rfl
noncomputable def paoI (kr : K2 β) (kn : K4 β) : O β :=
 bnd (A.bin prog .leq 3 x8 (.int .i64 2)) fun b =>
 toBK b fun c =>
 (bif c then
 bnd (A.bin prog .and 5 x5 (.int .u8 31)) fun e =>
 bnd (A.conv prog 5 21 e) fun f =>
 bnd (A.bin prog .shl 21 f (.int .u64 6)) fun i =>
 bnd (A.bin prog .and 5 x10 (.int .u8 63)) fun k =>
 bnd (A.conv prog 5 21 k) fun l =>
 bnd (A.bin prog .or 21 i l) fun m =>
 kr m (.int .i64 2) h
 else
 kn x8 x0 x5 x10 h)
theorem epaoI : E73 C L h K 8190 [8,0,5,10] [] (r4 8 0 5 10 x8 x0 x5 x10)=paoI h x0 x5 x8 x10 (R2 K 2 3) (N4 K 8 0 5 10) := by kernel_rfl
noncomputable def pasR (kn : K5 β) : O β :=
 bnd (A.indexStr x0 (.int .i64 2)) fun b =>
 kn x8 x0 x5 x10 b h
theorem epasR : E73 C L h K 16382 [8,0,5,10,11] [] (r4 8 0 5 10 x8 x0 x5 x10)=pasR h x0 x5 x8 x10 (N5 K 8 0 5 10 11) := by kernel_rfl
noncomputable def paiM (kr : K2 β) (kn : K5 β) : O β :=
 bnd (A.bin prog .lss 5 x11 (.int .u8 128)) fun b =>
 toBK b fun c =>
 (bif c then
 kr (.int .i32 65533) (.int .i64 1) h
 else
 bnd (A.bin prog .lss 5 (.int .u8 191) x11) fun k =>
 toBK k fun l =>
 (bif l then
 kr (.int .i32 65533) (.int .i64 1) h
 else
 kn x8 x0 x5 x10 x11 h))
theorem epaiM : E73 C L h K 32766 [8,0,5,10,11] [] (r5 8 0 5 10 11 x8 x0 x5 x10 x11)=paiM h x0 x5 x8 x10 x11 (R2 K 2 3) (N5 K 8 0 5 10 11) := by kernel_rfl
noncomputable def pakX (kr : K2 β) (kn : K4 β) : O β :=
 bnd (A.bin prog .leq 3 x8 (.int .i64 3)) fun b =>
 toBK b fun c =>
 (bif c then
 bnd (A.bin prog .and 5 x5 (.int .u8 15)) fun e =>
 bnd (A.conv prog 5 21 e) fun f =>
 bnd (A.bin prog .shl 21 f (.int .u64 12)) fun i =>
 bnd (A.bin prog .and 5 x10 (.int .u8 63)) fun k =>
 bnd (A.conv prog 5 21 k) fun l =>
 bnd (A.bin prog .shl 21 l (.int .u64 6)) fun m =>
 bnd (A.bin prog .or 21 i m) fun n =>
 bnd (A.bin prog .and 5 x11 (.int .u8 63)) fun p =>
 bnd (A.conv prog 5 21 p) fun q =>
 bnd (A.bin prog .or 21 n q) fun r =>
 kr r (.int .i64 3) h
 else
 kn x0 x5 x10 x11 h)
theorem epakX : E73 C L h K 65534 [0,5,10,11] [] (r5 8 0 5 10 11 x8 x0 x5 x10 x11)=pakX h x0 x5 x8 x10 x11 (R2 K 2 3) (N4 K 0 5 10 11) := by kernel_rfl
noncomputable def pamM (kr : K2 β) : O β :=
 bnd (A.indexStr x0 (.int .i64 3)) fun b =>
 bnd (A.bin prog .lss 5 b (.int .u8 128)) fun e =>
 toBK e fun f =>
 (bif f then
 kr (.int .i32 65533) (.int .i64 1) h
 else
 bnd (A.bin prog .lss 5 (.int .u8 191) b) fun n =>
 toBK n fun o =>
 (bif o then
 kr (.int .i32 65533) (.int .i64 1) h
 else
 bnd (A.bin prog .and 5 x5 (.int .u8 7)) fun t =>
 bnd (A.conv prog 5 21 t) fun u =>
 bnd (A.bin prog .shl 21 u (.int .u64 18)) fun v =>
 bnd (A.bin prog .and 5 x10 (.int .u8 63)) fun y =>
 bnd (A.conv prog 5 21 y) fun z =>
 bnd (A.bin prog .shl 21 z (.int .u64 12)) fun a1 =>
 bnd (A.bin prog .or 21 v a1) fun b1 =>
 bnd (A.bin prog .and 5 x11 (.int .u8 63)) fun d1 =>
 bnd (A.conv prog 5 21 d1) fun e1 =>
 bnd (A.bin prog .shl 21 e1 (.int .u64 6)) fun f1 =>
 bnd (A.bin prog .or 21 b1 f1) fun i1 =>
 bnd (A.bin prog .and 5 b (.int .u8 63)) fun k1 =>
 bnd (A.conv prog 5 21 k1) fun l1 =>
 bnd (A.bin prog .or 21 i1 l1) fun m1 =>
 kr m1 (.int .i64 4) h))
theorem epamM : E73 C L h K 65535 [2,3] [] (r4 0 5 10 11 x0 x5 x10 x11)=pamM h x0 x5 x10 x11 (R2 K 2 3) := by kernel_rfl
noncomputable def paeM (C : CF) (L : Nat) {β : Type} (x8 x0 x5 x10 x11 : V) (h : H) (kr : K2 β) : O β :=
 paiM h x0 x5 x8 x10 x11 kr (fun x8 x0 x5 x10 x11 h=>pakX h x0 x5 x8 x10 x11 kr (fun x0 x5 x10 x11 h=>pamM h x0 x5 x10 x11 kr))
def epaeM:=(sq K (epaiM C L h _ x0 x5 x8 x10 x11) (congrArg _ (w5 fun x8 x0 x5 x10 x11 h=>sn (sq K (epakX C L h _ x0 x5 x8 x10 x11) (congrArg _ (w4 fun x0 x5 x10 x11 h=>sn (epamM ..))) (by kernel_rfl)))) (by kernel_rfl) : _=paeM C L x8 x0 x5 x10 x11 h (R2 K 2 3))
noncomputable def pabU (C : CF) (L : Nat) {β : Type} (x4 x9 x8 x0 x5 : V) (h : H) (kr : K2 β) : O β :=
 pajB h x0 x4 x5 x8 x9 kr (fun x9 x8 x0 x5 h=>pakV h x0 x5 x8 x9 (fun x9 x8 x0 x5 x10 h=>pakW h x0 x5 x8 x9 x10 kr (fun x8 x0 x5 x10 h=>paoI h x0 x5 x8 x10 kr (fun x8 x0 x5 x10 h=>pasR h x0 x5 x8 x10 (fun x8 x0 x5 x10 x11 h=>paeM C L x8 x0 x5 x10 x11 h kr)))))
def epabU:=(sq K (epajB C L h _ x0 x4 x5 x8 x9) (congrArg _ (w4 fun x9 x8 x0 x5 h=>sn (sq K (epakV C L h _ x0 x5 x8 x9) (congrArg _ (w5 fun x9 x8 x0 x5 x10 h=>sn (sq K (epakW C L h _ x0 x5 x8 x9 x10) (congrArg _ (w4 fun x8 x0 x5 x10 h=>sn (sq K (epaoI C L h _ x0 x5 x8 x10) (congrArg _ (w4 fun x8 x0 x5 x10 h=>sn (sq K (epasR C L h _ x0 x5 x8 x10) (congrArg _ (w5 fun x8 x0 x5 x10 x11 h=>sn (epaeM ..))) (by kernel_rfl)))) (by kernel_rfl)))) (by kernel_rfl)))) (by kernel_rfl)))) (by kernel_rfl) : _=pabU C L x4 x9 x8 x0 x5 h (R2 K 2 3))
noncomputable def p73a (C : CF) (L : Nat) {β : Type} (x0 : V) (h : H) (kr : K2 β) : O β :=
 paoC h x0 (fun x0 h=>paoD h x0 (fun x4 x0 h=>paoE h x0 x4 kr (fun x4 x0 h=>paoF h x0 x4 (fun x4 x0 x5 h=>paoG h x0 x4 x5 (fun x6 x4 x0 x5 h=>paoH h x0 x4 x5 x6 kr (fun x6 x4 x0 x5 h=>pasP h x0 x4 x5 x6 (fun x6 x4 x8 x0 x5 h=>pasQ h x0 x4 x5 x6 x8 (fun x4 x9 x8 x0 x5 h=>pabU C L x4 x9 x8 x0 x5 h kr))))))))
def ep73a:=(sq K (epaoC C L h _ x0) (congrArg _ (w1 fun x0 h=>sn (sq K (epaoD C L h _ x0) (congrArg _ (w2 fun x4 x0 h=>sn (sq K (epaoE C L h _ x0 x4) (congrArg _ (w2 fun x4 x0 h=>sn (sq K (epaoF C L h _ x0 x4) (congrArg _ (w3 fun x4 x0 x5 h=>sn (sq K (epaoG C L h _ x0 x4 x5) (congrArg _ (w4 fun x6 x4 x0 x5 h=>sn (sq K (epaoH C L h _ x0 x4 x5 x6) (congrArg _ (w4 fun x6 x4 x0 x5 h=>sn (sq K (epasP C L h _ x0 x4 x5 x6) (congrArg _ (w5 fun x6 x4 x8 x0 x5 h=>sn (sq K (epasQ C L h _ x0 x4 x5 x6 x8) (congrArg _ (w5 fun x4 x9 x8 x0 x5 h=>sn (epabU ..))) (by kernel_rfl)))) (by kernel_rfl)))) (by kernel_rfl)))) (by kernel_rfl)))) (by kernel_rfl)))) (by kernel_rfl)))) (by kernel_rfl)))) (by kernel_rfl) : _=p73a C L x0 h (R2 K 2 3))
noncomputable def F73 (C : CF) (L : Nat) (x0 : V) (h : H) : O (V × H) :=
 p73a C L x0 h (fun x2 x3 h=>some (.tuple ⟨[x2,x3]⟩,h))
theorem F73eq (Q : Orc) (n : Nat) (x0 : V) (h : H) (q : Q 73 [x0]=none) : callO prog 2 Q (n + 1) 73 [x0] h=F73 (callO prog 2 Q n) n x0 h :=
 (tp q Tryd.func73 (ep73a (callO prog 2 Q n) n h _ x0) (by kernel_rfl)).trans (by kernel_rfl)
noncomputable def c74a : Code := (Tryd.f74.body).getD .skip
noncomputable abbrev E74 (C : CF) (L : Nat) {β : Type} (h : H) (K : KK β) (n : Nat) (o : List Nat) (v : List (Nat × List Nat)) (r : T Value) : O β := execK prog C L 2 8 [4] (g c74a n) o v r h K
noncomputable def p74a (kr : K1 β) : O β :=
 bnd2 (C 81 [x0,x1] h) fun d e =>
 kr d e
theorem ep74a : E74 C L h K 1 [4] [] (r2 0 1 x0 x1)=p74a C h x0 x1 (R1 K 4) := by kernel_rfl
noncomputable def F74 (C : CF) (L : Nat) (x0 x1 : V) (h : H) : O (V × H) :=
 p74a C h x0 x1 (fun x4 h=>some (x4,h))
theorem F74eq (Q : Orc) (n : Nat) (x0 x1 : V) (h : H) (q : Q 74 [x0,x1]=none) : callO prog 2 Q (n + 1) 74 [x0,x1] h=F74 (callO prog 2 Q n) n x0 x1 h :=
 (tp q Tryd.func74 (ep74a (callO prog 2 Q n) n h _ x0 x1) (by kernel_rfl)).trans (by kernel_rfl)
noncomputable def c75a : Code := (Tryd.f75.body).getD .skip
noncomputable abbrev E75 (C : CF) (L : Nat) {β : Type} (h : H) (K : KK β) (n : Nat) (o : List Nat) (v : List (Nat × List Nat)) (r : T Value) : O β := execK prog C L 2 17 [2] (g c75a n) o v r h K
noncomputable def pakY (kn : K1 β) : O β :=
 kn x0 h
theorem epakY : E75 C L h K 2 [0] [] (r1 0 x0)=pakY h x0 (N1 K 0) := by kernel_rfl
noncomputable def pakZ (kn : K2 β) : O β :=
 bnd (A.bin prog .leq 21 (.int .i32 0) x0) fun b =>
 toBK b fun c =>
 (bif c then
 bnd (A.bin prog .lss 21 x0 (.int .i32 55296)) fun f =>
 toBK f fun i =>
 kn (.bool i) x0 h
 else
 kn (.bool false) x0 h)
theorem epakZ : E75 C L h K 24 [3,0] [(0,[])] (r1 0 x0)=pakZ h x0 (N2 K 3 0) := by kernel_rfl
noncomputable def pasS (kr : K1 β) : O β :=
 kr (.bool true) h
theorem epasS : E75 C L h K 50 [] [(0,[])] (r2 3 0 x3 x0)=pasS h (R1 K 2) := by kernel_rfl
noncomputable def pamN (kr : K1 β) (kn : K0 β) : O β :=
 bnd (A.bin prog .lss 21 (.int .i32 57343) x0) fun b =>
 toBK b fun c =>
 (bif c then
 bnd (A.bin prog .leq 21 x0 (.int .i32 1114111)) fun f =>
 toBK f fun i =>
 (bif i then
 kr (.bool true) h
 else
 kn h)
 else
 kn h)
theorem epamN : E75 C L h K 51 [] [(0,[])] (r2 3 0 x3 x0)=pamN h x0 (R1 K 2) (N0 K) := by kernel_rfl
noncomputable def pagJ (kr : K1 β) (kn : K0 β) : O β :=
 condV x3 (pasS h kr) (pamN h x0 kr kn)
def epagJ:=(cd K (.tmp 3) x3 (epasS C L h K x0 x3) (epamN C L h K x0 x3) (by kernel_rfl) : _=pagJ h x0 x3 (R1 K 2) (N0 K))
noncomputable def paeK (kr : K1 β) (kn : K0 β) : O β :=
 pakZ h x0 (fun x3 x0 h=>pagJ h x0 x3 kr kn)
def epaeK:=(sq K (epakZ C L h _ x0) (congrArg _ (w2 fun x3 x0 h=>sn (epagJ ..))) (by kernel_rfl) : _=paeK h x0 (R1 K 2) (N0 K))
noncomputable def paoJ (kr : K1 β) : O β :=
 kr (.bool false) h
theorem epaoJ : E75 C L h K 7 [2] [] r0=paoJ h (R1 K 2) := by kernel_rfl
noncomputable def p75a (kr : K1 β) : O β :=
 pakY h x0 (fun x0 h=>paeK h x0 kr (fun h=>paoJ h kr))
def ep75a:=(sq K (epakY C L h _ x0) (congrArg _ (w1 fun x0 h=>sn (sq K (bk (epaeK C L h _ x0)) (congrArg _ (w0 fun h=>sn (epaoJ ..))) (by kernel_rfl)))) (by kernel_rfl) : _=p75a h x0 (R1 K 2))
noncomputable def F75 (C : CF) (L : Nat) (x0 : V) (h : H) : O (V × H) :=
 p75a h x0 (fun x2 h=>some (x2,h))
theorem F75eq (Q : Orc) (n : Nat) (x0 : V) (h : H) (q : Q 75 [x0]=none) : callO prog 2 Q (n + 1) 75 [x0] h=F75 (callO prog 2 Q n) n x0 h :=
 (tp q Tryd.func75 (ep75a (callO prog 2 Q n) n h _ x0) (by kernel_rfl)).trans (by kernel_rfl)
noncomputable def c80a : Code := (Tryd.f80.body).getD .skip
noncomputable abbrev E80 (C : CF) (L : Nat) {β : Type} (h : H) (K : KK β) (n : Nat) (o : List Nat) (v : List (Nat × List Nat)) (r : T Value) : O β := execK prog C L 2 143 [4] (g c80a n) o v r h K
noncomputable def paoL (kn : K2 β) : O β :=
 kn x0 x1 h
theorem epaoL : E80 C L h K 2 [0,1] [] (r2 0 1 x0 x1)=paoL h x0 x1 (N2 K 0 1) := by kernel_rfl
noncomputable def paoM (kn : K3 β) : O β :=
 bnd (A.lenStr x1) fun b =>
 kn x0 x1 b h
theorem epaoM : E80 C L h K 6 [0,1,5] [] (r2 0 1 x0 x1)=paoM h x0 x1 (N3 K 0 1 5) := by kernel_rfl
noncomputable def paoN (kn : K4 β) : O β :=
 bnd (A.bin prog .eql 3 x5 (.int .i64 0)) fun b =>
 toBK b fun c =>
 (bif c then
 kn (.bool true) x0 x1 x5 h
 else
 bnd (A.bin prog .eql 9 x1 x0) fun k =>
 toBK k fun l =>
 kn (.bool l) x0 x1 x5 h)
theorem epaoN : E80 C L h K 56 [16,0,1,5] [(0,[0,1,5])] (r3 0 1 5 x0 x1 x5)=paoN h x0 x1 x5 (N4 K 16 0 1 5) := by kernel_rfl
noncomputable def pasV (kr : K1 β) : O β :=
 kr (.int .i64 0) h
theorem epasV : E80 C L h K 114 [0,1,5] [(0,[0,1,5])] (r4 16 0 1 5 x16 x0 x1 x5)=pasV h (R1 K 4) := by kernel_rfl
noncomputable def pasT (kn : K4 β) : O β :=
 bnd (A.bin prog .eql 3 x5 (.int .i64 1)) fun b =>
 toBK b fun c =>
 kn (.bool c) x0 x1 x5 h
theorem epasT : E80 C L h K 230 [24,0,1,5] [(0,[0,1,5])] (r4 16 0 1 5 x16 x0 x1 x5)=pasT h x0 x1 x5 (N4 K 24 0 1 5) := by kernel_rfl
noncomputable def pasU (kr : K1 β) : O β :=
 bnd (A.indexStr x1 (.int .i64 0)) fun c =>
 bnd2 (C 81 [x0,c] h) fun d e =>
 kr d e
theorem epasU : E80 C L h K 462 [0,1,5] [(0,[0,1,5])] (r4 24 0 1 5 x24 x0 x1 x5)=pasU C h x0 x1 (R1 K 4) := by kernel_rfl
noncomputable def patG (kn : K4 β) : O β :=
 bnd (A.lenStr x0) fun c =>
 bnd (A.bin prog .geq 3 x5 c) fun d =>
 toBK d fun e =>
 kn (.bool e) x0 x1 x5 h
theorem epatG : E80 C L h K 926 [31,0,1,5] [(0,[0,1,5])] (r4 24 0 1 5 x24 x0 x1 x5)=patG h x0 x1 x5 (N4 K 31 0 1 5) := by kernel_rfl
noncomputable def patI (kr : K1 β) : O β :=
 kr (.int .i64 (-1)) h
theorem epatI : E80 C L h K 1854 [0,1,5] [(0,[0,1,5])] (r4 31 0 1 5 x31 x0 x1 x5)=patI h (R1 K 4) := by kernel_rfl
noncomputable def patH (kr : K1 β) (kn : K3 β) : O β :=
 bnd (none) fun b =>
 bnd (A.bin prog .leq 3 x5 b) fun c =>
 toBK c fun d =>
 (bif d then
 bnd (A.lenStr x0) fun i =>
 bnd (A.bin prog .leq 3 i (.int .i64 64)) fun j =>
 toBK j fun k =>
 (bif k then
 bnd2 (C 77 [x0,x1] h) fun p q =>
 kr p q
 else
 kn x0 x1 x5 h)
 else
 kn x0 x1 x5 h)
theorem epatH : E80 C L h K 1855 [0,1,5] [(0,[0,1,5])] (r4 31 0 1 5 x31 x0 x1 x5)=patH C h x0 x1 x5 (R1 K 4) (N3 K 0 1 5) := by kernel_rfl
noncomputable def pagW (kr : K1 β) (kn : K3 β) : O β :=
 condV x31 (patI h kr) (patH C h x0 x1 x5 kr kn)
def epagW:=(cd K (.tmp 31) x31 (epatI C L h K x0 x1 x5 x31) (epatH C L h K x0 x1 x5 x31) (by kernel_rfl) : _=pagW C h x0 x1 x5 x31 (R1 K 4) (N3 K 0 1 5))
noncomputable def pagC (kr : K1 β) (kn : K3 β) : O β :=
 patG h x0 x1 x5 (fun x31 x0 x1 x5 h=>pagW C h x0 x1 x5 x31 kr kn)
def epagC:=(sq K (epatG C L h _ x0 x1 x5 x24) (congrArg _ (w4 fun x31 x0 x1 x5 h=>sn (epagW ..))) (by kernel_rfl) : _=pagC C h x0 x1 x5 (R1 K 4) (N3 K 0 1 5))
noncomputable def paeR (kr : K1 β) (kn : K3 β) : O β :=
 condV x24 (pasU C h x0 x1 kr) (pagC C h x0 x1 x5 kr kn)
def epaeR:=(cd K (.tmp 24) x24 (epasU C L h K x0 x1 x5 x24) (epagC C L h K x0 x1 x5 x24) (by kernel_rfl) : _=paeR C h x0 x1 x5 x24 (R1 K 4) (N3 K 0 1 5))
noncomputable def padS (kr : K1 β) (kn : K3 β) : O β :=
 pasT h x0 x1 x5 (fun x24 x0 x1 x5 h=>paeR C h x0 x1 x5 x24 kr kn)
def epadS:=(sq K (epasT C L h _ x0 x1 x5 x16) (congrArg _ (w4 fun x24 x0 x1 x5 h=>sn (epaeR ..))) (by kernel_rfl) : _=padS C h x0 x1 x5 (R1 K 4) (N3 K 0 1 5))
noncomputable def pacZ (kr : K1 β) (kn : K3 β) : O β :=
 condV x16 (pasV h kr) (padS C h x0 x1 x5 kr kn)
def epacZ:=(cd K (.tmp 16) x16 (epasV C L h K x0 x1 x5 x16) (epadS C L h K x0 x1 x5 x16) (by kernel_rfl) : _=pacZ C h x0 x1 x5 x16 (R1 K 4) (N3 K 0 1 5))
noncomputable def pacM (kr : K1 β) (kn : K3 β) : O β :=
 paoN h x0 x1 x5 (fun x16 x0 x1 x5 h=>pacZ C h x0 x1 x5 x16 kr kn)
def epacM:=(sq K (epaoN C L h _ x0 x1 x5) (congrArg _ (w4 fun x16 x0 x1 x5 h=>sn (epacZ ..))) (by kernel_rfl) : _=pacM C h x0 x1 x5 (R1 K 4) (N3 K 0 1 5))
noncomputable def patJ (kn : K4 β) : O β :=
 bnd (A.indexStr x1 (.int .i64 0)) fun b =>
 kn x0 x1 x5 b h
theorem epatJ : E80 C L h K 30 [0,1,5,6] [] (r3 0 1 5 x0 x1 x5)=patJ h x0 x1 x5 (N4 K 0 1 5 6) := by kernel_rfl
noncomputable def patK (kn : K5 β) : O β :=
 bnd (A.indexStr x1 (.int .i64 1)) fun b =>
 kn x0 x1 x5 b x6 h
theorem epatK : E80 C L h K 62 [0,1,5,7,6] [] (r4 0 1 5 6 x0 x1 x5 x6)=patK h x0 x1 x5 x6 (N5 K 0 1 5 7 6) := by kernel_rfl
noncomputable def patL (kn : K6 β) : O β :=
 kn x0 x1 x5 (.int .i64 0) x7 x6 h
theorem epatL : E80 C L h K 126 [0,1,5,8,7,6] [] (r5 0 1 5 7 6 x0 x1 x5 x7 x6)=patL h x0 x1 x5 x6 x7 (N6 K 0 1 5 8 7 6) := by kernel_rfl
noncomputable def patM (kn : K7 β) : O β :=
 bnd (A.lenStr x0) fun b =>
 bnd (A.bin prog .sub 3 b x5) fun d =>
 bnd (A.bin prog .add 3 d (.int .i64 1)) fun e =>
 kn x0 x1 e x5 x8 x7 x6 h
theorem epatM : E80 C L h K 254 [0,1,9,5,8,7,6] [] (r6 0 1 5 8 7 6 x0 x1 x5 x8 x7 x6)=patM h x0 x1 x5 x6 x7 x8 (N7 K 0 1 9 5 8 7 6) := by kernel_rfl
noncomputable def patN (kn : K8 β) : O β :=
 kn x0 x1 x9 x5 (.int .i64 0) x8 x7 x6 h
theorem epatN : E80 C L h K 510 [0,1,9,5,10,8,7,6] [] (r7 0 1 9 5 8 7 6 x0 x1 x9 x5 x8 x7 x6)=patN h x0 x1 x5 x6 x7 x8 x9 (N8 K 0 1 9 5 10 8 7 6) := by kernel_rfl
noncomputable def patO (kx1 : K0 β) (kn : K8 β) : O β :=
 bnd (A.bin prog .lss 3 x8 x9) fun c =>
 toBK c fun d =>
 (bif d then
 kn x8 x10 x0 x1 x9 x5 x7 x6 h
 else
 kx1 h)
theorem epatO : E80 C L h K 8176 [8,10,0,1,9,5,7,6] [(1,[])] (r8 0 1 9 5 10 8 7 6 x0 x1 x9 x5 x10 x8 x7 x6)=patO h x0 x1 x5 x6 x7 x8 x9 x10 (X0 K 1) (N8 K 8 10 0 1 9 5 7 6) := by kernel_rfl
noncomputable def patP (kr : K1 β) (kn : K8 β) : O β :=
 bnd (A.indexStr x0 x8) fun c =>
 bnd (A.bin prog .neq 5 c x6) fun e =>
 toBK e fun f =>
 (bif f then
 bnd (A.bin prog .add 3 x8 (.int .i64 1)) fun k =>
 bnd (A.sliceStr x0 (some k) (some x9)) fun m =>
 bnd2 (C 81 [m,x6] h) fun o p =>
 bnd (A.bin prog .lss 3 o (.int .i64 0)) fun s =>
 toBK s fun t =>
 (bif t then
 kr (.int .i64 (-1)) p
 else
 bnd (A.bin prog .add 3 o (.int .i64 1)) fun y =>
 bnd (A.bin prog .add 3 x8 y) fun z =>
 kn z x10 x0 x1 x9 x5 x7 x6 p)
 else
 kn x8 x10 x0 x1 x9 x5 x7 x6 h)
theorem epatP : E80 C L h K 32708 [8,10,0,1,9,5,7,6] [(2,[0,1,9,5,10,8,7,6]),(1,[])] (r8 8 10 0 1 9 5 7 6 x8 x10 x0 x1 x9 x5 x7 x6)=patP C h x0 x1 x5 x6 x7 x8 x9 x10 (R1 K 4) (N8 K 8 10 0 1 9 5 7 6) := by kernel_rfl
noncomputable def patQ (kr : K1 β) (kn : K8 β) : O β :=
 bnd (A.bin prog .add 3 x8 (.int .i64 1)) fun c =>
 bnd (A.indexStr x0 c) fun d =>
 bnd (A.bin prog .eql 5 d x7) fun f =>
 toBK f fun i =>
 (bif i then
 bnd (A.bin prog .add 3 x8 x5) fun o =>
 bnd (A.sliceStr x0 (some x8) (some o)) fun p =>
 bnd (A.bin prog .eql 9 p x1) fun r =>
 toBK r fun s =>
 (bif s then
 kr x8 h
 else
 kn x8 x10 x0 x1 x9 x5 x7 x6 h)
 else
 kn x8 x10 x0 x1 x9 x5 x7 x6 h)
theorem epatQ : E80 C L h K 65418 [8,10,0,1,9,5,7,6] [(2,[0,1,9,5,10,8,7,6]),(1,[])] (r8 8 10 0 1 9 5 7 6 x8 x10 x0 x1 x9 x5 x7 x6)=patQ h x0 x1 x5 x6 x7 x8 x9 x10 (R1 K 4) (N8 K 8 10 0 1 9 5 7 6) := by kernel_rfl
noncomputable def patR (kn : K8 β) : O β :=
 bnd (A.bin prog .add 3 x8 (.int .i64 1)) fun b =>
 kn x10 x0 x1 x9 x5 b x7 x6 h
theorem epatR : E80 C L h K 130838 [10,0,1,9,5,8,7,6] [(2,[0,1,9,5,10,8,7,6]),(1,[])] (r8 8 10 0 1 9 5 7 6 x8 x10 x0 x1 x9 x5 x7 x6)=patR h x0 x1 x5 x6 x7 x8 x9 x10 (N8 K 10 0 1 9 5 8 7 6) := by kernel_rfl
noncomputable def patS (kn : K8 β) : O β :=
 bnd (A.bin prog .add 3 x10 (.int .i64 1)) fun b =>
 kn x0 x1 x9 x5 b x8 x7 x6 h
theorem epatS : E80 C L h K 261678 [0,1,9,5,10,8,7,6] [(2,[0,1,9,5,10,8,7,6]),(1,[])] (r8 10 0 1 9 5 8 7 6 x10 x0 x1 x9 x5 x8 x7 x6)=patS h x0 x1 x5 x6 x7 x8 x9 x10 (N8 K 0 1 9 5 10 8 7 6) := by kernel_rfl
noncomputable def patT (kn : K9 β) : O β :=
 bnd (none) fun b =>
 bnd (A.bin prog .leq 3 x5 b) fun c =>
 toBK c fun d =>
 (bif d then
 bnd2 (C 76 [x8] h) fun j k =>
 bnd (A.bin prog .gtr 3 x10 j) fun l =>
 toBK l fun m =>
 kn (.bool m) x0 x1 x9 x5 x10 x8 x7 x6 k
 else
 kn (.bool false) x0 x1 x9 x5 x10 x8 x7 x6 h)
theorem epatT : E80 C L h K 523358 [107,0,1,9,5,10,8,7,6] [(2,[0,1,9,5,10,8,7,6]),(1,[])] (r8 0 1 9 5 10 8 7 6 x0 x1 x9 x5 x10 x8 x7 x6)=patT C h x0 x1 x5 x6 x7 x8 x9 x10 (N9 K 107 0 1 9 5 10 8 7 6) := by kernel_rfl
noncomputable def patW (kr : K1 β) : O β :=
 bnd (A.sliceStr x0 (some x8) none) fun c =>
 bnd2 (C 77 [c,x1] h) fun e f =>
 bnd (A.bin prog .geq 3 e (.int .i64 0)) fun k =>
 toBK k fun l =>
 (bif l then
 bnd (A.bin prog .add 3 e x8) fun o =>
 kr o f
 else
 kr (.int .i64 (-1)) f)
theorem epatW : E80 C L h K 1046718 [0,1,9,5,10,8,7,6] [(2,[0,1,9,5,10,8,7,6]),(1,[])] (r9 107 0 1 9 5 10 8 7 6 x107 x0 x1 x9 x5 x10 x8 x7 x6)=patW C h x0 x1 x8 (R1 K 4) := by kernel_rfl
noncomputable def patU (kn : K9 β) : O β :=
 bnd (none) fun b =>
 bnd (A.bin prog .gtr 3 x5 b) fun c =>
 toBK c fun d =>
 (bif d then
 bnd (A.bin prog .shr 3 x8 (.int .u64 4)) fun j =>
 bnd (A.bin prog .add 3 (.int .i64 4) j) fun k =>
 bnd (A.bin prog .geq 3 x10 k) fun l =>
 toBK l fun m =>
 (bif m then
 bnd (A.bin prog .lss 3 x8 x9) fun r =>
 toBK r fun s =>
 kn (.bool s) x0 x1 x9 x5 x10 x8 x7 x6 h
 else
 kn (.bool false) x0 x1 x9 x5 x10 x8 x7 x6 h)
 else
 kn (.bool false) x0 x1 x9 x5 x10 x8 x7 x6 h)
theorem epatU : E80 C L h K 2093438 [132,0,1,9,5,10,8,7,6] [(2,[0,1,9,5,10,8,7,6]),(1,[])] (r9 107 0 1 9 5 10 8 7 6 x107 x0 x1 x9 x5 x10 x8 x7 x6)=patU h x0 x1 x5 x6 x7 x8 x9 x10 (N9 K 132 0 1 9 5 10 8 7 6) := by kernel_rfl
noncomputable def patV (kr : K1 β) (kn : K8 β) : O β :=
 condV x132 (
 bnd (A.sliceStr x0 (some x8) none) fun c =>
 bnd2 (C 82 [c,x1] h) fun e f =>
 bnd (A.bin prog .lss 3 e (.int .i64 0)) fun k =>
 toBK k fun l =>
 (bif l then
 kr (.int .i64 (-1)) f
 else
 bnd (A.bin prog .add 3 x8 e) fun p =>
 kr p f)) (
 kn x0 x1 x9 x5 x10 x8 x7 x6 h)
theorem epatV : E80 C L h K 2093439 [0,1,9,5,10,8,7,6] [(2,[0,1,9,5,10,8,7,6]),(1,[])] (r9 132 0 1 9 5 10 8 7 6 x132 x0 x1 x9 x5 x10 x8 x7 x6)=patV C h x0 x1 x5 x6 x7 x8 x9 x10 x132 (R1 K 4) (N8 K 0 1 9 5 10 8 7 6) := by kernel_rfl
noncomputable def pagX (kr : K1 β) (kn : K8 β) : O β :=
 patU h x0 x1 x5 x6 x7 x8 x9 x10 (fun x132 x0 x1 x9 x5 x10 x8 x7 x6 h=>patV C h x0 x1 x5 x6 x7 x8 x9 x10 x132 kr kn)
def epagX:=(sq K (epatU C L h _ x0 x1 x5 x6 x7 x8 x9 x10 x107) (congrArg _ (w9 fun x132 x0 x1 x9 x5 x10 x8 x7 x6 h=>sn (epatV ..))) (by kernel_rfl) : _=pagX C h x0 x1 x5 x6 x7 x8 x9 x10 (R1 K 4) (N8 K 0 1 9 5 10 8 7 6))
noncomputable def pagD (kr : K1 β) (kn : K8 β) : O β :=
 condV x107 (patW C h x0 x1 x8 kr) (pagX C h x0 x1 x5 x6 x7 x8 x9 x10 kr kn)
def epagD:=(cd K (.tmp 107) x107 (epatW C L h K x0 x1 x5 x6 x7 x8 x9 x10 x107) (epagX C L h K x0 x1 x5 x6 x7 x8 x9 x10 x107) (by kernel_rfl) : _=pagD C h x0 x1 x5 x6 x7 x8 x9 x10 x107 (R1 K 4) (N8 K 0 1 9 5 10 8 7 6))
noncomputable def padI (kr : K1 β) (kn : K8 β) : O β :=
 patP C h x0 x1 x5 x6 x7 x8 x9 x10 kr (fun x8 x10 x0 x1 x9 x5 x7 x6 h=>patQ h x0 x1 x5 x6 x7 x8 x9 x10 kr (fun x8 x10 x0 x1 x9 x5 x7 x6 h=>patR h x0 x1 x5 x6 x7 x8 x9 x10 (fun x10 x0 x1 x9 x5 x8 x7 x6 h=>patS h x0 x1 x5 x6 x7 x8 x9 x10 (fun x0 x1 x9 x5 x10 x8 x7 x6 h=>patT C h x0 x1 x5 x6 x7 x8 x9 x10 (fun x107 x0 x1 x9 x5 x10 x8 x7 x6 h=>pagD C h x0 x1 x5 x6 x7 x8 x9 x10 x107 kr kn)))))
def epadI:=(sq K (epatP C L h _ x0 x1 x5 x6 x7 x8 x9 x10) (congrArg _ (w8 fun x8 x10 x0 x1 x9 x5 x7 x6 h=>sn (sq K (epatQ C L h _ x0 x1 x5 x6 x7 x8 x9 x10) (congrArg _ (w8 fun x8 x10 x0 x1 x9 x5 x7 x6 h=>sn (sq K (epatR C L h _ x0 x1 x5 x6 x7 x8 x9 x10) (congrArg _ (w8 fun x10 x0 x1 x9 x5 x8 x7 x6 h=>sn (sq K (epatS C L h _ x0 x1 x5 x6 x7 x8 x9 x10) (congrArg _ (w8 fun x0 x1 x9 x5 x10 x8 x7 x6 h=>sn (sq K (epatT C L h _ x0 x1 x5 x6 x7 x8 x9 x10) (congrArg _ (w9 fun x107 x0 x1 x9 x5 x10 x8 x7 x6 h=>sn (epagD ..))) (by kernel_rfl)))) (by kernel_rfl)))) (by kernel_rfl)))) (by kernel_rfl)))) (by kernel_rfl) : _=padI C h x0 x1 x5 x6 x7 x8 x9 x10 (R1 K 4) (N8 K 0 1 9 5 10 8 7 6))
noncomputable def pacS (kr : K1 β) (kx1 : K0 β) (kn : K8 β) : O β :=
 patO h x0 x1 x5 x6 x7 x8 x9 x10 kx1 (fun x8 x10 x0 x1 x9 x5 x7 x6 h=>padI C h x0 x1 x5 x6 x7 x8 x9 x10 kr kn)
def epacS:=(sq K (epatO C L h _ x0 x1 x5 x6 x7 x8 x9 x10) (congrArg _ (w8 fun x8 x10 x0 x1 x9 x5 x7 x6 h=>sn (bk (epadI ..)))) (by kernel_rfl) : _=pacS C h x0 x1 x5 x6 x7 x8 x9 x10 (R1 K 4) (X0 K 1) (N8 K 0 1 9 5 10 8 7 6))
noncomputable def paoO (C : CF) (L : Nat) {β : Type} (kr : K1 β) (kx1 : K0 β) : Nat → K8 β
 | 0,_,_,_,_,_,_,_,_,_ => none
 | n + 1,x0,x1,x9,x5,x10,x8,x7,x6,h => pacS C h x0 x1 x5 x6 x7 x8 x9 x10 kr kx1 (fun x0 x1 x9 x5 x10 x8 x7 x6 h=>paoO C L kr kx1 n x0 x1 x9 x5 x10 x8 x7 x6 h)
theorem epaoO (C : CF) (L : Nat) {β : Type} (K : KK β) : ∀ (n : Nat) (x0 x1 x9 x5 x10 x8 x7 x6 : V) (h : H),loopK (fun fr h K=>execK prog C L 2 143 [4] (g c80a 4088) [0,1,9,5,10,8,7,6] [(1,[])] fr h K) n (r8 0 1 9 5 10 8 7 6 x0 x1 x9 x5 x10 x8 x7 x6) h K=paoO C L (R1 K 4) (X0 K 1) n x0 x1 x9 x5 x10 x8 x7 x6 h
 | 0,_,_,_,_,_,_,_,_,_ => rfl
 | n + 1,x0,x1,x9,x5,x10,x8,x7,x6,h => (cg (epacS C L h _ x0 x1 x5 x6 x7 x8 x9 x10) (by kernel_rfl)).trans (congrArg _ (w8 fun x0 x1 x9 x5 x10 x8 x7 x6 h=>sl (epaoO C L K n x0 x1 x9 x5 x10 x8 x7 x6 h)))
noncomputable def pacK (kr : K1 β) (kx1 : K0 β) : O β :=
 paoO C L kr kx1 L x0 x1 x9 x5 x10 x8 x7 x6 h
def epacK:=(lp [] (r8 0 1 9 5 10 8 7 6 x0 x1 x9 x5 x10 x8 x7 x6) (epaoO C L K L x0 x1 x9 x5 x10 x8 x7 x6 h) (by kernel_rfl) : _=pacK C L h x0 x1 x5 x6 x7 x8 x9 x10 (R1 K 4) (X0 K 1))
noncomputable def patX (kr : K1 β) : O β :=
 kr (.int .i64 (-1)) h
theorem epatX : E80 C L h K 1023 [4] [] r0=patX h (R1 K 4) := by kernel_rfl
noncomputable def p80a (kr : K1 β) : O β :=
 paoL h x0 x1 (fun x0 x1 h=>paoM h x0 x1 (fun x0 x1 x5 h=>pacM C h x0 x1 x5 kr (fun x0 x1 x5 h=>patJ h x0 x1 x5 (fun x0 x1 x5 x6 h=>patK h x0 x1 x5 x6 (fun x0 x1 x5 x7 x6 h=>patL h x0 x1 x5 x6 x7 (fun x0 x1 x5 x8 x7 x6 h=>patM h x0 x1 x5 x6 x7 x8 (fun x0 x1 x9 x5 x8 x7 x6 h=>patN h x0 x1 x5 x6 x7 x8 x9 (fun x0 x1 x9 x5 x10 x8 x7 x6 h=>pacK C L h x0 x1 x5 x6 x7 x8 x9 x10 kr (fun h=>patX h kr)))))))))
def ep80a:=(sq K (epaoL C L h _ x0 x1) (congrArg _ (w2 fun x0 x1 h=>sn (sq K (epaoM C L h _ x0 x1) (congrArg _ (w3 fun x0 x1 x5 h=>sn (sq K (bk (epacM C L h _ x0 x1 x5)) (congrArg _ (w3 fun x0 x1 x5 h=>sn (sq K (epatJ C L h _ x0 x1 x5) (congrArg _ (w4 fun x0 x1 x5 x6 h=>sn (sq K (epatK C L h _ x0 x1 x5 x6) (congrArg _ (w5 fun x0 x1 x5 x7 x6 h=>sn (sq K (epatL C L h _ x0 x1 x5 x6 x7) (congrArg _ (w6 fun x0 x1 x5 x8 x7 x6 h=>sn (sq K (epatM C L h _ x0 x1 x5 x6 x7 x8) (congrArg _ (w7 fun x0 x1 x9 x5 x8 x7 x6 h=>sn (sq K (epatN C L h _ x0 x1 x5 x6 x7 x8 x9) (congrArg _ (w8 fun x0 x1 x9 x5 x10 x8 x7 x6 h=>sn (sq K (bk (epacK C L h _ x0 x1 x5 x6 x7 x8 x9 x10)) (congrArg _ (w0 fun h=>sn (epatX ..))) (by kernel_rfl)))) (by kernel_rfl)))) (by kernel_rfl)))) (by kernel_rfl)))) (by kernel_rfl)))) (by kernel_rfl)))) (by kernel_rfl)))) (by kernel_rfl)))) (by kernel_rfl) : _=p80a C L h x0 x1 (R1 K 4))
noncomputable def F80 (C : CF) (L : Nat) (x0 x1 : V) (h : H) : O (V × H) :=
 p80a C L h x0 x1 (fun x4 h=>some (x4,h))
theorem F80eq (Q : Orc) (n : Nat) (x0 x1 : V) (h : H) (q : Q 80 [x0,x1]=none) : callO prog 2 Q (n + 1) 80 [x0,x1] h=F80 (callO prog 2 Q n) n x0 x1 h :=
 (tp q Tryd.func80 (ep80a (callO prog 2 Q n) n h _ x0 x1) (by kernel_rfl)).trans (by kernel_rfl)
noncomputable def c81a : Code := (Tryd.f81.body).getD .skip
noncomputable abbrev E81 (C : CF) (L : Nat) {β : Type} (h : H) (K : KK β) (n : Nat) (o : List Nat) (v : List (Nat × List Nat)) (r : T Value) : O β := execK prog C L 2 8 [4] (g c81a n) o v r h K
noncomputable def p81a (kr : K1 β) : O β :=
 bnd2 (C 83 [x0,x1] h) fun d e =>
 kr d e
theorem ep81a : E81 C L h K 1 [4] [] (r2 0 1 x0 x1)=p81a C h x0 x1 (R1 K 4) := by kernel_rfl
noncomputable def F81 (C : CF) (L : Nat) (x0 x1 : V) (h : H) : O (V × H) :=
 p81a C h x0 x1 (fun x4 h=>some (x4,h))
theorem F81eq (Q : Orc) (n : Nat) (x0 x1 : V) (h : H) (q : Q 81 [x0,x1]=none) : callO prog 2 Q (n + 1) 81 [x0,x1] h=F81 (callO prog 2 Q n) n x0 x1 h :=
 (tp q Tryd.func81 (ep81a (callO prog 2 Q n) n h _ x0 x1) (by kernel_rfl)).trans (by kernel_rfl)
end Go.Proofs.YtohapjojkjjflaaDoor.WcA
