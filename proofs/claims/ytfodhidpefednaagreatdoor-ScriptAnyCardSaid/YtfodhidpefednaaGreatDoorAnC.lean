import Derived.Test.YtfodhidpefednaaGreatDoorProg
import Derived.Test.YtfodhidpefednaaGreatDoorRq
set_option linter.unusedVariables false
set_option linter.defProp false
set_option maxRecDepth 100000
namespace Go.Proofs.YtfodhidpefednaaGreatDoor.AnC
open Tryz (prog)
open Go Go.AM Go.AM.Pk
noncomputable def Z44L : List V := [(.int .i64 0),(.bool false),(.string ⟨⟨[]⟩⟩),(.int .i64 0)]
noncomputable def Z44 : V := .agg ⟨Z44L⟩
noncomputable def Z39L : List V := [(.int .u8 0),(.bool false),(.int .u8 0),(.bool false),(.int .u16 0),(.string ⟨⟨[]⟩⟩),(.string ⟨⟨[]⟩⟩),(.int .u8 0),(.bool false),(.int .u16 0),(.string ⟨⟨[]⟩⟩),(.bool false),(.string ⟨⟨[]⟩⟩),(.string ⟨⟨[]⟩⟩),(.int .u8 0),(.bool false),(.bool false),(.bool false),(.string ⟨⟨[]⟩⟩),(.string ⟨⟨[]⟩⟩),(.bool false),(.int .u8 0),(.slice none 0 0),(.string ⟨⟨[]⟩⟩)]
noncomputable def Z39 : V := .agg ⟨Z39L⟩
noncomputable def Z64L : List V := [(.string ⟨⟨[]⟩⟩),(.bool false)]
noncomputable def Z66L : List V := [(.string ⟨⟨[]⟩⟩),(.bool false),(.int .u8 0),(.bool false),(.int .u8 0),(.bool false),(.int .u16 0),(.string ⟨⟨[]⟩⟩),(.string ⟨⟨[]⟩⟩),(.int .u8 0),(.bool false),(.int .u16 0),(.string ⟨⟨[]⟩⟩),(.bool false),(.string ⟨⟨[]⟩⟩),(.string ⟨⟨[]⟩⟩),(.int .u8 0),(.bool false),(.bool false),(.bool false),(.string ⟨⟨[]⟩⟩),(.string ⟨⟨[]⟩⟩),(.bool false),(.int .u8 0),(.slice none 0 0),(.string ⟨⟨[]⟩⟩)]
noncomputable def Z120L : List V := [(.string ⟨⟨[]⟩⟩),(.int .u8 0)]
noncomputable def Z120 : V := .agg ⟨Z120L⟩
variable (C : CF) (L : Nat) {β : Type} (h : H) (K : KK β) (x0 x1 x2 x3 x4 x5 x6 x7 x8 x9 x11 x18 x20 x24 x57 x79 x110 x115 : V)
noncomputable def c6a : Code := (Tryz.f6.body).getD .skip
noncomputable abbrev E6 (C : CF) (L : Nat) {β : Type} (h : H) (K : KK β) (n : Nat) (o : List Nat) (v : List (Nat × List Nat)) (r : T Value) : O β := execK prog C L 4 26 [2] (g c6a n) o v r h K
noncomputable def p6a (kr : K1 β) : O β :=
 bnd2 (A.box 5 x0 h) fun a b =>
 bnd (A.fieldAddr 0 a) fun d =>
 bnd (A.load false 1 d b) fun e =>
 bnd2 (C 14 [e,(.int .i64 1),(.int .i64 64)] b) fun f i =>
 toBK f fun j =>
 (bif j then
 bnd (A.fieldAddr 1 a) fun l =>
 bnd (A.load false 1 l i) fun m =>
 bnd2 (C 14 [m,(.int .i64 1),(.int .i64 64)] i) fun n o =>
 toBK n fun p =>
 (bif p then
 bnd (A.fieldAddr 2 a) fun s =>
 bnd (A.load false 1 s o) fun t =>
 bnd2 (C 14 [t,(.int .i64 16),(.int .i64 65536)] o) fun u v =>
 toBK u fun w =>
 (bif w then
 bnd (A.fieldAddr 3 a) fun a1 =>
 bnd (A.load false 1 a1 v) fun b1 =>
 bnd2 (C 14 [b1,(.int .i64 1),(.int .i64 1024)] v) fun c1 d1 =>
 toBK c1 fun e1 =>
 (bif e1 then
 bnd (A.fieldAddr 4 a) fun j1 =>
 bnd (A.load false 1 j1 d1) fun k1 =>
 bnd2 (C 14 [k1,(.int .i64 1),(.int .i64 1024)] d1) fun l1 m1 =>
 toBK l1 fun n1 =>
 kr (.bool n1) m1
 else
 kr (.bool false) d1)
 else
 kr (.bool false) v)
 else
 kr (.bool false) o)
 else
 kr (.bool false) i)
theorem ep6a : E6 C L h K 1 [2] [] (r1 0 x0)=p6a C h x0 (R1 K 2) := by kernel_rfl
noncomputable def F6 (C : CF) (L : Nat) (x0 : V) (h : H) : O (V × H) :=
 p6a C h x0 (fun x2 h=>some (x2,h))
theorem F6eq (Q : Orc) (n : Nat) (x0 : V) (h : H) (q : Q 6 [x0]=none) : callO prog 4 Q (n + 1) 6 [x0] h=F6 (callO prog 4 Q n) n x0 h :=
 (tp q Tryz.func6 (ep6a (callO prog 4 Q n) n h _ x0) (by kernel_rfl)).trans (by kernel_rfl)
noncomputable def c14a : Code := (Tryz.f14.body).getD .skip
noncomputable abbrev E14 (C : CF) (L : Nat) {β : Type} (h : H) (K : KK β) (n : Nat) (o : List Nat) (v : List (Nat × List Nat)) (r : T Value) : O β := execK prog C L 4 15 [6] (g c14a n) o v r h K
noncomputable def p14a (kr : K1 β) : O β :=
 bnd (A.bin prog .geq 3 x0 x1) fun d =>
 toBK d fun e =>
 (bif e then
 bnd (A.bin prog .leq 3 x0 x2) fun k =>
 toBK k fun l =>
 kr (.bool l) h
 else
 kr (.bool false) h)
theorem ep14a : E14 C L h K 1 [6] [] (r3 0 1 2 x0 x1 x2)=p14a h x0 x1 x2 (R1 K 6) := by kernel_rfl
noncomputable def F14 (C : CF) (L : Nat) (x0 x1 x2 : V) (h : H) : O (V × H) :=
 p14a h x0 x1 x2 (fun x6 h=>some (x6,h))
theorem F14eq (Q : Orc) (n : Nat) (x0 x1 x2 : V) (h : H) (q : Q 14 [x0,x1,x2]=none) : callO prog 4 Q (n + 1) 14 [x0,x1,x2] h=F14 (callO prog 4 Q n) n x0 x1 x2 h :=
 (tp q Tryz.func14 (ep14a (callO prog 4 Q n) n h _ x0 x1 x2) (by kernel_rfl)).trans (by kernel_rfl)
noncomputable def c8a : Code := (Tryz.f8.body).getD .skip
noncomputable abbrev E8 (C : CF) (L : Nat) {β : Type} (h : H) (K : KK β) (n : Nat) (o : List Nat) (v : List (Nat × List Nat)) (r : T Value) : O β := execK prog C L 4 75 [4] (g c8a n) o v r h K
noncomputable def pagA (kn : K3 β) : O β :=
 bnd2 (A.box 7 x1 h) fun a b =>
 bnd2 (A.box 4 Z44 b) fun c d =>
 kn a x0 c d
theorem epagA : E8 C L h K 2 [3,0,4] [] (r2 0 1 x0 x1)=pagA h x0 x1 (N3 K 3 0 4) := by kernel_rfl
noncomputable def pagB (kn : K4 β) : O β :=
 bnd2 (A.box 4 Z44 h) fun a b =>
 kn x3 x0 a x4 b
theorem epagB : E8 C L h K 6 [3,0,5,4] [] (r3 3 0 4 x3 x0 x4)=pagB h x0 x3 x4 (N4 K 3 0 5 4) := by kernel_rfl
noncomputable def pajI (kn : K5 β) : O β :=
 bnd (A.fieldAddr 0 x3) fun a =>
 bnd (A.load false 1 a h) fun b =>
 kn x3 b x0 x5 x4 h
theorem epajI : E8 C L h K 28 [3,9,0,5,4] [] (r4 3 0 5 4 x3 x0 x5 x4)=pajI h x0 x3 x4 x5 (N5 K 3 9 0 5 4) := by kernel_rfl
noncomputable def pauX (kn : K6 β) : O β :=
 bnd (A.bin prog .eql 5 x9 (.int .u8 1)) fun a =>
 toBK a fun b =>
 kn (.bool b) x3 x9 x0 x5 x4 h
theorem epauX : E8 C L h K 116 [11,3,9,0,5,4] [(0,[5,4])] (r5 3 9 0 5 4 x3 x9 x0 x5 x4)=pauX h x0 x3 x4 x5 x9 (N6 K 11 3 9 0 5 4) := by kernel_rfl
noncomputable def pavN (kn : K2 β) : O β :=
 bnd2 (C 19 [x0] h) fun b c =>
 bnd (A.extract 0 b) fun e =>
 bnd (A.extract 1 b) fun f =>
 bnd (A.fieldAddr 0 x5) fun i =>
 bnd (A.store 1 i e c) fun k =>
 bnd (A.fieldAddr 3 x5) fun l =>
 bnd (A.store 1 l f k) fun n =>
 kn x5 x4 n
theorem epavN : E8 C L h K 234 [5,4] [(0,[5,4])] (r6 11 3 9 0 5 4 x11 x3 x9 x0 x5 x4)=pavN C h x0 x4 x5 (N2 K 5 4) := by kernel_rfl
noncomputable def pauY (kn : K6 β) : O β :=
 bnd (A.bin prog .eql 5 x9 (.int .u8 2)) fun a =>
 toBK a fun b =>
 kn (.bool b) x3 x9 x0 x5 x4 h
theorem epauY : E8 C L h K 470 [20,3,9,0,5,4] [(0,[5,4])] (r6 11 3 9 0 5 4 x11 x3 x9 x0 x5 x4)=pauY h x0 x3 x4 x5 x9 (N6 K 20 3 9 0 5 4) := by kernel_rfl
noncomputable def pauZ (kn : K2 β) : O β :=
 bnd (A.fieldAddr 1 x3) fun b =>
 bnd (A.load false 1 b h) fun c =>
 bnd (A.fieldAddr 6 x3) fun d =>
 bnd (A.load false 1 d h) fun e =>
 bnd2 (C 20 [x0,c,e] h) fun f i =>
 bnd (A.fieldAddr 3 x5) fun j =>
 bnd (A.store 1 j f i) fun l =>
 kn x5 x4 l
theorem epauZ : E8 C L h K 942 [5,4] [(0,[5,4])] (r6 20 3 9 0 5 4 x20 x3 x9 x0 x5 x4)=pauZ C h x0 x3 x4 x5 (N2 K 5 4) := by kernel_rfl
noncomputable def pavM (C : CF) (L : Nat) {β : Type} (x20 x3 x9 x0 x5 x4 : V) (h : H) (K : KK β) : O β :=
 execK prog C L 4 75 [4] (g c8a 943) [5,4] [(0,[5,4])] (r6 20 3 9 0 5 4 x20 x3 x9 x0 x5 x4) h K
theorem epavM : E8 C L h K 943 [5,4] [(0,[5,4])] (r6 20 3 9 0 5 4 x20 x3 x9 x0 x5 x4)=pavM C L x20 x3 x9 x0 x5 x4 h K := rfl
noncomputable def pahP (C : CF) (L : Nat) {β : Type} (x20 x3 x9 x0 x5 x4 : V) (h : H) (kn : K2 β) (K : KK β) : O β :=
 condV x20 (pauZ C h x0 x3 x4 x5 kn) (pavM C L x20 x3 x9 x0 x5 x4 h K)
def epahP:=(cd K (.tmp 20) x20 (epauZ C L h K x0 x3 x4 x5 x9 x20) (epavM C L h K x0 x3 x4 x5 x9 x20) (by kernel_rfl) : _=pahP C L x20 x3 x9 x0 x5 x4 h (N2 K 5 4) K)
noncomputable def pafV (C : CF) (L : Nat) {β : Type} (x11 x3 x9 x0 x5 x4 : V) (h : H) (kn : K2 β) (K : KK β) : O β :=
 pauY h x0 x3 x4 x5 x9 (fun x20 x3 x9 x0 x5 x4 h=>pahP C L x20 x3 x9 x0 x5 x4 h kn K)
def epafV:=(sq K (epauY C L h _ x0 x3 x4 x5 x9 x11) (congrArg _ (w6 fun x20 x3 x9 x0 x5 x4 h=>sn (epahP ..))) (by kernel_rfl) : _=pafV C L x11 x3 x9 x0 x5 x4 h (N2 K 5 4) K)
noncomputable def pafF (C : CF) (L : Nat) {β : Type} (x11 x3 x9 x0 x5 x4 : V) (h : H) (kn : K2 β) (K : KK β) : O β :=
 condV x11 (pavN C h x0 x4 x5 kn) (pafV C L x11 x3 x9 x0 x5 x4 h kn K)
def epafF:=(cd K (.tmp 11) x11 (epavN C L h K x0 x3 x4 x5 x9 x11) (epafV C L h K x0 x3 x4 x5 x9 x11) (by kernel_rfl) : _=pafF C L x11 x3 x9 x0 x5 x4 h (N2 K 5 4) K)
noncomputable def pacN (C : CF) (L : Nat) {β : Type} (x3 x9 x0 x5 x4 : V) (h : H) (kn : K2 β) (K : KK β) : O β :=
 pauX h x0 x3 x4 x5 x9 (fun x11 x3 x9 x0 x5 x4 h=>pafF C L x11 x3 x9 x0 x5 x4 h kn K)
def epacN:=(sq K (epauX C L h _ x0 x3 x4 x5 x9) (congrArg _ (w6 fun x11 x3 x9 x0 x5 x4 h=>sn (epafF ..))) (by kernel_rfl) : _=pacN C L x3 x9 x0 x5 x4 h (N2 K 5 4) K)
noncomputable def pacK (C : CF) (L : Nat) {β : Type} (x3 x9 x0 x5 x4 : V) (h : H) (kn : K2 β) (K : KK β) : O β :=
 pacN C L x3 x9 x0 x5 x4 h kn (fun ex fr h=>blockK 0 ex K fr h)
def epacK:=(bk (epacN C L h _ x0 x3 x4 x5 x9) : _=pacK C L x3 x9 x0 x5 x4 h (N2 K 5 4) K)
noncomputable def pabL (C : CF) (L : Nat) {β : Type} (x3 x0 x5 x4 : V) (h : H) (kn : K2 β) (K : KK β) : O β :=
 pajI h x0 x3 x4 x5 (fun x3 x9 x0 x5 x4 h=>pacK C L x3 x9 x0 x5 x4 h kn K)
def epabL:=(sq K (epajI C L h _ x0 x3 x4 x5) (congrArg _ (w5 fun x3 x9 x0 x5 x4 h=>sn (epacK ..))) (by kernel_rfl) : _=pabL C L x3 x0 x5 x4 h (N2 K 5 4) K)
noncomputable def pabQ (kr : K1 β) : O β :=
 bnd (A.load true 4 x5 h) fun a =>
 bnd (A.store 4 x4 a h) fun c =>
 kr x4 c
theorem epabQ : E8 C L h K 15 [4] [] (r2 5 4 x5 x4)=pabQ h x4 x5 (R1 K 4) := by kernel_rfl
noncomputable def p8a (C : CF) (L : Nat) {β : Type} (x0 x1 : V) (h : H) (kr : K1 β) (K : KK β) : O β :=
 pagA h x0 x1 (fun x3 x0 x4 h=>pagB h x0 x3 x4 (fun x3 x0 x5 x4 h=>pabL C L x3 x0 x5 x4 h (fun x5 x4 h=>pabQ h x4 x5 kr) (fun ex fr h=>seqK ex (fun fr h=>execK prog C L 4 75 [4] (g c8a 15) [4] [] fr h K) K fr h)))
def ep8a:=(sq K (epagA C L h _ x0 x1) (congrArg _ (w3 fun x3 x0 x4 h=>sn (sq K (epagB C L h _ x0 x3 x4) (congrArg _ (w4 fun x3 x0 x5 x4 h=>sn (sq K (epabL C L h _ x0 x3 x4 x5) (congrArg (fun k=>pabL C L x3 x0 x5 x4 h k (fun ex fr h=>seqK ex (fun fr h=>execK prog C L 4 75 [4] (g c8a 15) [4] [] fr h K) K fr h)) (w2 fun x5 x4 h=>sn (epabQ ..))) (by kernel_rfl)))) (by kernel_rfl)))) (by kernel_rfl) : _=p8a C L x0 x1 h (R1 K 4) K)
noncomputable def F8 (C : CF) (L : Nat) (x0 x1 : V) (h : H) : O (V × H) :=
 p8a C L x0 x1 h (fun x4 h=>bnd (resC (A.load true 4 x4 h) (some [])) fun vs => some (packA vs,h)) (resK prog Tryz.f8 fun v h=>some (v,h))
theorem F8eq (Q : Orc) (n : Nat) (x0 x1 : V) (h : H) (q : Q 8 [x0,x1]=none) : callO prog 4 Q (n + 1) 8 [x0,x1] h=F8 (callO prog 4 Q n) n x0 x1 h :=
 (tp q Tryz.func8 (ep8a (callO prog 4 Q n) n h _ x0 x1) (by kernel_rfl)).trans (by kernel_rfl)
noncomputable def c7a : Code := (Tryz.f7.body).getD .skip
noncomputable abbrev E7 (C : CF) (L : Nat) {β : Type} (h : H) (K : KK β) (n : Nat) (o : List Nat) (v : List (Nat × List Nat)) (r : T Value) : O β := execK prog C L 4 124 [2,3,4] (g c7a n) o v r h K
noncomputable def pagU (kn : K2 β) : O β :=
 bnd2 (A.box 24 Z39 h) fun a b =>
 kn x0 a b
theorem epagU : E7 C L h K 2 [0,2] [] (r1 0 x0)=pagU h x0 (N2 K 0 2) := by kernel_rfl
noncomputable def pajH (kr : K3 β) (kn : K2 β) : O β :=
 bnd (A.bin prog .eql 9 x0 (.string ⟨⟨[]⟩⟩)) fun b =>
 toBK b fun c =>
 (bif c then
 bnd (A.build Z39L []) fun d =>
 bnd (A.store 24 x2 d h) fun f =>
 kr x2 (.int .i64 0) (.int .i64 2) f
 else
 kn x0 x2 h)
theorem epajH : E7 C L h K 6 [0,2] [] (r2 0 2 x0 x2)=pajH h x0 x2 (R3 K 2 3 4) (N2 K 0 2) := by kernel_rfl
noncomputable def pajX (kr : K3 β) (kn : K2 β) : O β :=
 bnd (A.indexStr x0 (.int .i64 0)) fun b =>
 bnd2 (C 15 [b] h) fun c d =>
 toBK c fun e =>
 bnd (A.un prog .not (.bool e)) fun f =>
 toBK f fun i =>
 (bif i then
 bnd (A.build Z39L []) fun j =>
 bnd (A.store 24 x2 j d) fun l =>
 kr x2 (.int .i64 0) (.int .i64 4) l
 else
 kn x0 x2 d)
theorem epajX : E7 C L h K 14 [0,2] [] (r2 0 2 x0 x2)=pajX C h x0 x2 (R3 K 2 3 4) (N2 K 0 2) := by kernel_rfl
noncomputable def pakP (kn : K5 β) : O β :=
 bnd (A.sliceStr x0 (some (.int .i64 1)) none) fun b =>
 bnd2 (C 16 [b] h) fun c d =>
 bnd (A.extract 0 c) fun f =>
 bnd (A.extract 1 c) fun i =>
 bnd (A.extract 2 c) fun j =>
 kn j i x0 f x2 d
theorem epakP : E7 C L h K 30 [4,6,0,5,2] [] (r2 0 2 x0 x2)=pakP C h x0 x2 (N5 K 4 6 0 5 2) := by kernel_rfl
noncomputable def pakQ (kr : K3 β) (kn : K4 β) : O β :=
 bnd (A.bin prog .neq 40 x4 (.int .i64 0)) fun b =>
 toBK b fun c =>
 (bif c then
 bnd (A.build Z39L []) fun d =>
 bnd (A.store 24 x2 d h) fun i =>
 kr x2 (.int .i64 0) x4 i
 else
 kn x6 x0 x5 x2 h)
theorem epakQ : E7 C L h K 62 [6,0,5,2] [] (r5 4 6 0 5 2 x4 x6 x0 x5 x2)=pakQ h x0 x2 x4 x5 x6 (R3 K 2 3 4) (N4 K 6 0 5 2) := by kernel_rfl
noncomputable def pamL (kn : K4 β) : O β :=
 bnd (A.bin prog .add 3 x6 (.int .i64 1)) fun b =>
 kn x0 b x5 x2 h
theorem epamL : E7 C L h K 126 [0,6,5,2] [] (r4 6 0 5 2 x6 x0 x5 x2)=pamL h x0 x2 x5 x6 (N4 K 0 6 5 2) := by kernel_rfl
noncomputable def pamM (kr : K3 β) (kn : K4 β) : O β :=
 bnd (A.lenStr x0) fun b =>
 bnd (A.bin prog .sub 3 b x6) fun d =>
 bnd (A.bin prog .lss 3 d x5) fun f =>
 toBK f fun i =>
 (bif i then
 bnd (A.build Z39L []) fun j =>
 bnd (A.store 24 x2 j h) fun l =>
 kr x2 (.int .i64 0) (.int .i64 2) l
 else
 kn x0 x6 x5 x2 h)
theorem epamM : E7 C L h K 254 [0,6,5,2] [] (r4 0 6 5 2 x0 x6 x5 x2)=pamM h x0 x2 x5 x6 (R3 K 2 3 4) (N4 K 0 6 5 2) := by kernel_rfl
noncomputable def panW (kn : K5 β) : O β :=
 bnd (A.bin prog .add 3 x6 x5) fun e =>
 bnd (A.sliceStr x0 (some x6) (some e)) fun f =>
 bnd (A.build Z64L [(0,1,f)]) fun i =>
 bnd (A.build Z66L [(0,2,i)]) fun j =>
 bnd2 (A.box 26 j h) fun k l =>
 kn x0 k x6 x5 x2 l
theorem epanW : E7 C L h K 510 [0,7,6,5,2] [] (r4 0 6 5 2 x0 x6 x5 x2)=panW h x0 x2 x5 x6 (N5 K 0 7 6 5 2) := by kernel_rfl
noncomputable def panX (kn : K5 β) : O β :=
 bnd (A.indexStr x0 (.int .i64 0)) fun c =>
 bnd (A.bin prog .shr 5 c (.int .u64 4)) fun d =>
 bnd (A.nilCheck x7) fun e =>
 bnd (A.fieldAddr 2 e) fun f =>
 bnd (A.fieldAddr 0 f) fun i =>
 bnd (A.store 1 i d h) fun k =>
 kn x0 x7 x6 x5 x2 k
theorem epanX : E7 C L h K 1022 [0,7,6,5,2] [] (r5 0 7 6 5 2 x0 x7 x6 x5 x2)=panX h x0 x2 x5 x6 x7 (N5 K 0 7 6 5 2) := by kernel_rfl
noncomputable def pakR (C : CF) (L : Nat) {β : Type} (x0 x7 x6 x5 x2 : V) (h : H) (kn : K6 β) : O β :=
 bnd (A.nilCheck x7) fun b =>
 bnd (A.fieldAddr 2 b) fun c =>
 bnd (A.fieldAddr 0 c) fun d =>
 bnd (A.load false 1 d h) fun e =>
 bnd (A.bin prog .eql 5 e (.int .u8 1)) fun f =>
 toBK f fun i =>
 (bif i then
 bnd (A.bin prog .gtr 3 x5 (.int .i64 6)) fun l =>
 toBK l fun m =>
 (bif m then
 bnd (A.nilCheck x7) fun q =>
 bnd (A.fieldAddr 0 q) fun r =>
 bnd (A.fieldAddr 0 r) fun s =>
 bnd (A.load false 1 s h) fun t =>
 bnd (A.sliceStr t none (some (.int .i64 6))) fun u =>
 bnd (A.bin prog .eql 9 u (.string ⟨⟨[0,4,77,81,84,84]⟩⟩)) fun v =>
 toBK v fun w =>
 (bif w then
 bnd (A.nilCheck x7) fun b1 =>
 bnd (A.fieldAddr 0 b1) fun c1 =>
 bnd (A.fieldAddr 0 c1) fun d1 =>
 bnd (A.load false 1 d1 h) fun e1 =>
 bnd (A.indexStr e1 (.int .i64 6)) fun f1 =>
 bnd (A.bin prog .neq 5 f1 (.int .u8 4)) fun i1 =>
 toBK i1 fun j1 =>
 kn (.bool j1) x0 x7 x6 x5 x2 h
 else
 kn (.bool false) x0 x7 x6 x5 x2 h)
 else
 kn (.bool false) x0 x7 x6 x5 x2 h)
 else
 kn (.bool false) x0 x7 x6 x5 x2 h)
theorem epakR : E7 C L h K 4092 [79,0,7,6,5,2] [] (r5 0 7 6 5 2 x0 x7 x6 x5 x2)=pakR C L x0 x7 x6 x5 x2 h (N6 K 79 0 7 6 5 2) := by kernel_rfl
noncomputable def panY (kr : K3 β) (kn : K5 β) : O β :=
 condV x79 (
 bnd (A.nilCheck x7) fun b =>
 bnd (A.fieldAddr 0 b) fun c =>
 bnd (A.fieldAddr 0 c) fun d =>
 bnd (A.load false 1 d h) fun e =>
 bnd (A.indexStr e (.int .i64 6)) fun f =>
 bnd (A.build Z39L [(0,1,(.int .u8 1)),(7,1,f)]) fun i =>
 bnd (A.bin prog .add 3 x6 x5) fun l =>
 bnd (A.store 24 x2 i h) fun n =>
 kr x2 l (.int .i64 0) n) (
 kn x0 x7 x6 x5 x2 h)
theorem epanY : E7 C L h K 4093 [0,7,6,5,2] [] (r6 79 0 7 6 5 2 x79 x0 x7 x6 x5 x2)=panY h x0 x2 x5 x6 x7 x79 (R3 K 2 3 4) (N5 K 0 7 6 5 2) := by kernel_rfl
noncomputable def pagV (kr : K3 β) (kn : K5 β) : O β :=
 pakR C L x0 x7 x6 x5 x2 h (fun x79 x0 x7 x6 x5 x2 h=>panY h x0 x2 x5 x6 x7 x79 kr kn)
def epagV:=(sq K (epakR C L h _ x0 x2 x5 x6 x7) (congrArg _ (w6 fun x79 x0 x7 x6 x5 x2 h=>sn (epanY ..))) (by kernel_rfl) : _=pagV C L h x0 x2 x5 x6 x7 (R3 K 2 3 4) (N5 K 0 7 6 5 2))
noncomputable def paqS (kn : K4 β) : O β :=
 bnd (A.indexStr x0 (.int .i64 0)) fun c =>
 bnd (A.bin prog .and 5 c (.int .u8 15)) fun d =>
 bnd2 (C 17 [x7,d] h) fun e f =>
 kn x7 x6 x5 x2 f
theorem epaqS : E7 C L h K 4094 [7,6,5,2] [] (r5 0 7 6 5 2 x0 x7 x6 x5 x2)=paqS C h x0 x2 x5 x6 x7 (N4 K 7 6 5 2) := by kernel_rfl
noncomputable def pamN (kn : K5 β) : O β :=
 bnd (A.nilCheck x7) fun b =>
 bnd (A.fieldAddr 0 b) fun c =>
 bnd (A.fieldAddr 1 c) fun d =>
 bnd (A.load false 1 d h) fun e =>
 toBK e fun f =>
 (bif f then
 kn (.bool true) x7 x6 x5 x2 h
 else
 bnd (A.nilCheck x7) fun n =>
 bnd (A.fieldAddr 0 n) fun o =>
 bnd (A.fieldAddr 0 o) fun p =>
 bnd (A.load false 1 p h) fun q =>
 bnd (A.bin prog .neq 9 q (.string ⟨⟨[]⟩⟩)) fun r =>
 toBK r fun s =>
 (bif s then
 kn (.bool true) x7 x6 x5 x2 h
 else
 bnd (A.nilCheck x7) fun y =>
 bnd (A.fieldAddr 2 y) fun z =>
 bnd (A.load true 24 z h) fun a1 =>
 bnd2 (C 18 [a1] h) fun b1 c1 =>
 toBK b1 fun d1 =>
 bnd (A.un prog .not (.bool d1)) fun e1 =>
 toBK e1 fun f1 =>
 kn (.bool f1) x7 x6 x5 x2 c1))
theorem epamN : E7 C L h K 16380 [115,7,6,5,2] [] (r4 7 6 5 2 x7 x6 x5 x2)=pamN C h x2 x5 x6 x7 (N5 K 115 7 6 5 2) := by kernel_rfl
noncomputable def pamO (kr : K3 β) (kn : K4 β) : O β :=
 condV x115 (
 bnd (A.build Z39L []) fun a =>
 bnd (A.store 24 x2 a h) fun c =>
 kr x2 (.int .i64 0) (.int .i64 4) c) (
 kn x7 x6 x5 x2 h)
theorem epamO : E7 C L h K 16381 [7,6,5,2] [] (r5 115 7 6 5 2 x115 x7 x6 x5 x2)=pamO h x2 x5 x6 x7 x115 (R3 K 2 3 4) (N4 K 7 6 5 2) := by kernel_rfl
noncomputable def pagN (kr : K3 β) (kn : K4 β) : O β :=
 pamN C h x2 x5 x6 x7 (fun x115 x7 x6 x5 x2 h=>pamO h x2 x5 x6 x7 x115 kr kn)
def epagN:=(sq K (epamN C L h _ x2 x5 x6 x7) (congrArg _ (w5 fun x115 x7 x6 x5 x2 h=>sn (epamO ..))) (by kernel_rfl) : _=pagN C h x2 x5 x6 x7 (R3 K 2 3 4) (N4 K 7 6 5 2))
noncomputable def pauT (kr : K3 β) : O β :=
 bnd (A.nilCheck x7) fun b =>
 bnd (A.fieldAddr 2 b) fun c =>
 bnd (A.load true 24 c h) fun d =>
 bnd (A.bin prog .add 3 x6 x5) fun i =>
 bnd (A.store 24 x2 d h) fun k =>
 kr x2 i (.int .i64 0) k
theorem epauT : E7 C L h K 8191 [2,3,4] [] (r4 7 6 5 2 x7 x6 x5 x2)=pauT h x2 x5 x6 x7 (R3 K 2 3 4) := by kernel_rfl
noncomputable def paeV (C : CF) (L : Nat) {β : Type} (x7 x6 x5 x2 : V) (h : H) (kr : K3 β) : O β :=
 pagN C h x2 x5 x6 x7 kr (fun x7 x6 x5 x2 h=>pauT h x2 x5 x6 x7 kr)
def epaeV:=(sq K (epagN C L h _ x2 x5 x6 x7) (congrArg _ (w4 fun x7 x6 x5 x2 h=>sn (epauT ..))) (by kernel_rfl) : _=paeV C L x7 x6 x5 x2 h (R3 K 2 3 4))
noncomputable def p7a (kr : K3 β) : O β :=
 pagU h x0 (fun x0 x2 h=>pajH h x0 x2 kr (fun x0 x2 h=>pajX C h x0 x2 kr (fun x0 x2 h=>pakP C h x0 x2 (fun x4 x6 x0 x5 x2 h=>pakQ h x0 x2 x4 x5 x6 kr (fun x6 x0 x5 x2 h=>pamL h x0 x2 x5 x6 (fun x0 x6 x5 x2 h=>pamM h x0 x2 x5 x6 kr (fun x0 x6 x5 x2 h=>panW h x0 x2 x5 x6 (fun x0 x7 x6 x5 x2 h=>panX h x0 x2 x5 x6 x7 (fun x0 x7 x6 x5 x2 h=>pagV C L h x0 x2 x5 x6 x7 kr (fun x0 x7 x6 x5 x2 h=>paqS C h x0 x2 x5 x6 x7 (fun x7 x6 x5 x2 h=>paeV C L x7 x6 x5 x2 h kr)))))))))))
def ep7a:=(sq K (epagU C L h _ x0) (congrArg _ (w2 fun x0 x2 h=>sn (sq K (epajH C L h _ x0 x2) (congrArg _ (w2 fun x0 x2 h=>sn (sq K (epajX C L h _ x0 x2) (congrArg _ (w2 fun x0 x2 h=>sn (sq K (epakP C L h _ x0 x2) (congrArg _ (w5 fun x4 x6 x0 x5 x2 h=>sn (sq K (epakQ C L h _ x0 x2 x4 x5 x6) (congrArg _ (w4 fun x6 x0 x5 x2 h=>sn (sq K (epamL C L h _ x0 x2 x5 x6) (congrArg _ (w4 fun x0 x6 x5 x2 h=>sn (sq K (epamM C L h _ x0 x2 x5 x6) (congrArg _ (w4 fun x0 x6 x5 x2 h=>sn (sq K (epanW C L h _ x0 x2 x5 x6) (congrArg _ (w5 fun x0 x7 x6 x5 x2 h=>sn (sq K (epanX C L h _ x0 x2 x5 x6 x7) (congrArg _ (w5 fun x0 x7 x6 x5 x2 h=>sn (sq K (epagV C L h _ x0 x2 x5 x6 x7) (congrArg _ (w5 fun x0 x7 x6 x5 x2 h=>sn (sq K (epaqS C L h _ x0 x2 x5 x6 x7) (congrArg _ (w4 fun x7 x6 x5 x2 h=>sn (epaeV ..))) (by kernel_rfl)))) (by kernel_rfl)))) (by kernel_rfl)))) (by kernel_rfl)))) (by kernel_rfl)))) (by kernel_rfl)))) (by kernel_rfl)))) (by kernel_rfl)))) (by kernel_rfl)))) (by kernel_rfl)))) (by kernel_rfl) : _=p7a C L h x0 (R3 K 2 3 4))
noncomputable def F7 (C : CF) (L : Nat) (x0 : V) (h : H) : O (V × H) :=
 p7a C L h x0 (fun x2 x3 x4 h=>bnd (resC (A.load true 24 x2 h) (resC (some x3) (resC (some x4) (some [])))) fun vs => some (packA vs,h))
theorem F7eq (Q : Orc) (n : Nat) (x0 : V) (h : H) (q : Q 7 [x0]=none) : callO prog 4 Q (n + 1) 7 [x0] h=F7 (callO prog 4 Q n) n x0 h :=
 (tp q Tryz.func7 (ep7a (callO prog 4 Q n) n h _ x0) (by kernel_rfl)).trans (by kernel_rfl)
noncomputable def c16a : Code := (Tryz.f16.body).getD .skip
noncomputable abbrev E16 (C : CF) (L : Nat) {β : Type} (h : H) (K : KK β) (n : Nat) (o : List Nat) (v : List (Nat × List Nat)) (r : T Value) : O β := execK prog C L 4 31 [2,3,4] (g c16a n) o v r h K
noncomputable def pasI (kn : K3 β) : O β :=
 kn (.int .i64 0) (.int .i64 0) x0 h
theorem epasI : E16 C L h K 2 [2,3,0] [] (r1 0 x0)=pasI h x0 (N3 K 2 3 0) := by kernel_rfl
noncomputable def pasJ (kn : K4 β) : O β :=
 kn (.int .i64 1) x2 x3 x0 h
theorem epasJ : E16 C L h K 6 [5,2,3,0] [] (r3 2 3 0 x2 x3 x0)=pasJ h x0 x2 x3 (N4 K 5 2 3 0) := by kernel_rfl
noncomputable def palB (kx0 : K0 β) (kn : K4 β) : O β :=
 bnd (A.bin prog .lss 3 x3 (.int .i64 4)) fun b =>
 toBK b fun c =>
 (bif c then
 kn x3 x2 x5 x0 h
 else
 kx0 h)
theorem epalB : E16 C L h K 112 [3,2,5,0] [(0,[])] (r4 5 2 3 0 x5 x2 x3 x0)=palB h x0 x2 x3 x5 (X0 K 0) (N4 K 3 2 5 0) := by kernel_rfl
noncomputable def panC (kr : K3 β) (kn : K4 β) : O β :=
 bnd (A.lenStr x0) fun c =>
 bnd (A.bin prog .eql 3 x3 c) fun d =>
 toBK d fun e =>
 (bif e then
 kr (.int .i64 0) (.int .i64 0) (.int .i64 2) h
 else
 bnd (A.indexStr x0 x3) fun m =>
 bnd (A.conv prog 5 3 m) fun n =>
 bnd (A.bin prog .add 3 x3 (.int .i64 1)) fun q =>
 bnd (A.bin prog .rem 3 n (.int .i64 128)) fun u =>
 bnd (A.bin prog .mul 3 u x5) fun w =>
 bnd (A.bin prog .add 3 x2 w) fun y =>
 bnd (A.bin prog .lss 3 n (.int .i64 128)) fun b1 =>
 toBK b1 fun c1 =>
 (bif c1 then
 kr y q (.int .i64 0) h
 else
 bnd (A.bin prog .mul 3 x5 (.int .i64 128)) fun l1 =>
 kn l1 y q x0 h))
theorem epanC : E16 C L h K 226 [5,2,3,0] [(1,[5,2,3,0]),(0,[])] (r4 3 2 5 0 x3 x2 x5 x0)=panC h x0 x2 x3 x5 (R3 K 2 3 4) (N4 K 5 2 3 0) := by kernel_rfl
noncomputable def pagR (kr : K3 β) (kx0 : K0 β) (kn : K4 β) : O β :=
 palB h x0 x2 x3 x5 kx0 (fun x3 x2 x5 x0 h=>panC h x0 x2 x3 x5 kr kn)
def epagR:=(sq K (epalB C L h _ x0 x2 x3 x5) (congrArg _ (w4 fun x3 x2 x5 x0 h=>sn (bk (epanC ..)))) (by kernel_rfl) : _=pagR h x0 x2 x3 x5 (R3 K 2 3 4) (X0 K 0) (N4 K 5 2 3 0))
noncomputable def paiO (C : CF) (L : Nat) {β : Type} (kr : K3 β) (kx0 : K0 β) : Nat → K4 β
 | 0,_,_,_,_,_ => none
 | n + 1,x5,x2,x3,x0,h => pagR h x0 x2 x3 x5 kr kx0 (fun x5 x2 x3 x0 h=>paiO C L kr kx0 n x5 x2 x3 x0 h)
theorem epaiO (C : CF) (L : Nat) {β : Type} (K : KK β) : ∀ (n : Nat) (x5 x2 x3 x0 : V) (h : H),loopK (fun fr h K=>execK prog C L 4 31 [2,3,4] (g c16a 56) [5,2,3,0] [(0,[])] fr h K) n (r4 5 2 3 0 x5 x2 x3 x0) h K=paiO C L (R3 K 2 3 4) (X0 K 0) n x5 x2 x3 x0 h
 | 0,_,_,_,_,_ => rfl
 | n + 1,x5,x2,x3,x0,h => (cg (epagR C L h _ x0 x2 x3 x5) (by kernel_rfl)).trans (congrArg _ (w4 fun x5 x2 x3 x0 h=>sl (epaiO C L K n x5 x2 x3 x0 h)))
noncomputable def paeT (kr : K3 β) (kx0 : K0 β) : O β :=
 paiO C L kr kx0 L x5 x2 x3 x0 h
def epaeT:=(lp [] (r4 5 2 3 0 x5 x2 x3 x0) (epaiO C L K L x5 x2 x3 x0 h) (by kernel_rfl) : _=paeT C L h x0 x2 x3 x5 (R3 K 2 3 4) (X0 K 0))
noncomputable def paoX (C : CF) (L : Nat) {β : Type} (h : H) (kr : K3 β) : O β :=
 kr (.int .i64 0) (.int .i64 0) (.int .i64 4) h
theorem epaoX : E16 C L h K 15 [2,3,4] [] r0=paoX C L h (R3 K 2 3 4) := by kernel_rfl
noncomputable def p16a (kr : K3 β) : O β :=
 pasI h x0 (fun x2 x3 x0 h=>pasJ h x0 x2 x3 (fun x5 x2 x3 x0 h=>paeT C L h x0 x2 x3 x5 kr (fun h=>paoX C L h kr)))
def ep16a:=(sq K (epasI C L h _ x0) (congrArg _ (w3 fun x2 x3 x0 h=>sn (sq K (epasJ C L h _ x0 x2 x3) (congrArg _ (w4 fun x5 x2 x3 x0 h=>sn (sq K (bk (epaeT C L h _ x0 x2 x3 x5)) (congrArg _ (w0 fun h=>sn (epaoX ..))) (by kernel_rfl)))) (by kernel_rfl)))) (by kernel_rfl) : _=p16a C L h x0 (R3 K 2 3 4))
noncomputable def F16 (C : CF) (L : Nat) (x0 : V) (h : H) : O (V × H) :=
 p16a C L h x0 (fun x2 x3 x4 h=>some (.tuple ⟨[x2,x3,x4]⟩,h))
theorem F16eq (Q : Orc) (n : Nat) (x0 : V) (h : H) (q : Q 16 [x0]=none) : callO prog 4 Q (n + 1) 16 [x0] h=F16 (callO prog 4 Q n) n x0 h :=
 (tp q Tryz.func16 (ep16a (callO prog 4 Q n) n h _ x0) (by kernel_rfl)).trans (by kernel_rfl)
noncomputable def c17a : Code := (Tryz.f17.body).getD .skip
noncomputable abbrev E17 (C : CF) (L : Nat) {β : Type} (h : H) (K : KK β) (n : Nat) (o : List Nat) (v : List (Nat × List Nat)) (r : T Value) : O β := execK prog C L 4 114 [] (g c17a n) o v r h K
noncomputable def paiI (kn : K3 β) : O β :=
 bnd (A.nilCheck x0) fun b =>
 bnd (A.fieldAddr 2 b) fun c =>
 bnd (A.fieldAddr 0 c) fun d =>
 bnd (A.load false 1 d h) fun e =>
 kn x1 e x0 h
theorem epaiI : E17 C L h K 2 [1,9,0] [] (r2 0 1 x0 x1)=paiI h x0 x1 (N3 K 1 9 0) := by kernel_rfl
noncomputable def paiJ (kn : K4 β) : O β :=
 bnd (A.bin prog .eql 5 x9 (.int .u8 1)) fun a =>
 toBK a fun b =>
 kn (.bool b) x1 x9 x0 h
theorem epaiJ : E17 C L h K 12 [20,1,9,0] [(0,[])] (r3 1 9 0 x1 x9 x0)=paiJ h x0 x1 x9 (N4 K 20 1 9 0) := by kernel_rfl
noncomputable def pasK (kn : K0 β) : O β :=
 bnd2 (C 30 [x0] h) fun b c =>
 kn c
theorem epasK : E17 C L h K 26 [] [(0,[])] (r4 20 1 9 0 x20 x1 x9 x0)=pasK C h x0 (N0 K) := by kernel_rfl
noncomputable def paiP (kn : K4 β) : O β :=
 bnd (A.bin prog .eql 5 x9 (.int .u8 2)) fun a =>
 toBK a fun b =>
 kn (.bool b) x1 x9 x0 h
theorem epaiP : E17 C L h K 54 [24,1,9,0] [(0,[])] (r4 20 1 9 0 x20 x1 x9 x0)=paiP h x0 x1 x9 (N4 K 24 1 9 0) := by kernel_rfl
noncomputable def papA (kn : K0 β) : O β :=
 bnd (A.nilCheck x0) fun b =>
 bnd (A.fieldAddr 0 b) fun c =>
 bnd2 (C 31 [c] h) fun d e =>
 bnd (A.nilCheck x0) fun k =>
 bnd (A.fieldAddr 0 k) fun l =>
 bnd (A.fieldAddr 1 l) fun m =>
 bnd (A.load false 1 m e) fun n =>
 toBK n fun o =>
 (bif o then
 bnd (A.nilCheck x0) fun r =>
 bnd (A.fieldAddr 0 r) fun s =>
 bnd (A.fieldAddr 1 s) fun t =>
 bnd (A.store 1 t (.bool true) e) fun v =>
 bnd (A.bin prog .eql 5 d (.int .u8 1)) fun z =>
 toBK z fun a1 =>
 bnd (A.nilCheck x0) fun b1 =>
 bnd (A.fieldAddr 2 b1) fun c1 =>
 bnd (A.fieldAddr 20 c1) fun d1 =>
 bnd (A.store 1 d1 (.bool a1) v) fun f1 =>
 bnd (A.nilCheck x0) fun k1 =>
 bnd (A.fieldAddr 0 k1) fun l1 =>
 bnd2 (C 31 [l1] f1) fun m1 n1 =>
 bnd (A.nilCheck x0) fun o1 =>
 bnd (A.fieldAddr 2 o1) fun p1 =>
 bnd (A.fieldAddr 21 p1) fun q1 =>
 bnd (A.store 1 q1 m1 n1) fun s1 =>
 kn s1
 else
 bnd (A.bin prog .gtr 5 d (.int .u8 1)) fun u1 =>
 toBK u1 fun v1 =>
 bnd (A.nilCheck x0) fun y1 =>
 bnd (A.fieldAddr 0 y1) fun z1 =>
 bnd (A.fieldAddr 1 z1) fun a2 =>
 bnd (A.store 1 a2 (.bool v1) e) fun c2 =>
 bnd (A.bin prog .eql 5 d (.int .u8 1)) fun f2 =>
 toBK f2 fun i2 =>
 bnd (A.nilCheck x0) fun j2 =>
 bnd (A.fieldAddr 2 j2) fun k2 =>
 bnd (A.fieldAddr 20 k2) fun l2 =>
 bnd (A.store 1 l2 (.bool i2) c2) fun n2 =>
 bnd (A.nilCheck x0) fun q2 =>
 bnd (A.fieldAddr 0 q2) fun r2 =>
 bnd2 (C 31 [r2] n2) fun s2 t2 =>
 bnd (A.nilCheck x0) fun u2 =>
 bnd (A.fieldAddr 2 u2) fun v2 =>
 bnd (A.fieldAddr 21 v2) fun w2 =>
 bnd (A.store 1 w2 s2 t2) fun z2 =>
 kn z2)
theorem epapA : E17 C L h K 110 [] [(0,[])] (r4 24 1 9 0 x24 x1 x9 x0)=papA C h x0 (N0 K) := by kernel_rfl
noncomputable def pajO (kn : K4 β) : O β :=
 bnd (A.bin prog .eql 5 x9 (.int .u8 3)) fun a =>
 toBK a fun b =>
 kn (.bool b) x1 x9 x0 h
theorem epajO : E17 C L h K 222 [57,1,9,0] [(0,[])] (r4 24 1 9 0 x24 x1 x9 x0)=pajO h x0 x1 x9 (N4 K 57 1 9 0) := by kernel_rfl
noncomputable def paoY (kn : K1 β) : O β :=
 bnd (A.bin prog .and 5 x1 (.int .u8 8)) fun e =>
 bnd (A.bin prog .gtr 5 e (.int .u8 0)) fun f =>
 toBK f fun i =>
 bnd (A.bin prog .shr 5 x1 (.int .u64 1)) fun k =>
 bnd (A.bin prog .and 5 k (.int .u8 3)) fun l =>
 bnd (A.bin prog .and 5 x1 (.int .u8 1)) fun n =>
 bnd (A.bin prog .gtr 5 n (.int .u8 0)) fun o =>
 toBK o fun p =>
 bnd (A.nilCheck x0) fun q =>
 bnd (A.fieldAddr 2 q) fun r =>
 bnd (A.fieldAddr 1 r) fun s =>
 bnd (A.store 1 s (.bool i) h) fun u =>
 bnd (A.nilCheck x0) fun v =>
 bnd (A.fieldAddr 2 v) fun w =>
 bnd (A.fieldAddr 2 w) fun y =>
 bnd (A.store 1 y l u) fun a1 =>
 bnd (A.nilCheck x0) fun b1 =>
 bnd (A.fieldAddr 2 b1) fun c1 =>
 bnd (A.fieldAddr 3 c1) fun d1 =>
 bnd (A.store 1 d1 (.bool p) a1) fun f1 =>
 kn x0 f1
theorem epaoY : E17 C L h K 892 [0] [(0,[])] (r4 57 1 9 0 x57 x1 x9 x0)=paoY h x0 x1 (N1 K 0) := by kernel_rfl
noncomputable def paoZ (kn : K0 β) : O β :=
 bnd (A.nilCheck x0) fun c =>
 bnd (A.fieldAddr 0 c) fun d =>
 bnd2 (C 32 [d] h) fun e f =>
 bnd (A.nilCheck x0) fun i =>
 bnd (A.fieldAddr 2 i) fun j =>
 bnd (A.fieldAddr 5 j) fun k =>
 bnd (A.store 1 k e f) fun m =>
 bnd (A.nilCheck x0) fun o =>
 bnd (A.fieldAddr 2 o) fun p =>
 bnd (A.fieldAddr 2 p) fun q =>
 bnd (A.load false 1 q m) fun r =>
 bnd (A.bin prog .gtr 5 r (.int .u8 0)) fun s =>
 toBK s fun t =>
 (bif t then
 bnd (A.nilCheck x0) fun w =>
 bnd (A.fieldAddr 0 w) fun y =>
 bnd2 (C 33 [y] m) fun z a1 =>
 bnd (A.nilCheck x0) fun b1 =>
 bnd (A.fieldAddr 2 b1) fun c1 =>
 bnd (A.fieldAddr 4 c1) fun d1 =>
 bnd (A.store 1 d1 z a1) fun f1 =>
 bnd (A.nilCheck x0) fun k1 =>
 bnd (A.fieldAddr 0 k1) fun l1 =>
 bnd2 (C 34 [l1] f1) fun m1 n1 =>
 bnd (A.nilCheck x0) fun o1 =>
 bnd (A.fieldAddr 2 o1) fun p1 =>
 bnd (A.fieldAddr 6 p1) fun q1 =>
 bnd (A.store 1 q1 m1 n1) fun s1 =>
 kn s1
 else
 bnd (A.nilCheck x0) fun v1 =>
 bnd (A.fieldAddr 0 v1) fun w1 =>
 bnd2 (C 34 [w1] m) fun y1 z1 =>
 bnd (A.nilCheck x0) fun a2 =>
 bnd (A.fieldAddr 2 a2) fun b2 =>
 bnd (A.fieldAddr 6 b2) fun c2 =>
 bnd (A.store 1 c2 y1 z1) fun e2 =>
 kn e2)
theorem epaoZ : E17 C L h K 893 [] [(0,[])] (r1 0 x0)=paoZ C h x0 (N0 K) := by kernel_rfl
noncomputable def pahG (kn : K0 β) : O β :=
 paoY h x0 x1 (fun x0 h=>paoZ C h x0 kn)
def epahG:=(sq K (epaoY C L h _ x0 x1 x9 x57) (congrArg _ (w1 fun x0 h=>sn (epaoZ ..))) (by kernel_rfl) : _=pahG C h x0 x1 (N0 K))
noncomputable def palC (kn : K2 β) : O β :=
 bnd (A.bin prog .eql 5 x9 (.int .u8 12)) fun a =>
 toBK a fun b =>
 (bif b then
 kn (.bool b) x0 h
 else
 bnd (A.bin prog .eql 5 x9 (.int .u8 13)) fun d =>
 toBK d fun e =>
 (bif e then
 kn (.bool e) x0 h
 else
 bnd (A.bin prog .eql 5 x9 (.int .u8 14)) fun i =>
 toBK i fun j =>
 kn (.bool j) x0 h))
theorem epalC : E17 C L h K 894 [110,0] [(0,[])] (r4 57 1 9 0 x57 x1 x9 x0)=palC h x0 x9 (N2 K 110 0) := by kernel_rfl
noncomputable def palD (kn : K0 β) : O β :=
 condV x110 (
 kn h) (
 bnd (A.nilCheck x0) fun c =>
 bnd (A.fieldAddr 0 c) fun d =>
 bnd2 (C 33 [d] h) fun e f =>
 bnd (A.nilCheck x0) fun i =>
 bnd (A.fieldAddr 2 i) fun j =>
 bnd (A.fieldAddr 4 j) fun k =>
 bnd (A.store 1 k e f) fun m =>
 bnd2 (C 35 [x0] m) fun o p =>
 kn p)
theorem epalD : E17 C L h K 895 [] [(0,[])] (r2 110 0 x110 x0)=palD C h x0 x110 (N0 K) := by kernel_rfl
noncomputable def pagE (kn : K0 β) : O β :=
 palC h x0 x9 (fun x110 x0 h=>palD C h x0 x110 kn)
def epagE:=(sq K (epalC C L h _ x0 x1 x9 x57) (congrArg _ (w2 fun x110 x0 h=>sn (epalD ..))) (by kernel_rfl) : _=pagE C h x0 x9 (N0 K))
noncomputable def paeB (kn : K0 β) : O β :=
 condV x57 (pahG C h x0 x1 kn) (pagE C h x0 x9 kn)
def epaeB:=(cd K (.tmp 57) x57 (epahG C L h K x0 x1 x9 x57) (epagE C L h K x0 x1 x9 x57) (by kernel_rfl) : _=paeB C h x0 x1 x9 x57 (N0 K))
noncomputable def padD (kn : K0 β) : O β :=
 pajO h x0 x1 x9 (fun x57 x1 x9 x0 h=>paeB C h x0 x1 x9 x57 kn)
def epadD:=(sq K (epajO C L h _ x0 x1 x9 x24) (congrArg _ (w4 fun x57 x1 x9 x0 h=>sn (epaeB ..))) (by kernel_rfl) : _=padD C h x0 x1 x9 (N0 K))
noncomputable def pacL (kn : K0 β) : O β :=
 condV x24 (papA C h x0 kn) (padD C h x0 x1 x9 kn)
def epacL:=(cd K (.tmp 24) x24 (epapA C L h K x0 x1 x9 x24) (epadD C L h K x0 x1 x9 x24) (by kernel_rfl) : _=pacL C h x0 x1 x9 x24 (N0 K))
noncomputable def pabV (kn : K0 β) : O β :=
 paiP h x0 x1 x9 (fun x24 x1 x9 x0 h=>pacL C h x0 x1 x9 x24 kn)
def epabV:=(sq K (epaiP C L h _ x0 x1 x9 x20) (congrArg _ (w4 fun x24 x1 x9 x0 h=>sn (epacL ..))) (by kernel_rfl) : _=pabV C h x0 x1 x9 (N0 K))
noncomputable def pabK (kn : K0 β) : O β :=
 condV x20 (pasK C h x0 kn) (pabV C h x0 x1 x9 kn)
def epabK:=(cd K (.tmp 20) x20 (epasK C L h K x0 x1 x9 x20) (epabV C L h K x0 x1 x9 x20) (by kernel_rfl) : _=pabK C h x0 x1 x9 x20 (N0 K))
noncomputable def pabC (kn : K0 β) : O β :=
 paiJ h x0 x1 x9 (fun x20 x1 x9 x0 h=>pabK C h x0 x1 x9 x20 kn)
def epabC:=(sq K (epaiJ C L h _ x0 x1 x9) (congrArg _ (w4 fun x20 x1 x9 x0 h=>sn (epabK ..))) (by kernel_rfl) : _=pabC C h x0 x1 x9 (N0 K))
noncomputable def p17a (kn : K0 β) : O β :=
 paiI h x0 x1 (fun x1 x9 x0 h=>pabC C h x0 x1 x9 kn)
def ep17a:=(sq K (epaiI C L h _ x0 x1) (congrArg _ (w3 fun x1 x9 x0 h=>sn (bk (epabC ..)))) (by kernel_rfl) : _=p17a C h x0 x1 (N0 K))
noncomputable def F17 (C : CF) (L : Nat) (x0 x1 : V) (h : H) : O (V × H) :=
 p17a C h x0 x1 (fun h=>some (.tuple ⟨[]⟩,h))
theorem F17eq (Q : Orc) (n : Nat) (x0 x1 : V) (h : H) (q : Q 17 [x0,x1]=none) : callO prog 4 Q (n + 1) 17 [x0,x1] h=F17 (callO prog 4 Q n) n x0 x1 h :=
 (tp q Tryz.func17 (ep17a (callO prog 4 Q n) n h _ x0 x1) (by kernel_rfl)).trans (by kernel_rfl)
noncomputable def c18a : Code := (Tryz.f18.body).getD .skip
noncomputable abbrev E18 (C : CF) (L : Nat) {β : Type} (h : H) (K : KK β) (n : Nat) (o : List Nat) (v : List (Nat × List Nat)) (r : T Value) : O β := execK prog C L 4 6 [2] (g c18a n) o v r h K
noncomputable def p18a (kr : K1 β) : O β :=
 bnd2 (A.box 24 x0 h) fun a b =>
 bnd (A.load true 24 a b) fun d =>
 bnd2 (C 36 [d] b) fun e f =>
 bnd (A.bin prog .geq 3 e (.int .i64 0)) fun i =>
 toBK i fun j =>
 kr (.bool j) f
theorem ep18a : E18 C L h K 1 [2] [] (r1 0 x0)=p18a C h x0 (R1 K 2) := by kernel_rfl
noncomputable def F18 (C : CF) (L : Nat) (x0 : V) (h : H) : O (V × H) :=
 p18a C h x0 (fun x2 h=>some (x2,h))
theorem F18eq (Q : Orc) (n : Nat) (x0 : V) (h : H) (q : Q 18 [x0]=none) : callO prog 4 Q (n + 1) 18 [x0] h=F18 (callO prog 4 Q n) n x0 h :=
 (tp q Tryz.func18 (ep18a (callO prog 4 Q n) n h _ x0) (by kernel_rfl)).trans (by kernel_rfl)
noncomputable def c30a : Code := (Tryz.f30.body).getD .skip
noncomputable abbrev E30 (C : CF) (L : Nat) {β : Type} (h : H) (K : KK β) (n : Nat) (o : List Nat) (v : List (Nat × List Nat)) (r : T Value) : O β := execK prog C L 4 148 [] (g c30a n) o v r h K
noncomputable def pasZ (kn : K2 β) : O β :=
 bnd (A.nilCheck x0) fun b =>
 bnd (A.fieldAddr 0 b) fun c =>
 bnd2 (C 32 [c] h) fun d e =>
 kn d x0 e
theorem epasZ : E30 C L h K 2 [2,0] [] (r1 0 x0)=pasZ C h x0 (N2 K 2 0) := by kernel_rfl
noncomputable def patA (kn : K2 β) : O β :=
 bnd (A.nilCheck x0) fun c =>
 bnd (A.fieldAddr 0 c) fun d =>
 bnd2 (C 31 [d] h) fun e f =>
 bnd (A.nilCheck x0) fun i =>
 bnd (A.fieldAddr 2 i) fun j =>
 bnd (A.fieldAddr 7 j) fun k =>
 bnd (A.store 1 k e f) fun m =>
 kn x2 x0 m
theorem epatA : E30 C L h K 6 [2,0] [] (r2 2 0 x2 x0)=patA C h x0 x2 (N2 K 2 0) := by kernel_rfl
noncomputable def patB (kn : K3 β) : O β :=
 bnd (A.nilCheck x0) fun b =>
 bnd (A.fieldAddr 0 b) fun c =>
 bnd2 (C 31 [c] h) fun d e =>
 kn x2 d x0 e
theorem epatB : E30 C L h K 14 [2,3,0] [] (r2 2 0 x2 x0)=patB C h x0 x2 (N3 K 2 3 0) := by kernel_rfl
noncomputable def palK (C : CF) (L : Nat) {β : Type} (x2 x3 x0 : V) (h : H) (kn : K2 β) : O β :=
 bnd (A.nilCheck x0) fun c =>
 bnd (A.fieldAddr 0 c) fun d =>
 bnd (A.fieldAddr 1 d) fun e =>
 bnd (A.load false 1 e h) fun f =>
 toBK f fun i =>
 (bif i then
 bnd (A.nilCheck x0) fun n =>
 bnd (A.fieldAddr 0 n) fun o =>
 bnd (A.fieldAddr 1 o) fun p =>
 bnd (A.store 1 p (.bool true) h) fun r =>
 kn x3 x0 r
 else
 bnd (A.sliceStr (.string ⟨⟨[0,4,77,81,84,84]⟩⟩) (some (.int .i64 2)) none) fun t =>
 bnd (A.bin prog .neq 9 x2 t) fun u =>
 toBK u fun v =>
 (bif v then
 bnd (A.nilCheck x0) fun a1 =>
 bnd (A.fieldAddr 0 a1) fun b1 =>
 bnd (A.fieldAddr 1 b1) fun c1 =>
 bnd (A.store 1 c1 (.bool true) h) fun e1 =>
 kn x3 x0 e1
 else
 bnd (A.bin prog .and 5 x3 (.int .u8 1)) fun i1 =>
 bnd (A.bin prog .gtr 5 i1 (.int .u8 0)) fun j1 =>
 toBK j1 fun k1 =>
 bnd (A.nilCheck x0) fun m1 =>
 bnd (A.fieldAddr 0 m1) fun n1 =>
 bnd (A.fieldAddr 1 n1) fun o1 =>
 bnd (A.store 1 o1 (.bool k1) h) fun q1 =>
 kn x3 x0 q1))
theorem epalK : E30 C L h K 30 [3,0] [] (r3 2 3 0 x2 x3 x0)=palK C L x2 x3 x0 h (N2 K 3 0) := by kernel_rfl
noncomputable def patC (kn : K2 β) : O β :=
 bnd (A.bin prog .and 5 x3 (.int .u8 2)) fun c =>
 bnd (A.bin prog .gtr 5 c (.int .u8 0)) fun d =>
 toBK d fun e =>
 bnd (A.nilCheck x0) fun f =>
 bnd (A.fieldAddr 2 f) fun i =>
 bnd (A.fieldAddr 8 i) fun j =>
 bnd (A.store 1 j (.bool e) h) fun l =>
 kn x3 x0 l
theorem epatC : E30 C L h K 62 [3,0] [] (r2 3 0 x3 x0)=patC h x0 x3 (N2 K 3 0) := by kernel_rfl
noncomputable def patD (kn : K2 β) : O β :=
 bnd (A.bin prog .and 5 x3 (.int .u8 4)) fun c =>
 bnd (A.bin prog .gtr 5 c (.int .u8 0)) fun d =>
 toBK d fun e =>
 bnd (A.nilCheck x0) fun f =>
 bnd (A.fieldAddr 2 f) fun i =>
 bnd (A.fieldAddr 11 i) fun j =>
 bnd (A.store 1 j (.bool e) h) fun l =>
 kn x3 x0 l
theorem epatD : E30 C L h K 126 [3,0] [] (r2 3 0 x3 x0)=patD h x0 x3 (N2 K 3 0) := by kernel_rfl
noncomputable def patE (kn : K2 β) : O β :=
 bnd (A.bin prog .shr 5 x3 (.int .u64 3)) fun c =>
 bnd (A.bin prog .and 5 c (.int .u8 3)) fun d =>
 bnd (A.nilCheck x0) fun e =>
 bnd (A.fieldAddr 2 e) fun f =>
 bnd (A.fieldAddr 12 f) fun i =>
 bnd (A.fieldAddr 2 i) fun j =>
 bnd (A.store 1 j d h) fun l =>
 kn x3 x0 l
theorem epatE : E30 C L h K 254 [3,0] [] (r2 3 0 x3 x0)=patE h x0 x3 (N2 K 3 0) := by kernel_rfl
noncomputable def patF (kn : K2 β) : O β :=
 bnd (A.bin prog .and 5 x3 (.int .u8 32)) fun c =>
 bnd (A.bin prog .gtr 5 c (.int .u8 0)) fun d =>
 toBK d fun e =>
 bnd (A.nilCheck x0) fun f =>
 bnd (A.fieldAddr 2 f) fun i =>
 bnd (A.fieldAddr 12 i) fun j =>
 bnd (A.fieldAddr 3 j) fun k =>
 bnd (A.store 1 k (.bool e) h) fun m =>
 kn x3 x0 m
theorem epatF : E30 C L h K 510 [3,0] [] (r2 3 0 x3 x0)=patF h x0 x3 (N2 K 3 0) := by kernel_rfl
noncomputable def patG (kn : K2 β) : O β :=
 bnd (A.bin prog .and 5 x3 (.int .u8 64)) fun c =>
 bnd (A.bin prog .gtr 5 c (.int .u8 0)) fun d =>
 toBK d fun e =>
 bnd (A.nilCheck x0) fun f =>
 bnd (A.fieldAddr 2 f) fun i =>
 bnd (A.fieldAddr 17 i) fun j =>
 bnd (A.store 1 j (.bool e) h) fun l =>
 kn x3 x0 l
theorem epatG : E30 C L h K 1022 [3,0] [] (r2 3 0 x3 x0)=patG h x0 x3 (N2 K 3 0) := by kernel_rfl
noncomputable def patH (kn : K1 β) : O β :=
 bnd (A.bin prog .and 5 x3 (.int .u8 128)) fun c =>
 bnd (A.bin prog .gtr 5 c (.int .u8 0)) fun d =>
 toBK d fun e =>
 bnd (A.nilCheck x0) fun f =>
 bnd (A.fieldAddr 2 f) fun i =>
 bnd (A.fieldAddr 16 i) fun j =>
 bnd (A.store 1 j (.bool e) h) fun l =>
 kn x0 l
theorem epatH : E30 C L h K 2046 [0] [] (r2 3 0 x3 x0)=patH h x0 x3 (N1 K 0) := by kernel_rfl
noncomputable def patI (kn : K1 β) : O β :=
 bnd (A.nilCheck x0) fun c =>
 bnd (A.fieldAddr 0 c) fun d =>
 bnd2 (C 33 [d] h) fun e f =>
 bnd (A.nilCheck x0) fun i =>
 bnd (A.fieldAddr 2 i) fun j =>
 bnd (A.fieldAddr 9 j) fun k =>
 bnd (A.store 1 k e f) fun m =>
 kn x0 m
theorem epatI : E30 C L h K 4094 [0] [] (r1 0 x0)=patI C h x0 (N1 K 0) := by kernel_rfl
noncomputable def patJ (kn : K1 β) : O β :=
 bnd (A.nilCheck x0) fun c =>
 bnd (A.fieldAddr 0 c) fun d =>
 bnd2 (C 32 [d] h) fun e f =>
 bnd (A.nilCheck x0) fun i =>
 bnd (A.fieldAddr 2 i) fun j =>
 bnd (A.fieldAddr 10 j) fun k =>
 bnd (A.store 1 k e f) fun m =>
 kn x0 m
theorem epatJ : E30 C L h K 8190 [0] [] (r1 0 x0)=patJ C h x0 (N1 K 0) := by kernel_rfl
noncomputable def papU (kn : K1 β) : O β :=
 bnd (A.nilCheck x0) fun b =>
 bnd (A.fieldAddr 2 b) fun c =>
 bnd (A.fieldAddr 11 c) fun d =>
 bnd (A.load false 1 d h) fun e =>
 toBK e fun f =>
 (bif f then
 bnd (A.nilCheck x0) fun k =>
 bnd (A.fieldAddr 0 k) fun l =>
 bnd2 (C 32 [l] h) fun m n =>
 bnd (A.nilCheck x0) fun o =>
 bnd (A.fieldAddr 2 o) fun p =>
 bnd (A.fieldAddr 12 p) fun q =>
 bnd (A.fieldAddr 0 q) fun r =>
 bnd (A.store 1 r m n) fun t =>
 bnd (A.nilCheck x0) fun w =>
 bnd (A.fieldAddr 0 w) fun y =>
 bnd2 (C 52 [y] t) fun z a1 =>
 bnd (A.nilCheck x0) fun b1 =>
 bnd (A.fieldAddr 2 b1) fun c1 =>
 bnd (A.fieldAddr 12 c1) fun d1 =>
 bnd (A.fieldAddr 1 d1) fun e1 =>
 bnd (A.store 1 e1 z a1) fun i1 =>
 kn x0 i1
 else
 kn x0 h)
theorem epapU : E30 C L h K 16382 [0] [] (r1 0 x0)=papU C h x0 (N1 K 0) := by kernel_rfl
noncomputable def pajS (C : CF) (L : Nat) {β : Type} (x0 : V) (h : H) (kn : K0 β) : O β :=
 bnd (A.nilCheck x0) fun b =>
 bnd (A.fieldAddr 2 b) fun c =>
 bnd (A.fieldAddr 16 c) fun d =>
 bnd (A.load false 1 d h) fun e =>
 toBK e fun f =>
 (bif f then
 bnd (A.nilCheck x0) fun k =>
 bnd (A.fieldAddr 0 k) fun l =>
 bnd2 (C 32 [l] h) fun m n =>
 bnd (A.nilCheck x0) fun o =>
 bnd (A.fieldAddr 2 o) fun p =>
 bnd (A.fieldAddr 18 p) fun q =>
 bnd (A.store 1 q m n) fun s =>
 bnd (A.nilCheck x0) fun u =>
 bnd (A.fieldAddr 2 u) fun v =>
 bnd (A.fieldAddr 17 v) fun w =>
 bnd (A.load false 1 w s) fun y =>
 toBK y fun z =>
 (bif z then
 bnd (A.nilCheck x0) fun c1 =>
 bnd (A.fieldAddr 0 c1) fun d1 =>
 bnd2 (C 52 [d1] s) fun e1 f1 =>
 bnd (A.nilCheck x0) fun i1 =>
 bnd (A.fieldAddr 2 i1) fun j1 =>
 bnd (A.fieldAddr 19 j1) fun k1 =>
 bnd (A.store 1 k1 e1 f1) fun m1 =>
 kn m1
 else
 kn s)
 else
 bnd (A.nilCheck x0) fun o1 =>
 bnd (A.fieldAddr 2 o1) fun p1 =>
 bnd (A.fieldAddr 17 p1) fun q1 =>
 bnd (A.load false 1 q1 h) fun r1 =>
 toBK r1 fun s1 =>
 (bif s1 then
 bnd (A.nilCheck x0) fun v1 =>
 bnd (A.fieldAddr 0 v1) fun w1 =>
 bnd2 (C 52 [w1] h) fun y1 z1 =>
 bnd (A.nilCheck x0) fun a2 =>
 bnd (A.fieldAddr 2 a2) fun b2 =>
 bnd (A.fieldAddr 19 b2) fun c2 =>
 bnd (A.store 1 c2 y1 z1) fun e2 =>
 kn e2
 else
 kn h))
theorem epajS : E30 C L h K 16383 [] [] (r1 0 x0)=pajS C L x0 h (N0 K) := by kernel_rfl
noncomputable def pagF (C : CF) (L : Nat) {β : Type} (x0 : V) (h : H) (kn : K0 β) : O β :=
 papU C h x0 (fun x0 h=>pajS C L x0 h kn)
def epagF:=(sq K (epapU C L h _ x0) (congrArg _ (w1 fun x0 h=>sn (epajS ..))) (by kernel_rfl) : _=pagF C L x0 h (N0 K))
noncomputable def paeQ (C : CF) (L : Nat) {β : Type} (x0 : V) (h : H) (kn : K0 β) : O β :=
 patI C h x0 (fun x0 h=>patJ C h x0 (fun x0 h=>pagF C L x0 h kn))
def epaeQ:=(sq K (epatI C L h _ x0) (congrArg _ (w1 fun x0 h=>sn (sq K (epatJ C L h _ x0) (congrArg _ (w1 fun x0 h=>sn (epagF ..))) (by kernel_rfl)))) (by kernel_rfl) : _=paeQ C L x0 h (N0 K))
noncomputable def p30a (C : CF) (L : Nat) {β : Type} (x0 : V) (h : H) (kn : K0 β) : O β :=
 pasZ C h x0 (fun x2 x0 h=>patA C h x0 x2 (fun x2 x0 h=>patB C h x0 x2 (fun x2 x3 x0 h=>palK C L x2 x3 x0 h (fun x3 x0 h=>patC h x0 x3 (fun x3 x0 h=>patD h x0 x3 (fun x3 x0 h=>patE h x0 x3 (fun x3 x0 h=>patF h x0 x3 (fun x3 x0 h=>patG h x0 x3 (fun x3 x0 h=>patH h x0 x3 (fun x0 h=>paeQ C L x0 h kn))))))))))
def ep30a:=(sq K (epasZ C L h _ x0) (congrArg _ (w2 fun x2 x0 h=>sn (sq K (epatA C L h _ x0 x2) (congrArg _ (w2 fun x2 x0 h=>sn (sq K (epatB C L h _ x0 x2) (congrArg _ (w3 fun x2 x3 x0 h=>sn (sq K (epalK C L h _ x0 x2 x3) (congrArg _ (w2 fun x3 x0 h=>sn (sq K (epatC C L h _ x0 x3) (congrArg _ (w2 fun x3 x0 h=>sn (sq K (epatD C L h _ x0 x3) (congrArg _ (w2 fun x3 x0 h=>sn (sq K (epatE C L h _ x0 x3) (congrArg _ (w2 fun x3 x0 h=>sn (sq K (epatF C L h _ x0 x3) (congrArg _ (w2 fun x3 x0 h=>sn (sq K (epatG C L h _ x0 x3) (congrArg _ (w2 fun x3 x0 h=>sn (sq K (epatH C L h _ x0 x3) (congrArg _ (w1 fun x0 h=>sn (epaeQ ..))) (by kernel_rfl)))) (by kernel_rfl)))) (by kernel_rfl)))) (by kernel_rfl)))) (by kernel_rfl)))) (by kernel_rfl)))) (by kernel_rfl)))) (by kernel_rfl)))) (by kernel_rfl)))) (by kernel_rfl) : _=p30a C L x0 h (N0 K))
noncomputable def F30 (C : CF) (L : Nat) (x0 : V) (h : H) : O (V × H) :=
 p30a C L x0 h (fun h=>some (.tuple ⟨[]⟩,h))
theorem F30eq (Q : Orc) (n : Nat) (x0 : V) (h : H) (q : Q 30 [x0]=none) : callO prog 4 Q (n + 1) 30 [x0] h=F30 (callO prog 4 Q n) n x0 h :=
 (tp q Tryz.func30 (ep30a (callO prog 4 Q n) n h _ x0) (by kernel_rfl)).trans (by kernel_rfl)
noncomputable def c31a : Code := (Tryz.f31.body).getD .skip
noncomputable abbrev E31 (C : CF) (L : Nat) {β : Type} (h : H) (K : KK β) (n : Nat) (o : List Nat) (v : List (Nat × List Nat)) (r : T Value) : O β := execK prog C L 4 26 [2] (g c31a n) o v r h K
noncomputable def p31a (kr : K1 β) : O β :=
 bnd (A.nilCheck x0) fun c =>
 bnd (A.fieldAddr 0 c) fun d =>
 bnd (A.load false 1 d h) fun e =>
 bnd (A.bin prog .eql 9 e (.string ⟨⟨[]⟩⟩)) fun f =>
 toBK f fun i =>
 (bif i then
 bnd (A.nilCheck x0) fun k =>
 bnd (A.fieldAddr 1 k) fun l =>
 bnd (A.store 1 l (.bool true) h) fun n =>
 kr (.int .u8 0) n
 else
 bnd (A.nilCheck x0) fun q =>
 bnd (A.fieldAddr 0 q) fun r =>
 bnd (A.load false 1 r h) fun s =>
 bnd (A.indexStr s (.int .i64 0)) fun t =>
 bnd (A.nilCheck x0) fun y =>
 bnd (A.fieldAddr 0 y) fun z =>
 bnd (A.load false 1 z h) fun a1 =>
 bnd (A.sliceStr a1 (some (.int .i64 1)) none) fun b1 =>
 bnd (A.nilCheck x0) fun c1 =>
 bnd (A.fieldAddr 0 c1) fun d1 =>
 bnd (A.store 1 d1 b1 h) fun f1 =>
 kr t f1)
theorem ep31a : E31 C L h K 1 [2] [] (r1 0 x0)=p31a h x0 (R1 K 2) := by kernel_rfl
noncomputable def F31 (C : CF) (L : Nat) (x0 : V) (h : H) : O (V × H) :=
 p31a h x0 (fun x2 h=>some (x2,h))
theorem F31eq (Q : Orc) (n : Nat) (x0 : V) (h : H) (q : Q 31 [x0]=none) : callO prog 4 Q (n + 1) 31 [x0] h=F31 (callO prog 4 Q n) n x0 h :=
 (tp q Tryz.func31 (ep31a (callO prog 4 Q n) n h _ x0) (by kernel_rfl)).trans (by kernel_rfl)
noncomputable def c32a : Code := (Tryz.f32.body).getD .skip
noncomputable abbrev E32 (C : CF) (L : Nat) {β : Type} (h : H) (K : KK β) (n : Nat) (o : List Nat) (v : List (Nat × List Nat)) (r : T Value) : O β := execK prog C L 4 36 [2] (g c32a n) o v r h K
noncomputable def p32a (kr : K1 β) : O β :=
 bnd (A.nilCheck x0) fun c =>
 bnd (A.fieldAddr 0 c) fun d =>
 bnd (A.load false 1 d h) fun e =>
 bnd2 (C 53 [e] h) fun f i =>
 bnd (A.extract 0 f) fun k =>
 bnd (A.extract 1 f) fun l =>
 bnd (A.extract 2 f) fun m =>
 bnd (A.nilCheck x0) fun s =>
 bnd (A.fieldAddr 1 s) fun t =>
 bnd (A.load false 1 t i) fun u =>
 toBK u fun v =>
 (bif v then
 bnd (A.nilCheck x0) fun z =>
 bnd (A.fieldAddr 1 z) fun a1 =>
 bnd (A.store 1 a1 (.bool true) i) fun c1 =>
 bnd (A.nilCheck x0) fun f1 =>
 bnd (A.fieldAddr 0 f1) fun i1 =>
 bnd (A.load false 1 i1 c1) fun j1 =>
 bnd (A.sliceStr j1 (some l) none) fun l1 =>
 bnd (A.nilCheck x0) fun m1 =>
 bnd (A.fieldAddr 0 m1) fun n1 =>
 bnd (A.store 1 n1 l1 c1) fun p1 =>
 kr k p1
 else
 bnd (A.bin prog .neq 40 m (.int .i64 0)) fun t1 =>
 toBK t1 fun u1 =>
 bnd (A.nilCheck x0) fun w1 =>
 bnd (A.fieldAddr 1 w1) fun y1 =>
 bnd (A.store 1 y1 (.bool u1) i) fun a2 =>
 bnd (A.nilCheck x0) fun d2 =>
 bnd (A.fieldAddr 0 d2) fun e2 =>
 bnd (A.load false 1 e2 a2) fun f2 =>
 bnd (A.sliceStr f2 (some l) none) fun j2 =>
 bnd (A.nilCheck x0) fun k2 =>
 bnd (A.fieldAddr 0 k2) fun l2 =>
 bnd (A.store 1 l2 j2 a2) fun n2 =>
 kr k n2)
theorem ep32a : E32 C L h K 1 [2] [] (r1 0 x0)=p32a C h x0 (R1 K 2) := by kernel_rfl
noncomputable def F32 (C : CF) (L : Nat) (x0 : V) (h : H) : O (V × H) :=
 p32a C h x0 (fun x2 h=>some (x2,h))
theorem F32eq (Q : Orc) (n : Nat) (x0 : V) (h : H) (q : Q 32 [x0]=none) : callO prog 4 Q (n + 1) 32 [x0] h=F32 (callO prog 4 Q n) n x0 h :=
 (tp q Tryz.func32 (ep32a (callO prog 4 Q n) n h _ x0) (by kernel_rfl)).trans (by kernel_rfl)
noncomputable def c33a : Code := (Tryz.f33.body).getD .skip
noncomputable abbrev E33 (C : CF) (L : Nat) {β : Type} (h : H) (K : KK β) (n : Nat) (o : List Nat) (v : List (Nat × List Nat)) (r : T Value) : O β := execK prog C L 4 37 [2] (g c33a n) o v r h K
noncomputable def p33a (kr : K1 β) : O β :=
 bnd (A.nilCheck x0) fun c =>
 bnd (A.fieldAddr 0 c) fun d =>
 bnd (A.load false 1 d h) fun e =>
 bnd2 (C 54 [e] h) fun f i =>
 bnd (A.extract 0 f) fun k =>
 bnd (A.extract 1 f) fun l =>
 bnd (A.extract 2 f) fun m =>
 bnd (A.nilCheck x0) fun s =>
 bnd (A.fieldAddr 1 s) fun t =>
 bnd (A.load false 1 t i) fun u =>
 toBK u fun v =>
 (bif v then
 bnd (A.nilCheck x0) fun z =>
 bnd (A.fieldAddr 1 z) fun a1 =>
 bnd (A.store 1 a1 (.bool true) i) fun c1 =>
 bnd (A.nilCheck x0) fun f1 =>
 bnd (A.fieldAddr 0 f1) fun i1 =>
 bnd (A.load false 1 i1 c1) fun j1 =>
 bnd (A.sliceStr j1 (some l) none) fun l1 =>
 bnd (A.nilCheck x0) fun m1 =>
 bnd (A.fieldAddr 0 m1) fun n1 =>
 bnd (A.store 1 n1 l1 c1) fun p1 =>
 bnd (A.conv prog 3 34 k) fun r1 =>
 kr r1 p1
 else
 bnd (A.bin prog .neq 40 m (.int .i64 0)) fun u1 =>
 toBK u1 fun v1 =>
 bnd (A.nilCheck x0) fun y1 =>
 bnd (A.fieldAddr 1 y1) fun z1 =>
 bnd (A.store 1 z1 (.bool v1) i) fun b2 =>
 bnd (A.nilCheck x0) fun e2 =>
 bnd (A.fieldAddr 0 e2) fun f2 =>
 bnd (A.load false 1 f2 b2) fun i2 =>
 bnd (A.sliceStr i2 (some l) none) fun k2 =>
 bnd (A.nilCheck x0) fun l2 =>
 bnd (A.fieldAddr 0 l2) fun m2 =>
 bnd (A.store 1 m2 k2 b2) fun o2 =>
 bnd (A.conv prog 3 34 k) fun q2 =>
 kr q2 o2)
theorem ep33a : E33 C L h K 1 [2] [] (r1 0 x0)=p33a C h x0 (R1 K 2) := by kernel_rfl
noncomputable def F33 (C : CF) (L : Nat) (x0 : V) (h : H) : O (V × H) :=
 p33a C h x0 (fun x2 h=>some (x2,h))
theorem F33eq (Q : Orc) (n : Nat) (x0 : V) (h : H) (q : Q 33 [x0]=none) : callO prog 4 Q (n + 1) 33 [x0] h=F33 (callO prog 4 Q n) n x0 h :=
 (tp q Tryz.func33 (ep33a (callO prog 4 Q n) n h _ x0) (by kernel_rfl)).trans (by kernel_rfl)
noncomputable def c34a : Code := (Tryz.f34.body).getD .skip
noncomputable abbrev E34 (C : CF) (L : Nat) {β : Type} (h : H) (K : KK β) (n : Nat) (o : List Nat) (v : List (Nat × List Nat)) (r : T Value) : O β := execK prog C L 4 12 [2] (g c34a n) o v r h K
noncomputable def p34a (kr : K1 β) : O β :=
 bnd (A.nilCheck x0) fun c =>
 bnd (A.fieldAddr 0 c) fun d =>
 bnd (A.load false 1 d h) fun e =>
 bnd (A.nilCheck x0) fun j =>
 bnd (A.fieldAddr 0 j) fun k =>
 bnd (A.store 1 k (.string ⟨⟨[]⟩⟩) h) fun m =>
 kr e m
theorem ep34a : E34 C L h K 1 [2] [] (r1 0 x0)=p34a h x0 (R1 K 2) := by kernel_rfl
noncomputable def F34 (C : CF) (L : Nat) (x0 : V) (h : H) : O (V × H) :=
 p34a h x0 (fun x2 h=>some (x2,h))
theorem F34eq (Q : Orc) (n : Nat) (x0 : V) (h : H) (q : Q 34 [x0]=none) : callO prog 4 Q (n + 1) 34 [x0] h=F34 (callO prog 4 Q n) n x0 h :=
 (tp q Tryz.func34 (ep34a (callO prog 4 Q n) n h _ x0) (by kernel_rfl)).trans (by kernel_rfl)
noncomputable def c35a : Code := (Tryz.f35.body).getD .skip
noncomputable abbrev E35 (C : CF) (L : Nat) {β : Type} (h : H) (K : KK β) (n : Nat) (o : List Nat) (v : List (Nat × List Nat)) (r : T Value) : O β := execK prog C L 4 63 [] (g c35a n) o v r h K
noncomputable def palL (kn : K2 β) : O β :=
 bnd (A.nilCheck x0) fun b =>
 bnd (A.fieldAddr 2 b) fun c =>
 bnd (A.fieldAddr 0 c) fun d =>
 bnd (A.load false 1 d h) fun e =>
 kn e x0 h
theorem epalL : E35 C L h K 2 [7,0] [] (r1 0 x0)=palL h x0 (N2 K 7 0) := by kernel_rfl
noncomputable def palM (kn : K3 β) : O β :=
 bnd (A.bin prog .eql 5 x7 (.int .u8 9)) fun a =>
 toBK a fun b =>
 kn (.bool b) x7 x0 h
theorem epalM : E35 C L h K 12 [8,7,0] [(0,[])] (r2 7 0 x7 x0)=palM h x0 x7 (N3 K 8 7 0) := by kernel_rfl
noncomputable def patL (kn : K0 β) : O β :=
 bnd (A.nilCheck x0) fun c =>
 bnd (A.fieldAddr 0 c) fun d =>
 bnd2 (C 34 [d] h) fun e f =>
 bnd (A.nilCheck x0) fun i =>
 bnd (A.fieldAddr 2 i) fun j =>
 bnd (A.fieldAddr 23 j) fun k =>
 bnd (A.store 1 k e f) fun m =>
 kn m
theorem epatL : E35 C L h K 26 [] [(0,[])] (r3 8 7 0 x8 x7 x0)=patL C h x0 (N0 K) := by kernel_rfl
noncomputable def panH (kn : K2 β) : O β :=
 bnd (A.bin prog .eql 5 x7 (.int .u8 8)) fun a =>
 toBK a fun b =>
 (bif b then
 kn (.bool b) x0 h
 else
 bnd (A.bin prog .eql 5 x7 (.int .u8 10)) fun d =>
 toBK d fun e =>
 kn (.bool e) x0 h)
theorem epanH : E35 C L h K 54 [18,0] [(0,[])] (r3 8 7 0 x8 x7 x0)=panH h x0 x7 (N2 K 18 0) := by kernel_rfl
noncomputable def paiX (kx1 : K0 β) (kn : K1 β) : O β :=
 bnd (A.nilCheck x0) fun b =>
 bnd (A.fieldAddr 0 b) fun c =>
 bnd (A.fieldAddr 0 c) fun d =>
 bnd (A.load false 1 d h) fun e =>
 bnd (A.bin prog .neq 9 e (.string ⟨⟨[]⟩⟩)) fun f =>
 toBK f fun i =>
 (bif i then
 bnd (A.nilCheck x0) fun l =>
 bnd (A.fieldAddr 0 l) fun m =>
 bnd (A.fieldAddr 1 m) fun n =>
 bnd (A.load false 1 n h) fun o =>
 toBK o fun p =>
 bnd (A.un prog .not (.bool p)) fun q =>
 toBK q fun r =>
 (bif r then
 kn x0 h
 else
 kx1 h)
 else
 kx1 h)
theorem epaiX : E35 C L h K 880 [0] [(1,[]),(0,[])] (r1 0 x0)=paiX h x0 (X0 K 1) (N1 K 0) := by kernel_rfl
noncomputable def papV (kn : K2 β) : O β :=
 bnd (A.nilCheck x0) fun b =>
 bnd (A.fieldAddr 0 b) fun c =>
 bnd2 (C 32 [c] h) fun d e =>
 bnd (A.build Z120L [(0,1,d)]) fun f =>
 bnd2 (A.box 2 Z120 e) fun i j =>
 bnd (A.store 2 i f j) fun l =>
 kn i x0 l
theorem epapV : E35 C L h K 3524 [2,0] [(2,[0]),(1,[]),(0,[])] (r1 0 x0)=papV C h x0 (N2 K 2 0) := by kernel_rfl
noncomputable def papW (kn : K2 β) : O β :=
 bnd (A.nilCheck x0) fun b =>
 bnd (A.fieldAddr 2 b) fun c =>
 bnd (A.fieldAddr 0 c) fun d =>
 bnd (A.load false 1 d h) fun e =>
 bnd (A.bin prog .eql 5 e (.int .u8 8)) fun f =>
 toBK f fun i =>
 (bif i then
 bnd (A.nilCheck x0) fun k =>
 bnd (A.fieldAddr 0 k) fun l =>
 bnd2 (C 31 [l] h) fun m n =>
 bnd (A.fieldAddr 1 x2) fun o =>
 bnd (A.store 1 o m n) fun q =>
 kn x2 x0 q
 else
 kn x2 x0 h)
theorem epapW : E35 C L h K 7050 [2,0] [(2,[0]),(1,[]),(0,[])] (r2 2 0 x2 x0)=papW C h x0 x2 (N2 K 2 0) := by kernel_rfl
noncomputable def papX (kn : K1 β) : O β :=
 bnd (A.nilCheck x0) fun c =>
 bnd (A.fieldAddr 2 c) fun d =>
 bnd (A.fieldAddr 22 d) fun e =>
 bnd (A.load false 1 e h) fun f =>
 bnd (A.load true 2 x2 h) fun i =>
 bnd2 (A.buildSlice 2 1 Z120L [(0,2,i)] h) fun j k =>
 bnd2 (A.append 2 24 f j k) fun l m =>
 bnd (A.nilCheck x0) fun n =>
 bnd (A.fieldAddr 2 n) fun o =>
 bnd (A.fieldAddr 22 o) fun p =>
 bnd (A.store 1 p l m) fun r =>
 kn x0 r
theorem epapX : E35 C L h K 7051 [0] [(2,[0]),(1,[]),(0,[])] (r2 2 0 x2 x0)=papX h x0 x2 (N1 K 0) := by kernel_rfl
noncomputable def pafX (kn : K1 β) : O β :=
 papV C h x0 (fun x2 x0 h=>papW C h x0 x2 (fun x2 x0 h=>papX h x0 x2 kn))
def epafX:=(sq K (epapV C L h _ x0) (congrArg _ (w2 fun x2 x0 h=>sn (sq K (epapW C L h _ x0 x2) (congrArg _ (w2 fun x2 x0 h=>sn (epapX ..))) (by kernel_rfl)))) (by kernel_rfl) : _=pafX C h x0 (N1 K 0))
noncomputable def paeK (kx1 : K0 β) (kn : K1 β) : O β :=
 paiX h x0 kx1 (fun x0 h=>pafX C h x0 kn)
def epaeK:=(sq K (epaiX C L h _ x0) (congrArg _ (w1 fun x0 h=>sn (bk (epafX ..)))) (by kernel_rfl) : _=paeK C h x0 (X0 K 1) (N1 K 0))
noncomputable def pahQ (C : CF) (L : Nat) {β : Type} (kx1 : K0 β) : Nat → K1 β
 | 0,_,_ => none
 | n + 1,x0,h => paeK C h x0 kx1 (fun x0 h=>pahQ C L kx1 n x0 h)
theorem epahQ (C : CF) (L : Nat) {β : Type} (K : KK β) : ∀ (n : Nat) (x0 : V) (h : H),loopK (fun fr h K=>execK prog C L 4 63 [] (g c35a 440) [0] [(1,[]),(0,[])] fr h K) n (r1 0 x0) h K=pahQ C L (X0 K 1) n x0 h
 | 0,_,_ => rfl
 | n + 1,x0,h => (cg (epaeK C L h _ x0) (by kernel_rfl)).trans (congrArg _ (w1 fun x0 h=>sl (epahQ C L K n x0 h)))
noncomputable def padI (kx1 : K0 β) : O β :=
 pahQ C L kx1 L x0 h
def epadI:=(lp [] (r2 18 0 x18 x0) (epahQ C L K L x0 h) (by kernel_rfl) : _=padI C L h x0 (X0 K 1))
noncomputable def patK (kn : K0 β) : O β :=
 kn h
theorem epatK : E35 C L h K 111 [] [(0,[])] (r2 18 0 x18 x0)=patK h (N0 K) := by kernel_rfl
noncomputable def pacT (kn : K0 β) : O β :=
 condV x18 (padI C L h x0 kn) (patK h kn)
def epacT:=(cd K (.tmp 18) x18 (bk (epadI C L h _ x0 x18)) (epatK C L h K x0 x18) (by kernel_rfl) : _=pacT C L h x0 x18 (N0 K))
noncomputable def pacG (kn : K0 β) : O β :=
 panH h x0 x7 (fun x18 x0 h=>pacT C L h x0 x18 kn)
def epacG:=(sq K (epanH C L h _ x0 x7 x8) (congrArg _ (w2 fun x18 x0 h=>sn (epacT ..))) (by kernel_rfl) : _=pacG C L h x0 x7 (N0 K))
noncomputable def pabZ (kn : K0 β) : O β :=
 condV x8 (patL C h x0 kn) (pacG C L h x0 x7 kn)
def epabZ:=(cd K (.tmp 8) x8 (epatL C L h K x0 x7 x8) (epacG C L h K x0 x7 x8) (by kernel_rfl) : _=pabZ C L h x0 x7 x8 (N0 K))
noncomputable def pabO (kn : K0 β) : O β :=
 palM h x0 x7 (fun x8 x7 x0 h=>pabZ C L h x0 x7 x8 kn)
def epabO:=(sq K (epalM C L h _ x0 x7) (congrArg _ (w3 fun x8 x7 x0 h=>sn (epabZ ..))) (by kernel_rfl) : _=pabO C L h x0 x7 (N0 K))
noncomputable def p35a (kn : K0 β) : O β :=
 palL h x0 (fun x7 x0 h=>pabO C L h x0 x7 kn)
def ep35a:=(sq K (epalL C L h _ x0) (congrArg _ (w2 fun x7 x0 h=>sn (bk (epabO ..)))) (by kernel_rfl) : _=p35a C L h x0 (N0 K))
noncomputable def F35 (C : CF) (L : Nat) (x0 : V) (h : H) : O (V × H) :=
 p35a C L h x0 (fun h=>some (.tuple ⟨[]⟩,h))
theorem F35eq (Q : Orc) (n : Nat) (x0 : V) (h : H) (q : Q 35 [x0]=none) : callO prog 4 Q (n + 1) 35 [x0] h=F35 (callO prog 4 Q n) n x0 h :=
 (tp q Tryz.func35 (ep35a (callO prog 4 Q n) n h _ x0) (by kernel_rfl)).trans (by kernel_rfl)
noncomputable def c52a : Code := (Tryz.f52.body).getD .skip
noncomputable abbrev E52 (C : CF) (L : Nat) {β : Type} (h : H) (K : KK β) (n : Nat) (o : List Nat) (v : List (Nat × List Nat)) (r : T Value) : O β := execK prog C L 4 36 [2] (g c52a n) o v r h K
noncomputable def p52a (kr : K1 β) : O β :=
 bnd (A.nilCheck x0) fun c =>
 bnd (A.fieldAddr 0 c) fun d =>
 bnd (A.load false 1 d h) fun e =>
 bnd2 (C 76 [e] h) fun f i =>
 bnd (A.extract 0 f) fun k =>
 bnd (A.extract 1 f) fun l =>
 bnd (A.extract 2 f) fun m =>
 bnd (A.nilCheck x0) fun s =>
 bnd (A.fieldAddr 1 s) fun t =>
 bnd (A.load false 1 t i) fun u =>
 toBK u fun v =>
 (bif v then
 bnd (A.nilCheck x0) fun z =>
 bnd (A.fieldAddr 1 z) fun a1 =>
 bnd (A.store 1 a1 (.bool true) i) fun c1 =>
 bnd (A.nilCheck x0) fun f1 =>
 bnd (A.fieldAddr 0 f1) fun i1 =>
 bnd (A.load false 1 i1 c1) fun j1 =>
 bnd (A.sliceStr j1 (some l) none) fun l1 =>
 bnd (A.nilCheck x0) fun m1 =>
 bnd (A.fieldAddr 0 m1) fun n1 =>
 bnd (A.store 1 n1 l1 c1) fun p1 =>
 kr k p1
 else
 bnd (A.bin prog .neq 40 m (.int .i64 0)) fun t1 =>
 toBK t1 fun u1 =>
 bnd (A.nilCheck x0) fun w1 =>
 bnd (A.fieldAddr 1 w1) fun y1 =>
 bnd (A.store 1 y1 (.bool u1) i) fun a2 =>
 bnd (A.nilCheck x0) fun d2 =>
 bnd (A.fieldAddr 0 d2) fun e2 =>
 bnd (A.load false 1 e2 a2) fun f2 =>
 bnd (A.sliceStr f2 (some l) none) fun j2 =>
 bnd (A.nilCheck x0) fun k2 =>
 bnd (A.fieldAddr 0 k2) fun l2 =>
 bnd (A.store 1 l2 j2 a2) fun n2 =>
 kr k n2)
theorem ep52a : E52 C L h K 1 [2] [] (r1 0 x0)=p52a C h x0 (R1 K 2) := by kernel_rfl
noncomputable def F52 (C : CF) (L : Nat) (x0 : V) (h : H) : O (V × H) :=
 p52a C h x0 (fun x2 h=>some (x2,h))
theorem F52eq (Q : Orc) (n : Nat) (x0 : V) (h : H) (q : Q 52 [x0]=none) : callO prog 4 Q (n + 1) 52 [x0] h=F52 (callO prog 4 Q n) n x0 h :=
 (tp q Tryz.func52 (ep52a (callO prog 4 Q n) n h _ x0) (by kernel_rfl)).trans (by kernel_rfl)
noncomputable def c53a : Code := (Tryz.f53.body).getD .skip
noncomputable abbrev E53 (C : CF) (L : Nat) {β : Type} (h : H) (K : KK β) (n : Nat) (o : List Nat) (v : List (Nat × List Nat)) (r : T Value) : O β := execK prog C L 4 21 [2,3,4] (g c53a n) o v r h K
noncomputable def p53a (kr : K3 β) : O β :=
 bnd2 (C 76 [x0] h) fun e f =>
 bnd (A.extract 0 e) fun j =>
 bnd (A.extract 1 e) fun k =>
 bnd (A.extract 2 e) fun l =>
 bnd (A.bin prog .eql 40 l (.int .i64 0)) fun q =>
 toBK q fun r =>
 (bif r then
 bnd2 (C 77 [j] f) fun u v =>
 toBK u fun w =>
 bnd (A.un prog .not (.bool w)) fun y =>
 toBK y fun z =>
 (bif z then
 kr (.string ⟨⟨[]⟩⟩) (.int .i64 0) (.int .i64 5) v
 else
 kr j k l v)
 else
 kr j k l f)
theorem ep53a : E53 C L h K 1 [2,3,4] [] (r1 0 x0)=p53a C h x0 (R3 K 2 3 4) := by kernel_rfl
noncomputable def F53 (C : CF) (L : Nat) (x0 : V) (h : H) : O (V × H) :=
 p53a C h x0 (fun x2 x3 x4 h=>some (.tuple ⟨[x2,x3,x4]⟩,h))
theorem F53eq (Q : Orc) (n : Nat) (x0 : V) (h : H) (q : Q 53 [x0]=none) : callO prog 4 Q (n + 1) 53 [x0] h=F53 (callO prog 4 Q n) n x0 h :=
 (tp q Tryz.func53 (ep53a (callO prog 4 Q n) n h _ x0) (by kernel_rfl)).trans (by kernel_rfl)
noncomputable def c54a : Code := (Tryz.f54.body).getD .skip
noncomputable abbrev E54 (C : CF) (L : Nat) {β : Type} (h : H) (K : KK β) (n : Nat) (o : List Nat) (v : List (Nat × List Nat)) (r : T Value) : O β := execK prog C L 4 16 [2,3,4] (g c54a n) o v r h K
noncomputable def p54a (kr : K3 β) : O β :=
 bnd (A.lenStr x0) fun e =>
 bnd (A.bin prog .lss 3 e (.int .i64 2)) fun f =>
 toBK f fun i =>
 (bif i then
 kr (.int .i64 0) (.int .i64 0) (.int .i64 2) h
 else
 bnd (A.indexStr x0 (.int .i64 0)) fun n =>
 bnd (A.conv prog 5 3 n) fun o =>
 bnd (A.bin prog .shl 3 o (.int .u64 8)) fun p =>
 bnd (A.indexStr x0 (.int .i64 1)) fun r =>
 bnd (A.conv prog 5 3 r) fun s =>
 bnd (A.bin prog .or 3 p s) fun t =>
 kr t (.int .i64 2) (.int .i64 0) h)
theorem ep54a : E54 C L h K 1 [2,3,4] [] (r1 0 x0)=p54a h x0 (R3 K 2 3 4) := by kernel_rfl
noncomputable def F54 (C : CF) (L : Nat) (x0 : V) (h : H) : O (V × H) :=
 p54a h x0 (fun x2 x3 x4 h=>some (.tuple ⟨[x2,x3,x4]⟩,h))
theorem F54eq (Q : Orc) (n : Nat) (x0 : V) (h : H) (q : Q 54 [x0]=none) : callO prog 4 Q (n + 1) 54 [x0] h=F54 (callO prog 4 Q n) n x0 h :=
 (tp q Tryz.func54 (ep54a (callO prog 4 Q n) n h _ x0) (by kernel_rfl)).trans (by kernel_rfl)
noncomputable def c76a : Code := (Tryz.f76.body).getD .skip
noncomputable abbrev E76 (C : CF) (L : Nat) {β : Type} (h : H) (K : KK β) (n : Nat) (o : List Nat) (v : List (Nat × List Nat)) (r : T Value) : O β := execK prog C L 4 32 [2,3,4] (g c76a n) o v r h K
noncomputable def p76a (kr : K3 β) : O β :=
 bnd2 (C 54 [x0] h) fun e f =>
 bnd (A.extract 0 e) fun j =>
 bnd (A.extract 1 e) fun k =>
 bnd (A.extract 2 e) fun l =>
 bnd (A.bin prog .neq 40 l (.int .i64 0)) fun q =>
 toBK q fun r =>
 (bif r then
 kr (.string ⟨⟨[]⟩⟩) (.int .i64 0) (.int .i64 2) f
 else
 bnd (A.lenStr x0) fun a1 =>
 bnd (A.bin prog .sub 3 a1 k) fun c1 =>
 bnd (A.bin prog .gtr 3 j c1) fun d1 =>
 toBK d1 fun e1 =>
 (bif e1 then
 kr (.string ⟨⟨[]⟩⟩) (.int .i64 0) (.int .i64 2) f
 else
 bnd (A.bin prog .add 3 k j) fun p1 =>
 bnd (A.sliceStr x0 (some k) (some p1)) fun q1 =>
 bnd (A.bin prog .add 3 k j) fun t1 =>
 kr q1 t1 (.int .i64 0) f))
theorem ep76a : E76 C L h K 1 [2,3,4] [] (r1 0 x0)=p76a C h x0 (R3 K 2 3 4) := by kernel_rfl
noncomputable def F76 (C : CF) (L : Nat) (x0 : V) (h : H) : O (V × H) :=
 p76a C h x0 (fun x2 x3 x4 h=>some (.tuple ⟨[x2,x3,x4]⟩,h))
theorem F76eq (Q : Orc) (n : Nat) (x0 : V) (h : H) (q : Q 76 [x0]=none) : callO prog 4 Q (n + 1) 76 [x0] h=F76 (callO prog 4 Q n) n x0 h :=
 (tp q Tryz.func76 (ep76a (callO prog 4 Q n) n h _ x0) (by kernel_rfl)).trans (by kernel_rfl)
end Go.Proofs.YtfodhidpefednaaGreatDoor.AnC
