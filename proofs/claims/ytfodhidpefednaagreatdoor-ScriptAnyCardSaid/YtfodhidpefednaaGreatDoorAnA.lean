import Derived.Test.YtfodhidpefednaaGreatDoorProg
import Derived.Test.YtfodhidpefednaaGreatDoorRq
set_option linter.unusedVariables false
set_option linter.defProp false
set_option maxRecDepth 100000
namespace Go.Proofs.YtfodhidpefednaaGreatDoor.AnA
open Tryz (prog)
open Go Go.AM Go.AM.Pk
noncomputable def Z25L : List V := [(.int .i64 0),(.int .i64 0),(.int .i64 0),(.int .i64 0),(.int .i64 0)]
noncomputable def Z25 : V := .agg ⟨Z25L⟩
noncomputable def Z33L : List V := [(.int .u8 0),(.int .i64 0),(.int .i64 0),(.int .i64 0),(.int .i64 0),(.int .i64 0),(.string ⟨⟨[]⟩⟩)]
noncomputable def Z33 : V := .agg ⟨Z33L⟩
noncomputable def Z31L : List V := [(.int .i64 0),(.int .i64 0),(.int .i64 0)]
noncomputable def Z39L : List V := [(.int .u8 0),(.bool false),(.int .u8 0),(.bool false),(.int .u16 0),(.string ⟨⟨[]⟩⟩),(.string ⟨⟨[]⟩⟩),(.int .u8 0),(.bool false),(.int .u16 0),(.string ⟨⟨[]⟩⟩),(.bool false),(.string ⟨⟨[]⟩⟩),(.string ⟨⟨[]⟩⟩),(.int .u8 0),(.bool false),(.bool false),(.bool false),(.string ⟨⟨[]⟩⟩),(.string ⟨⟨[]⟩⟩),(.bool false),(.int .u8 0),(.slice none 0 0),(.string ⟨⟨[]⟩⟩)]
noncomputable def Z39 : V := .agg ⟨Z39L⟩
noncomputable def Z55L : List V := [(.slice none 0 0)]
noncomputable def Z5L : List V := [(.int .u8 0)]
noncomputable def Z9L : List V := [(.string ⟨⟨[]⟩⟩)]
noncomputable def Z36L : List V := [(.string ⟨⟨[]⟩⟩),(.string ⟨⟨[]⟩⟩),(.int .u8 0),(.bool false)]
noncomputable def Z120L : List V := [(.string ⟨⟨[]⟩⟩),(.int .u8 0)]
noncomputable def Z120 : V := .agg ⟨Z120L⟩
noncomputable def Z3L : List V := [(.int .i64 0)]
variable (C : CF) (L : Nat) {β : Type} (h : H) (K : KK β) (x0 x1 x2 x3 x4 x5 x6 x7 x8 x9 x10 x11 x12 x13 x14 x15 x16 x18 x21 x22 x28 x29 x30 x31 x32 x34 x36 x38 x39 x40 x42 x47 x52 x58 x70 x114 x143 x165 : V)
noncomputable def c3a : Code := (Tryz.f3.body).getD .skip
noncomputable abbrev E3 (C : CF) (L : Nat) {β : Type} (h : H) (K : KK β) (n : Nat) (o : List Nat) (v : List (Nat × List Nat)) (r : T Value) : O β := execK prog C L 4 176 [2] (g c3a n) o v r h K
noncomputable def pagI (kn : K1 β) : O β :=
 kn x0 h
theorem epagI : E3 C L h K 2 [0] [] (r1 0 x0)=pagI h x0 (N1 K 0) := by kernel_rfl
noncomputable def pagJ (kr kn : K1 β) : O β :=
 bnd (A.lenS x0) fun b =>
 bnd (A.bin prog .gtr 3 b (.int .i64 1500)) fun c =>
 toBK c fun d =>
 (bif d then
 bnd2 (C 4 [] h) fun e f =>
 toBK e fun i =>
 kr (.bool i) f
 else
 kn x0 h)
theorem epagJ : E3 C L h K 6 [0] [] (r1 0 x0)=pagJ C h x0 (R1 K 2) (N1 K 0) := by kernel_rfl
noncomputable def paaS (kn : K3 β) : O β :=
 bnd2 (C 5 [x0] h) fun b c =>
 bnd (A.extract 0 b) fun e =>
 bnd (A.extract 1 b) fun f =>
 bnd2 (A.box 5 Z25 c) fun i j =>
 bnd (A.store 5 i e j) fun l =>
 kn i x0 f l
theorem epaaS : E3 C L h K 14 [3,0,4] [] (r1 0 x0)=paaS C h x0 (N3 K 3 0 4) := by kernel_rfl
noncomputable def patN (kn : K2 β) : O β :=
 bnd (A.load true 5 x3 h) fun a =>
 bnd2 (C 6 [a] h) fun b c =>
 toBK b fun d =>
 bnd (A.un prog .not (.bool d)) fun e =>
 toBK e fun f =>
 (bif f then
 kn (.bool true) x4 c
 else
 bnd (A.fieldAddr 0 x3) fun w =>
 bnd (A.load false 1 w c) fun y =>
 bnd (A.bin prog .gtr 3 y (.int .i64 4)) fun z =>
 toBK z fun a1 =>
 (bif a1 then
 kn (.bool true) x4 c
 else
 bnd (A.fieldAddr 1 x3) fun q1 =>
 bnd (A.load false 1 q1 c) fun r1 =>
 bnd (A.bin prog .gtr 3 r1 (.int .i64 2)) fun s1 =>
 toBK s1 fun t1 =>
 (bif t1 then
 kn (.bool true) x4 c
 else
 bnd (A.fieldAddr 2 x3) fun i2 =>
 bnd (A.load false 1 i2 c) fun j2 =>
 bnd (A.bin prog .gtr 3 j2 (.int .i64 271)) fun k2 =>
 toBK k2 fun l2 =>
 (bif l2 then
 kn (.bool true) x4 c
 else
 bnd (A.fieldAddr 3 x3) fun v2 =>
 bnd (A.load false 1 v2 c) fun w2 =>
 bnd (A.bin prog .gtr 3 w2 (.int .i64 5)) fun y2 =>
 toBK y2 fun z2 =>
 (bif z2 then
 kn (.bool true) x4 c
 else
 bnd (A.fieldAddr 4 x3) fun j3 =>
 bnd (A.load false 1 j3 c) fun k3 =>
 bnd (A.bin prog .gtr 3 k3 (.int .i64 3)) fun l3 =>
 toBK l3 fun m3 =>
 (bif m3 then
 kn (.bool true) x4 c
 else
 bnd (A.lenS x4) fun t3 =>
 bnd (A.bin prog .gtr 3 t3 (.int .i64 1000)) fun u3 =>
 toBK u3 fun v3 =>
 (bif v3 then
 kn (.bool true) x4 c
 else
 bnd (A.lenS x4) fun b4 =>
 bnd (A.lenS x0) fun d4 =>
 bnd (A.bin prog .gtr 3 b4 d4) fun e4 =>
 toBK e4 fun f4 =>
 kn (.bool f4) x4 c)))))))
theorem epatN : E3 C L h K 60 [58,4] [] (r3 3 0 4 x3 x0 x4)=patN C h x0 x3 x4 (N2 K 58 4) := by kernel_rfl
noncomputable def patO (kr kn : K1 β) : O β :=
 condV x58 (
 kr (.bool false) h) (
 kn x4 h)
theorem epatO : E3 C L h K 61 [4] [] (r2 58 4 x58 x4)=patO h x4 x58 (R1 K 2) (N1 K 4) := by kernel_rfl
noncomputable def pahA (kr kn : K1 β) : O β :=
 patN C h x0 x3 x4 (fun x58 x4 h=>patO h x4 x58 kr kn)
def epahA:=(sq K (epatN C L h _ x0 x3 x4) (congrArg _ (w2 fun x58 x4 h=>sn (epatO ..))) (by kernel_rfl) : _=pahA C h x0 x3 x4 (R1 K 2) (N1 K 4))
noncomputable def patP (kn : K2 β) : O β :=
 kn (.int .i64 0) x4 h
theorem epatP : E3 C L h K 124 [5,4] [] (r1 4 x4)=patP h x4 (N2 K 5 4) := by kernel_rfl
noncomputable def paqB (kx0 : K0 β) (kn : K2 β) : O β :=
 bnd (A.lenS x4) fun c =>
 bnd (A.bin prog .lss 3 x5 c) fun d =>
 toBK d fun e =>
 (bif e then
 kn x5 x4 h
 else
 kx0 h)
theorem epaqB : E3 C L h K 1000 [5,4] [(0,[])] (r2 5 4 x5 x4)=paqB h x4 x5 (X0 K 0) (N2 K 5 4) := by kernel_rfl
noncomputable def patQ (kn : K3 β) : O β :=
 bnd (A.idxS 7 x4 x5) fun c =>
 bnd (A.load true 7 c h) fun d =>
 bnd2 (A.box 7 Z33 h) fun e f =>
 bnd (A.store 7 e d f) fun j =>
 kn e x5 x4 j
theorem epatQ : E3 C L h K 8008 [6,5,4] [(1,[5,4]),(0,[])] (r2 5 4 x5 x4)=patQ h x4 x5 (N3 K 6 5 4) := by kernel_rfl
noncomputable def patR (kn : K4 β) : O β :=
 bnd (A.fieldAddr 0 x6) fun a =>
 bnd (A.load false 1 a h) fun b =>
 bnd (A.bin prog .lss 5 b (.int .u8 1)) fun c =>
 toBK c fun d =>
 (bif d then
 kn (.bool true) x6 x5 x4 h
 else
 bnd (A.fieldAddr 0 x6) fun w =>
 bnd (A.load false 1 w h) fun y =>
 bnd (A.bin prog .gtr 5 y (.int .u8 7)) fun z =>
 toBK z fun a1 =>
 (bif a1 then
 kn (.bool true) x6 x5 x4 h
 else
 bnd (A.fieldAddr 1 x6) fun s1 =>
 bnd (A.load false 1 s1 h) fun t1 =>
 bnd (A.bin prog .lss 3 t1 (.int .i64 0)) fun u1 =>
 toBK u1 fun v1 =>
 (bif v1 then
 kn (.bool true) x6 x5 x4 h
 else
 bnd (A.fieldAddr 1 x6) fun m2 =>
 bnd (A.load false 1 m2 h) fun n2 =>
 bnd (A.bin prog .gtr 3 n2 (.int .i64 5)) fun o2 =>
 toBK o2 fun p2 =>
 (bif p2 then
 kn (.bool true) x6 x5 x4 h
 else
 bnd (A.fieldAddr 2 x6) fun c3 =>
 bnd (A.load false 1 c3 h) fun d3 =>
 bnd (A.bin prog .lss 3 d3 (.int .i64 0)) fun e3 =>
 toBK e3 fun f3 =>
 (bif f3 then
 kn (.bool true) x6 x5 x4 h
 else
 bnd (A.fieldAddr 2 x6) fun r3 =>
 bnd (A.load false 1 r3 h) fun s3 =>
 bnd (A.bin prog .gtr 3 s3 (.int .i64 3)) fun t3 =>
 toBK t3 fun u3 =>
 (bif u3 then
 kn (.bool true) x6 x5 x4 h
 else
 bnd (A.fieldAddr 3 x6) fun d4 =>
 bnd (A.fieldAddr 0 d4) fun e4 =>
 bnd (A.load false 1 e4 h) fun f4 =>
 bnd (A.bin prog .gtr 3 f4 (.int .i64 4)) fun i4 =>
 toBK i4 fun j4 =>
 (bif j4 then
 kn (.bool true) x6 x5 x4 h
 else
 bnd (A.fieldAddr 3 x6) fun p4 =>
 bnd (A.fieldAddr 1 p4) fun q4 =>
 bnd (A.load false 1 q4 h) fun r4 =>
 bnd (A.bin prog .gtr 3 r4 (.int .i64 7)) fun s4 =>
 toBK s4 fun t4 =>
 (bif t4 then
 kn (.bool true) x6 x5 x4 h
 else
 bnd (A.fieldAddr 3 x6) fun y4 =>
 bnd (A.fieldAddr 2 y4) fun z4 =>
 bnd (A.load false 1 z4 h) fun a5 =>
 bnd (A.bin prog .gtr 3 a5 (.int .i64 6)) fun b5 =>
 toBK b5 fun c5 =>
 kn (.bool c5) x6 x5 x4 h))))))))
theorem epatR : E3 C L h K 32036 [114,6,5,4] [(1,[5,4]),(0,[])] (r3 6 5 4 x6 x5 x4)=patR h x4 x5 x6 (N4 K 114 6 5 4) := by kernel_rfl
noncomputable def patS (kr : K1 β) (kn : K3 β) : O β :=
 condV x114 (
 kr (.bool false) h) (
 kn x6 x5 x4 h)
theorem epatS : E3 C L h K 32037 [6,5,4] [(1,[5,4]),(0,[])] (r4 114 6 5 4 x114 x6 x5 x4)=patS h x4 x5 x6 x114 (R1 K 2) (N3 K 6 5 4) := by kernel_rfl
noncomputable def pahK (C : CF) (L : Nat) {β : Type} (x6 x5 x4 : V) (h : H) (kr : K1 β) (kn : K3 β) : O β :=
 patR h x4 x5 x6 (fun x114 x6 x5 x4 h=>patS h x4 x5 x6 x114 kr kn)
def epahK:=(sq K (epatR C L h _ x4 x5 x6) (congrArg _ (w4 fun x114 x6 x5 x4 h=>sn (epatS ..))) (by kernel_rfl) : _=pahK C L x6 x5 x4 h (R1 K 2) (N3 K 6 5 4))
noncomputable def palU (kn : K4 β) : O β :=
 bnd (A.fieldAddr 0 x6) fun a =>
 bnd (A.load false 1 a h) fun b =>
 bnd (A.bin prog .neq 5 b (.int .u8 2)) fun c =>
 toBK c fun d =>
 (bif d then
 bnd (A.fieldAddr 6 x6) fun f =>
 bnd (A.load false 1 f h) fun i =>
 bnd (A.bin prog .neq 9 i (.string ⟨⟨[]⟩⟩)) fun j =>
 toBK j fun k =>
 (bif k then
 kn (.bool true) x6 x5 x4 h
 else
 bnd (A.fieldAddr 0 x6) fun q =>
 bnd (A.load false 1 q h) fun r =>
 bnd (A.bin prog .neq 5 r (.int .u8 6)) fun s =>
 toBK s fun t =>
 (bif t then
 bnd (A.fieldAddr 3 x6) fun v =>
 bnd (A.load true 3 v h) fun w =>
 bnd (A.build Z31L []) fun y =>
 bnd (A.bin prog .neq 31 w y) fun z =>
 toBK z fun a1 =>
 (bif a1 then
 kn (.bool true) x6 x5 x4 h
 else
 bnd (A.fieldAddr 0 x6) fun f1 =>
 bnd (A.load false 1 f1 h) fun i1 =>
 bnd (A.bin prog .neq 5 i1 (.int .u8 4)) fun j1 =>
 toBK j1 fun k1 =>
 (bif k1 then
 bnd (A.fieldAddr 2 x6) fun m1 =>
 bnd (A.load false 1 m1 h) fun n1 =>
 bnd (A.bin prog .neq 3 n1 (.int .i64 0)) fun o1 =>
 toBK o1 fun p1 =>
 kn (.bool p1) x6 x5 x4 h
 else
 kn (.bool false) x6 x5 x4 h))
 else
 bnd (A.fieldAddr 0 x6) fun y1 =>
 bnd (A.load false 1 y1 h) fun z1 =>
 bnd (A.bin prog .neq 5 z1 (.int .u8 4)) fun a2 =>
 toBK a2 fun b2 =>
 (bif b2 then
 bnd (A.fieldAddr 2 x6) fun d2 =>
 bnd (A.load false 1 d2 h) fun e2 =>
 bnd (A.bin prog .neq 3 e2 (.int .i64 0)) fun f2 =>
 toBK f2 fun i2 =>
 kn (.bool i2) x6 x5 x4 h
 else
 kn (.bool false) x6 x5 x4 h)))
 else
 bnd (A.fieldAddr 0 x6) fun p2 =>
 bnd (A.load false 1 p2 h) fun q2 =>
 bnd (A.bin prog .neq 5 q2 (.int .u8 6)) fun r2 =>
 toBK r2 fun s2 =>
 (bif s2 then
 bnd (A.fieldAddr 3 x6) fun u2 =>
 bnd (A.load true 3 u2 h) fun v2 =>
 bnd (A.build Z31L []) fun w2 =>
 bnd (A.bin prog .neq 31 v2 w2) fun y2 =>
 toBK y2 fun z2 =>
 (bif z2 then
 kn (.bool true) x6 x5 x4 h
 else
 bnd (A.fieldAddr 0 x6) fun e3 =>
 bnd (A.load false 1 e3 h) fun f3 =>
 bnd (A.bin prog .neq 5 f3 (.int .u8 4)) fun i3 =>
 toBK i3 fun j3 =>
 (bif j3 then
 bnd (A.fieldAddr 2 x6) fun l3 =>
 bnd (A.load false 1 l3 h) fun m3 =>
 bnd (A.bin prog .neq 3 m3 (.int .i64 0)) fun n3 =>
 toBK n3 fun o3 =>
 kn (.bool o3) x6 x5 x4 h
 else
 kn (.bool false) x6 x5 x4 h))
 else
 bnd (A.fieldAddr 0 x6) fun w3 =>
 bnd (A.load false 1 w3 h) fun y3 =>
 bnd (A.bin prog .neq 5 y3 (.int .u8 4)) fun z3 =>
 toBK z3 fun a4 =>
 (bif a4 then
 bnd (A.fieldAddr 2 x6) fun c4 =>
 bnd (A.load false 1 c4 h) fun d4 =>
 bnd (A.bin prog .neq 3 d4 (.int .i64 0)) fun e4 =>
 toBK e4 fun f4 =>
 kn (.bool f4) x6 x5 x4 h
 else
 kn (.bool false) x6 x5 x4 h)))
theorem epalU : E3 C L h K 64076 [143,6,5,4] [(1,[5,4]),(0,[])] (r3 6 5 4 x6 x5 x4)=palU h x4 x5 x6 (N4 K 143 6 5 4) := by kernel_rfl
noncomputable def palV (kr : K1 β) (kn : K3 β) : O β :=
 condV x143 (
 kr (.bool false) h) (
 kn x6 x5 x4 h)
theorem epalV : E3 C L h K 64077 [6,5,4] [(1,[5,4]),(0,[])] (r4 143 6 5 4 x143 x6 x5 x4)=palV h x4 x5 x6 x143 (R1 K 2) (N3 K 6 5 4) := by kernel_rfl
noncomputable def pafY (C : CF) (L : Nat) {β : Type} (x6 x5 x4 : V) (h : H) (kr : K1 β) (kn : K3 β) : O β :=
 palU h x4 x5 x6 (fun x143 x6 x5 x4 h=>palV h x4 x5 x6 x143 kr kn)
def epafY:=(sq K (epalU C L h _ x4 x5 x6) (congrArg _ (w4 fun x143 x6 x5 x4 h=>sn (epalV ..))) (by kernel_rfl) : _=pafY C L x6 x5 x4 h (R1 K 2) (N3 K 6 5 4))
noncomputable def patT (kn : K5 β) : O β :=
 bnd (A.fieldAddr 6 x6) fun a =>
 bnd (A.load false 1 a h) fun b =>
 bnd2 (C 7 [b] h) fun c d =>
 bnd (A.extract 0 c) fun f =>
 bnd (A.extract 1 c) fun i =>
 bnd (A.extract 2 c) fun j =>
 bnd2 (A.box 24 Z39 d) fun k l =>
 bnd (A.store 24 k f l) fun n =>
 kn j i x6 x5 x4 n
theorem epatT : E3 C L h K 64078 [9,8,6,5,4] [(1,[5,4]),(0,[])] (r3 6 5 4 x6 x5 x4)=patT C h x4 x5 x6 (N5 K 9 8 6 5 4) := by kernel_rfl
noncomputable def paqC (kn : K4 β) : O β :=
 bnd (A.fieldAddr 6 x6) fun a =>
 bnd (A.load false 1 a h) fun b =>
 bnd (A.lenStr b) fun c =>
 bnd (A.bin prog .gtr 3 c (.int .i64 15)) fun d =>
 toBK d fun e =>
 (bif e then
 bnd (A.bin prog .neq 40 x9 (.int .i64 0)) fun j =>
 toBK j fun k =>
 (bif k then
 kn (.bool true) x6 x5 x4 h
 else
 bnd (A.fieldAddr 6 x6) fun p =>
 bnd (A.load false 1 p h) fun q =>
 bnd (A.lenStr q) fun r =>
 bnd (A.bin prog .neq 3 x8 r) fun s =>
 toBK s fun t =>
 kn (.bool t) x6 x5 x4 h)
 else
 kn (.bool false) x6 x5 x4 h)
theorem epaqC : E3 C L h K 256316 [165,6,5,4] [(1,[5,4]),(0,[])] (r5 9 8 6 5 4 x9 x8 x6 x5 x4)=paqC h x4 x5 x6 x8 x9 (N4 K 165 6 5 4) := by kernel_rfl
noncomputable def paqD (kr : K1 β) (kn : K3 β) : O β :=
 condV x165 (
 kr (.bool false) h) (
 kn x6 x5 x4 h)
theorem epaqD : E3 C L h K 256317 [6,5,4] [(1,[5,4]),(0,[])] (r4 165 6 5 4 x165 x6 x5 x4)=paqD h x4 x5 x6 x165 (R1 K 2) (N3 K 6 5 4) := by kernel_rfl
noncomputable def pahE (C : CF) (L : Nat) {β : Type} (x9 x8 x6 x5 x4 : V) (h : H) (kr : K1 β) (kn : K3 β) : O β :=
 paqC h x4 x5 x6 x8 x9 (fun x165 x6 x5 x4 h=>paqD h x4 x5 x6 x165 kr kn)
def epahE:=(sq K (epaqC C L h _ x4 x5 x6 x8 x9) (congrArg _ (w4 fun x165 x6 x5 x4 h=>sn (epaqD ..))) (by kernel_rfl) : _=pahE C L x9 x8 x6 x5 x4 h (R1 K 2) (N3 K 6 5 4))
noncomputable def panI (C : CF) (L : Nat) {β : Type} (x6 x5 x4 : V) (h : H) (kr : K1 β) (kn : K2 β) : O β :=
 bnd (A.lenS x4) fun b =>
 bnd (A.bin prog .leq 3 b (.int .i64 100)) fun c =>
 toBK c fun d =>
 (bif d then
 bnd (A.load true 7 x6 h) fun f =>
 bnd2 (C 8 [(.pointer none),f] h) fun i j =>
 bnd (A.part false 1 3 i) fun k =>
 bnd (A.bin prog .eql 40 k (.int .i64 1)) fun l =>
 toBK l fun m =>
 (bif m then
 kr (.bool false) j
 else
 kn x5 x4 j)
 else
 kn x5 x4 h)
theorem epanI : E3 C L h K 128159 [5,4] [(1,[5,4]),(0,[])] (r3 6 5 4 x6 x5 x4)=panI C L x6 x5 x4 h (R1 K 2) (N2 K 5 4) := by kernel_rfl
noncomputable def paeX (C : CF) (L : Nat) {β : Type} (x6 x5 x4 : V) (h : H) (kr : K1 β) (kn : K2 β) : O β :=
 patT C h x4 x5 x6 (fun x9 x8 x6 x5 x4 h=>pahE C L x9 x8 x6 x5 x4 h kr (fun x6 x5 x4 h=>panI C L x6 x5 x4 h kr kn))
def epaeX:=(sq K (epatT C L h _ x4 x5 x6) (congrArg _ (w5 fun x9 x8 x6 x5 x4 h=>sn (sq K (epahE C L h _ x4 x5 x6 x8 x9) (congrArg _ (w3 fun x6 x5 x4 h=>sn (epanI ..))) (by kernel_rfl)))) (by kernel_rfl) : _=paeX C L x6 x5 x4 h (R1 K 2) (N2 K 5 4))
noncomputable def padF (C : CF) (L : Nat) {β : Type} (x6 x5 x4 : V) (h : H) (kr : K1 β) (kn : K2 β) : O β :=
 pafY C L x6 x5 x4 h kr (fun x6 x5 x4 h=>paeX C L x6 x5 x4 h kr kn)
def epadF:=(sq K (epafY C L h _ x4 x5 x6) (congrArg _ (w3 fun x6 x5 x4 h=>sn (epaeX ..))) (by kernel_rfl) : _=padF C L x6 x5 x4 h (R1 K 2) (N2 K 5 4))
noncomputable def pacC (kr : K1 β) (kn : K2 β) : O β :=
 patQ h x4 x5 (fun x6 x5 x4 h=>pahK C L x6 x5 x4 h kr (fun x6 x5 x4 h=>padF C L x6 x5 x4 h kr kn))
def epacC:=(sq K (epatQ C L h _ x4 x5) (congrArg _ (w3 fun x6 x5 x4 h=>sn (sq K (epahK C L h _ x4 x5 x6) (congrArg _ (w3 fun x6 x5 x4 h=>sn (epadF ..))) (by kernel_rfl)))) (by kernel_rfl) : _=pacC C L h x4 x5 (R1 K 2) (N2 K 5 4))
noncomputable def pakE (C : CF) (L : Nat) {β : Type} (x5 x4 : V) (h : H) (kn : K2 β) : O β :=
 bnd (A.bin prog .add 3 x5 (.int .i64 1)) fun b =>
 kn b x4 h
theorem epakE : E3 C L h K 2003 [5,4] [(0,[])] (r2 5 4 x5 x4)=pakE C L x5 x4 h (N2 K 5 4) := by kernel_rfl
noncomputable def pabR (kr : K1 β) (kx0 : K0 β) (kn : K2 β) : O β :=
 paqB h x4 x5 kx0 (fun x5 x4 h=>pacC C L h x4 x5 kr (fun x5 x4 h=>pakE C L x5 x4 h kn))
def epabR:=(sq K (epaqB C L h _ x4 x5) (congrArg _ (w2 fun x5 x4 h=>sn (sq K (bk (epacC C L h _ x4 x5)) (congrArg _ (w2 fun x5 x4 h=>sn (epakE ..))) (by kernel_rfl)))) (by kernel_rfl) : _=pabR C L h x4 x5 (R1 K 2) (X0 K 0) (N2 K 5 4))
noncomputable def pahR (C : CF) (L : Nat) {β : Type} (kr : K1 β) (kx0 : K0 β) : Nat → K2 β
 | 0,_,_,_ => none
 | n + 1,x5,x4,h => pabR C L h x4 x5 kr kx0 (fun x5 x4 h=>pahR C L kr kx0 n x5 x4 h)
theorem epahR (C : CF) (L : Nat) {β : Type} (K : KK β) : ∀ (n : Nat) (x5 x4 : V) (h : H),loopK (fun fr h K=>execK prog C L 4 176 [2] (g c3a 500) [5,4] [(0,[])] fr h K) n (r2 5 4 x5 x4) h K=pahR C L (R1 K 2) (X0 K 0) n x5 x4 h
 | 0,_,_,_ => rfl
 | n + 1,x5,x4,h => (cg (epabR C L h _ x4 x5) (by kernel_rfl)).trans (congrArg _ (w2 fun x5 x4 h=>sl (epahR C L K n x5 x4 h)))
noncomputable def pabG (kr : K1 β) (kx0 : K0 β) : O β :=
 pahR C L kr kx0 L x5 x4 h
def epabG:=(lp [] (r2 5 4 x5 x4) (epahR C L K L x5 x4 h) (by kernel_rfl) : _=pabG C L h x4 x5 (R1 K 2) (X0 K 0))
noncomputable def pabD (kr : K1 β) (kn : K0 β) : O β :=
 patP h x4 (fun x5 x4 h=>pabG C L h x4 x5 kr kn)
def epabD:=(sq K (epatP C L h _ x4) (congrArg _ (w2 fun x5 x4 h=>sn (bk (epabG ..)))) (by kernel_rfl) : _=pabD C L h x4 (R1 K 2) (N0 K))
noncomputable def padZ (C : CF) (L : Nat) {β : Type} (h : H) (kr : K1 β) : O β :=
 bnd2 (C 4 [] h) fun a b =>
 toBK a fun c =>
 kr (.bool c) b
theorem epadZ : E3 C L h K 63 [2] [] r0=padZ C L h (R1 K 2) := by kernel_rfl
noncomputable def p3a (kr : K1 β) : O β :=
 pagI h x0 (fun x0 h=>pagJ C h x0 kr (fun x0 h=>paaS C h x0 (fun x3 x0 x4 h=>pahA C h x0 x3 x4 kr (fun x4 h=>pabD C L h x4 kr (fun h=>padZ C L h kr)))))
def ep3a:=(sq K (epagI C L h _ x0) (congrArg _ (w1 fun x0 h=>sn (sq K (epagJ C L h _ x0) (congrArg _ (w1 fun x0 h=>sn (sq K (epaaS C L h _ x0) (congrArg _ (w3 fun x3 x0 x4 h=>sn (sq K (epahA C L h _ x0 x3 x4) (congrArg _ (w1 fun x4 h=>sn (sq K (epabD C L h _ x4) (congrArg _ (w0 fun h=>sn (epadZ ..))) (by kernel_rfl)))) (by kernel_rfl)))) (by kernel_rfl)))) (by kernel_rfl)))) (by kernel_rfl) : _=p3a C L h x0 (R1 K 2))
noncomputable def F3 (C : CF) (L : Nat) (x0 : V) (h : H) : O (V × H) :=
 p3a C L h x0 (fun x2 h=>some (x2,h))
theorem F3eq (Q : Orc) (n : Nat) (x0 : V) (h : H) (q : Q 3 [x0]=none) : callO prog 4 Q (n + 1) 3 [x0] h=F3 (callO prog 4 Q n) n x0 h :=
 (tp q Tryz.func3 (ep3a (callO prog 4 Q n) n h _ x0) (by kernel_rfl)).trans (by kernel_rfl)
noncomputable def c5a : Code := (Tryz.f5.body).getD .skip
noncomputable abbrev E5 (C : CF) (L : Nat) {β : Type} (h : H) (K : KK β) (n : Nat) (o : List Nat) (v : List (Nat × List Nat)) (r : T Value) : O β := execK prog C L 4 52 [2,3] (g c5a n) o v r h K
noncomputable def pafM (kn : K2 β) : O β :=
 bnd2 (A.box 5 Z25 h) fun a b =>
 kn x0 a b
theorem epafM : E5 C L h K 2 [0,2] [] (r1 0 x0)=pafM h x0 (N2 K 0 2) := by kernel_rfl
noncomputable def pafZ (kn : K2 β) : O β :=
 bnd (A.build Z55L [(0,1,x0)]) fun b =>
 bnd2 (A.box 1 b h) fun c d =>
 kn c x2 d
theorem epafZ : E5 C L h K 6 [4,2] [] (r2 0 2 x0 x2)=pafZ h x0 x2 (N2 K 4 2) := by kernel_rfl
noncomputable def paeH (kn : K3 β) : O β :=
 bnd2 (C 12 [x4] h) fun b c =>
 bnd (A.bin prog .rem 3 b (.int .i64 4)) fun d =>
 bnd (A.bin prog .add 3 (.int .i64 1) d) fun e =>
 bnd (A.build Z25L [(0,1,e)]) fun f =>
 bnd2 (A.box 5 Z25 c) fun i j =>
 bnd (A.store 5 i f j) fun l =>
 kn x4 i x2 l
theorem epaeH : E5 C L h K 14 [4,5,2] [] (r2 4 2 x4 x2)=paeH C h x2 x4 (N3 K 4 5 2) := by kernel_rfl
noncomputable def pacM (kn : K3 β) : O β :=
 bnd2 (C 12 [x4] h) fun b c =>
 bnd (A.bin prog .rem 3 b (.int .i64 2)) fun d =>
 bnd (A.bin prog .add 3 (.int .i64 1) d) fun e =>
 bnd (A.fieldAddr 1 x5) fun f =>
 bnd (A.store 1 f e c) fun j =>
 kn x4 x5 x2 j
theorem epacM : E5 C L h K 30 [4,5,2] [] (r3 4 5 2 x4 x5 x2)=pacM C h x2 x4 x5 (N3 K 4 5 2) := by kernel_rfl
noncomputable def pabU (kn : K3 β) : O β :=
 bnd2 (C 12 [x4] h) fun b c =>
 bnd (A.bin prog .add 3 (.int .i64 16) b) fun d =>
 bnd (A.fieldAddr 2 x5) fun e =>
 bnd (A.store 1 e d c) fun i =>
 kn x4 x5 x2 i
theorem epabU : E5 C L h K 62 [4,5,2] [] (r3 4 5 2 x4 x5 x2)=pabU C h x2 x4 x5 (N3 K 4 5 2) := by kernel_rfl
noncomputable def pahS (kn : K3 β) : O β :=
 bnd2 (C 12 [x4] h) fun b c =>
 bnd (A.bin prog .rem 3 b (.int .i64 5)) fun d =>
 bnd (A.bin prog .add 3 (.int .i64 1) d) fun e =>
 bnd (A.fieldAddr 3 x5) fun f =>
 bnd (A.store 1 f e c) fun j =>
 kn x4 x5 x2 j
theorem epahS : E5 C L h K 126 [4,5,2] [] (r3 4 5 2 x4 x5 x2)=pahS C h x2 x4 x5 (N3 K 4 5 2) := by kernel_rfl
noncomputable def pauA (kn : K3 β) : O β :=
 bnd2 (C 12 [x4] h) fun b c =>
 bnd (A.bin prog .rem 3 b (.int .i64 3)) fun d =>
 bnd (A.bin prog .add 3 (.int .i64 1) d) fun e =>
 bnd (A.fieldAddr 4 x5) fun f =>
 bnd (A.store 1 f e c) fun j =>
 kn x4 x5 x2 j
theorem epauA : E5 C L h K 254 [4,5,2] [] (r3 4 5 2 x4 x5 x2)=pauA C h x2 x4 x5 (N3 K 4 5 2) := by kernel_rfl
noncomputable def pauB (kn : K4 β) : O β :=
 kn x4 x5 (.slice none 0 0) x2 h
theorem epauB : E5 C L h K 510 [4,5,6,2] [] (r3 4 5 2 x4 x5 x2)=pauB h x2 x4 x5 (N4 K 4 5 6 2) := by kernel_rfl
noncomputable def pamF (kx0 : K3 β) (kn : K4 β) : O β :=
 bnd (A.nilCheck x4) fun b =>
 bnd (A.fieldAddr 0 b) fun c =>
 bnd (A.load false 1 c h) fun d =>
 bnd (A.lenS d) fun e =>
 bnd (A.bin prog .gtr 3 e (.int .i64 0)) fun f =>
 toBK f fun i =>
 (bif i then
 bnd (A.lenS x6) fun l =>
 bnd (A.bin prog .lss 3 l (.int .i64 1000)) fun m =>
 toBK m fun n =>
 (bif n then
 bnd2 (C 13 [x4] h) fun r s =>
 bnd2 (A.buildSlice 7 1 Z33L [(0,7,r)] s) fun t u =>
 bnd2 (A.append 7 64 x6 t u) fun v w =>
 kn x4 x5 v x2 w
 else
 kx0 x5 x6 x2 h)
 else
 kx0 x5 x6 x2 h)
theorem epamF : E5 C L h K 4088 [4,5,6,2] [(0,[5,6,2])] (r4 4 5 6 2 x4 x5 x6 x2)=pamF C h x2 x4 x5 x6 (X3 K 0 5 6 2) (N4 K 4 5 6 2) := by kernel_rfl
noncomputable def pajC (C : CF) (L : Nat) {β : Type} (kx0 : K3 β) : Nat → K4 β
 | 0,_,_,_,_,_ => none
 | n + 1,x4,x5,x6,x2,h => pamF C h x2 x4 x5 x6 kx0 (fun x4 x5 x6 x2 h=>pajC C L kx0 n x4 x5 x6 x2 h)
theorem epajC (C : CF) (L : Nat) {β : Type} (K : KK β) : ∀ (n : Nat) (x4 x5 x6 x2 : V) (h : H),loopK (fun fr h K=>execK prog C L 4 52 [2,3] (g c5a 4088) [4,5,6,2] [(0,[5,6,2])] fr h K) n (r4 4 5 6 2 x4 x5 x6 x2) h K=pajC C L (X3 K 0 5 6 2) n x4 x5 x6 x2 h
 | 0,_,_,_,_,_ => rfl
 | n + 1,x4,x5,x6,x2,h => (cg (epamF C L h _ x2 x4 x5 x6) (by kernel_rfl)).trans (congrArg _ (w4 fun x4 x5 x6 x2 h=>sl (epajC C L K n x4 x5 x6 x2 h)))
noncomputable def pagM (kx0 : K3 β) : O β :=
 pajC C L kx0 L x4 x5 x6 x2 h
def epagM:=(lp [5,6,2] (r4 4 5 6 2 x4 x5 x6 x2) (epajC C L K L x4 x5 x6 x2 h) (by kernel_rfl) : _=pagM C L h x2 x4 x5 x6 (X3 K 0 5 6 2))
noncomputable def paqN (C : CF) (L : Nat) {β : Type} (x5 x6 x2 : V) (h : H) (kr : K2 β) : O β :=
 bnd (A.load true 5 x5 h) fun a =>
 bnd (A.store 5 x2 a h) fun d =>
 kr x2 x6 d
theorem epaqN : E5 C L h K 1023 [2,3] [] (r3 5 6 2 x5 x6 x2)=paqN C L x5 x6 x2 h (R2 K 2 3) := by kernel_rfl
noncomputable def p5a (kr : K2 β) : O β :=
 pafM h x0 (fun x0 x2 h=>pafZ h x0 x2 (fun x4 x2 h=>paeH C h x2 x4 (fun x4 x5 x2 h=>pacM C h x2 x4 x5 (fun x4 x5 x2 h=>pabU C h x2 x4 x5 (fun x4 x5 x2 h=>pahS C h x2 x4 x5 (fun x4 x5 x2 h=>pauA C h x2 x4 x5 (fun x4 x5 x2 h=>pauB h x2 x4 x5 (fun x4 x5 x6 x2 h=>pagM C L h x2 x4 x5 x6 (fun x5 x6 x2 h=>paqN C L x5 x6 x2 h kr)))))))))
def ep5a:=(sq K (epafM C L h _ x0) (congrArg _ (w2 fun x0 x2 h=>sn (sq K (epafZ C L h _ x0 x2) (congrArg _ (w2 fun x4 x2 h=>sn (sq K (epaeH C L h _ x2 x4) (congrArg _ (w3 fun x4 x5 x2 h=>sn (sq K (epacM C L h _ x2 x4 x5) (congrArg _ (w3 fun x4 x5 x2 h=>sn (sq K (epabU C L h _ x2 x4 x5) (congrArg _ (w3 fun x4 x5 x2 h=>sn (sq K (epahS C L h _ x2 x4 x5) (congrArg _ (w3 fun x4 x5 x2 h=>sn (sq K (epauA C L h _ x2 x4 x5) (congrArg _ (w3 fun x4 x5 x2 h=>sn (sq K (epauB C L h _ x2 x4 x5) (congrArg _ (w4 fun x4 x5 x6 x2 h=>sn (sq K (bk (epagM C L h _ x2 x4 x5 x6)) (congrArg _ (w3 fun x5 x6 x2 h=>sn (epaqN ..))) (by kernel_rfl)))) (by kernel_rfl)))) (by kernel_rfl)))) (by kernel_rfl)))) (by kernel_rfl)))) (by kernel_rfl)))) (by kernel_rfl)))) (by kernel_rfl)))) (by kernel_rfl) : _=p5a C L h x0 (R2 K 2 3))
noncomputable def F5 (C : CF) (L : Nat) (x0 : V) (h : H) : O (V × H) :=
 p5a C L h x0 (fun x2 x3 h=>bnd (resC (A.load true 5 x2 h) (resC (some x3) (some []))) fun vs => some (packA vs,h))
theorem F5eq (Q : Orc) (n : Nat) (x0 : V) (h : H) (q : Q 5 [x0]=none) : callO prog 4 Q (n + 1) 5 [x0] h=F5 (callO prog 4 Q n) n x0 h :=
 (tp q Tryz.func5 (ep5a (callO prog 4 Q n) n h _ x0) (by kernel_rfl)).trans (by kernel_rfl)
noncomputable def c12a : Code := (Tryz.f12.body).getD .skip
noncomputable abbrev E12 (C : CF) (L : Nat) {β : Type} (h : H) (K : KK β) (n : Nat) (o : List Nat) (v : List (Nat × List Nat)) (r : T Value) : O β := execK prog C L 4 26 [2] (g c12a n) o v r h K
noncomputable def p12a (kr : K1 β) : O β :=
 bnd (A.nilCheck x0) fun c =>
 bnd (A.fieldAddr 0 c) fun d =>
 bnd (A.load false 1 d h) fun e =>
 bnd (A.lenS e) fun f =>
 bnd (A.bin prog .eql 3 f (.int .i64 0)) fun i =>
 toBK i fun j =>
 (bif j then
 kr (.int .i64 0) h
 else
 bnd (A.nilCheck x0) fun m =>
 bnd (A.fieldAddr 0 m) fun n =>
 bnd (A.load false 1 n h) fun o =>
 bnd (A.idxS 1 o (.int .i64 0)) fun p =>
 bnd (A.load false 1 p h) fun q =>
 bnd (A.nilCheck x0) fun u =>
 bnd (A.fieldAddr 0 u) fun v =>
 bnd (A.load false 1 v h) fun w =>
 bnd (A.sliceS 1 w (some (.int .i64 1)) none none h) fun y =>
 bnd (A.nilCheck x0) fun z =>
 bnd (A.fieldAddr 0 z) fun a1 =>
 bnd (A.store 1 a1 y h) fun c1 =>
 bnd (A.conv prog 5 3 q) fun e1 =>
 kr e1 c1)
theorem ep12a : E12 C L h K 1 [2] [] (r1 0 x0)=p12a h x0 (R1 K 2) := by kernel_rfl
noncomputable def F12 (C : CF) (L : Nat) (x0 : V) (h : H) : O (V × H) :=
 p12a h x0 (fun x2 h=>some (x2,h))
theorem F12eq (Q : Orc) (n : Nat) (x0 : V) (h : H) (q : Q 12 [x0]=none) : callO prog 4 Q (n + 1) 12 [x0] h=F12 (callO prog 4 Q n) n x0 h :=
 (tp q Tryz.func12 (ep12a (callO prog 4 Q n) n h _ x0) (by kernel_rfl)).trans (by kernel_rfl)
noncomputable def c13a : Code := (Tryz.f13.body).getD .skip
noncomputable abbrev E13 (C : CF) (L : Nat) {β : Type} (h : H) (K : KK β) (n : Nat) (o : List Nat) (v : List (Nat × List Nat)) (r : T Value) : O β := execK prog C L 4 61 [2] (g c13a n) o v r h K
noncomputable def paiE (kn : K2 β) : O β :=
 bnd2 (A.box 7 Z33 h) fun a b =>
 kn x0 a b
theorem epaiE : E13 C L h K 2 [0,2] [] (r1 0 x0)=paiE h x0 (N2 K 0 2) := by kernel_rfl
noncomputable def paiF (kn : K3 β) : O β :=
 bnd2 (C 12 [x0] h) fun b c =>
 bnd (A.bin prog .rem 3 b (.int .i64 16)) fun d =>
 kn x0 d x2 c
theorem epaiF : E13 C L h K 6 [0,3,2] [] (r2 0 2 x0 x2)=paiF C h x0 x2 (N3 K 0 3 2) := by kernel_rfl
noncomputable def paiG (kn : K4 β) : O β :=
 kn x3 x0 x3 x2 h
theorem epaiG : E13 C L h K 28 [9,0,3,2] [] (r3 0 3 2 x0 x3 x2)=paiG h x0 x2 x3 (N4 K 9 0 3 2) := by kernel_rfl
noncomputable def paiH (kn : K5 β) : O β :=
 bnd (A.bin prog .eql 3 x9 (.int .i64 0)) fun a =>
 toBK a fun b =>
 kn (.bool b) x9 x0 x3 x2 h
theorem epaiH : E13 C L h K 116 [10,9,0,3,2] [(0,[0,3,2])] (r4 9 0 3 2 x9 x0 x3 x2)=paiH h x0 x2 x3 x9 (N5 K 10 9 0 3 2) := by kernel_rfl
noncomputable def parN (kr : K1 β) : O β :=
 bnd (A.build Z33L [(0,1,(.int .u8 1))]) fun a =>
 bnd (A.store 7 x2 a h) fun c =>
 kr x2 c
theorem eparN : E13 C L h K 234 [0,3,2] [(0,[0,3,2])] (r5 10 9 0 3 2 x10 x9 x0 x3 x2)=parN h x2 (R1 K 2) := by kernel_rfl
noncomputable def paiN (kn : K5 β) : O β :=
 bnd (A.bin prog .eql 3 x9 (.int .i64 10)) fun a =>
 toBK a fun b =>
 kn (.bool b) x9 x0 x3 x2 h
theorem epaiN : E13 C L h K 470 [13,9,0,3,2] [(0,[0,3,2])] (r5 10 9 0 3 2 x10 x9 x0 x3 x2)=paiN h x0 x2 x3 x9 (N5 K 13 9 0 3 2) := by kernel_rfl
noncomputable def paoO (kr : K1 β) : O β :=
 bnd2 (C 12 [x0] h) fun b c =>
 bnd (A.bin prog .rem 3 b (.int .i64 2)) fun f =>
 bnd (A.bin prog .eql 3 f (.int .i64 1)) fun i =>
 toBK i fun j =>
 (bif j then
 bnd (A.bin prog .quo 3 b (.int .i64 2)) fun l =>
 bnd (A.bin prog .rem 3 l (.int .i64 4)) fun m =>
 bnd (A.build Z33L [(0,1,(.int .u8 4)),(2,1,m)]) fun n =>
 bnd (A.store 7 x2 n c) fun p =>
 kr x2 p
 else
 bnd2 (C 12 [x0] c) fun r s =>
 bnd (A.bin prog .rem 3 r (.int .i64 6)) fun t =>
 bnd (A.build Z33L [(0,1,(.int .u8 3)),(1,1,t)]) fun u =>
 bnd (A.store 7 x2 u s) fun w =>
 kr x2 w)
theorem epaoO : E13 C L h K 942 [0,3,2] [(0,[0,3,2])] (r5 13 9 0 3 2 x13 x9 x0 x3 x2)=paoO C h x0 x2 (R1 K 2) := by kernel_rfl
noncomputable def pajM (kn : K5 β) : O β :=
 bnd (A.bin prog .eql 3 x9 (.int .i64 11)) fun a =>
 toBK a fun b =>
 kn (.bool b) x9 x0 x3 x2 h
theorem epajM : E13 C L h K 1886 [28,9,0,3,2] [(0,[0,3,2])] (r5 13 9 0 3 2 x13 x9 x0 x3 x2)=pajM h x0 x2 x3 x9 (N5 K 28 9 0 3 2) := by kernel_rfl
noncomputable def parM (kr : K1 β) : O β :=
 bnd2 (C 12 [x0] h) fun b c =>
 bnd (A.bin prog .rem 3 b (.int .i64 6)) fun d =>
 bnd (A.build Z33L [(0,1,(.int .u8 5)),(1,1,d)]) fun e =>
 bnd (A.store 7 x2 e c) fun i =>
 kr x2 i
theorem eparM : E13 C L h K 3774 [0,3,2] [(0,[0,3,2])] (r5 28 9 0 3 2 x28 x9 x0 x3 x2)=parM C h x0 x2 (R1 K 2) := by kernel_rfl
noncomputable def pajY (kn : K5 β) : O β :=
 bnd (A.bin prog .eql 3 x9 (.int .i64 12)) fun a =>
 toBK a fun b =>
 (bif b then
 kn (.bool b) x9 x0 x3 x2 h
 else
 bnd (A.bin prog .eql 3 x9 (.int .i64 13)) fun d =>
 toBK d fun e =>
 kn (.bool e) x9 x0 x3 x2 h)
theorem epajY : E13 C L h K 7550 [34,9,0,3,2] [(0,[0,3,2])] (r5 28 9 0 3 2 x28 x9 x0 x3 x2)=pajY h x0 x2 x3 x9 (N5 K 34 9 0 3 2) := by kernel_rfl
noncomputable def paoN (kr : K1 β) : O β :=
 bnd (A.build Z33L [(0,1,(.int .u8 6))]) fun a =>
 bnd2 (A.box 7 Z33 h) fun b c =>
 bnd (A.store 7 b a c) fun e =>
 bnd2 (C 12 [x0] e) fun i j =>
 bnd (A.bin prog .rem 3 i (.int .i64 5)) fun k =>
 bnd (A.fieldAddr 3 b) fun l =>
 bnd (A.fieldAddr 0 l) fun m =>
 bnd (A.store 1 m k j) fun o =>
 bnd2 (C 12 [x0] o) fun q r =>
 bnd (A.bin prog .rem 3 q (.int .i64 8)) fun s =>
 bnd (A.fieldAddr 3 b) fun t =>
 bnd (A.fieldAddr 1 t) fun u =>
 bnd (A.store 1 u s r) fun w =>
 bnd2 (C 12 [x0] w) fun z a1 =>
 bnd (A.bin prog .rem 3 z (.int .i64 7)) fun b1 =>
 bnd (A.fieldAddr 3 b) fun c1 =>
 bnd (A.fieldAddr 2 c1) fun d1 =>
 bnd (A.store 1 d1 b1 a1) fun f1 =>
 bnd (A.load true 7 b f1) fun i1 =>
 bnd (A.store 7 x2 i1 f1) fun k1 =>
 kr x2 k1
theorem epaoN : E13 C L h K 15102 [0,3,2] [(0,[0,3,2])] (r5 34 9 0 3 2 x34 x9 x0 x3 x2)=paoN C h x0 x2 (R1 K 2) := by kernel_rfl
noncomputable def pamZ (kr : K1 β) (kn : K3 β) : O β :=
 bnd (A.bin prog .eql 3 x9 (.int .i64 14)) fun a =>
 toBK a fun b =>
 (bif b then
 (bif b then
 bnd (A.build Z33L [(0,1,(.int .u8 7))]) fun d =>
 bnd (A.store 7 x2 d h) fun f =>
 kr x2 f
 else
 kn x0 x3 x2 h)
 else
 bnd (A.bin prog .eql 3 x9 (.int .i64 15)) fun i =>
 toBK i fun j =>
 (bif j then
 bnd (A.build Z33L [(0,1,(.int .u8 7))]) fun l =>
 bnd (A.store 7 x2 l h) fun n =>
 kr x2 n
 else
 kn x0 x3 x2 h))
theorem epamZ : E13 C L h K 15103 [0,3,2] [(0,[0,3,2])] (r5 34 9 0 3 2 x34 x9 x0 x3 x2)=pamZ h x0 x2 x3 x9 (R1 K 2) (N3 K 0 3 2) := by kernel_rfl
noncomputable def pagX (kr : K1 β) (kn : K3 β) : O β :=
 condV x34 (paoN C h x0 x2 kr) (pamZ h x0 x2 x3 x9 kr kn)
def epagX:=(cd K (.tmp 34) x34 (epaoN C L h K x0 x2 x3 x9 x34) (epamZ C L h K x0 x2 x3 x9 x34) (by kernel_rfl) : _=pagX C h x0 x2 x3 x9 x34 (R1 K 2) (N3 K 0 3 2))
noncomputable def paeR (kr : K1 β) (kn : K3 β) : O β :=
 pajY h x0 x2 x3 x9 (fun x34 x9 x0 x3 x2 h=>pagX C h x0 x2 x3 x9 x34 kr kn)
def epaeR:=(sq K (epajY C L h _ x0 x2 x3 x9 x28) (congrArg _ (w5 fun x34 x9 x0 x3 x2 h=>sn (epagX ..))) (by kernel_rfl) : _=paeR C h x0 x2 x3 x9 (R1 K 2) (N3 K 0 3 2))
noncomputable def padW (kr : K1 β) (kn : K3 β) : O β :=
 condV x28 (parM C h x0 x2 kr) (paeR C h x0 x2 x3 x9 kr kn)
def epadW:=(cd K (.tmp 28) x28 (eparM C L h K x0 x2 x3 x9 x28) (epaeR C L h K x0 x2 x3 x9 x28) (by kernel_rfl) : _=padW C h x0 x2 x3 x9 x28 (R1 K 2) (N3 K 0 3 2))
noncomputable def padA (kr : K1 β) (kn : K3 β) : O β :=
 pajM h x0 x2 x3 x9 (fun x28 x9 x0 x3 x2 h=>padW C h x0 x2 x3 x9 x28 kr kn)
def epadA:=(sq K (epajM C L h _ x0 x2 x3 x9 x13) (congrArg _ (w5 fun x28 x9 x0 x3 x2 h=>sn (epadW ..))) (by kernel_rfl) : _=padA C h x0 x2 x3 x9 (R1 K 2) (N3 K 0 3 2))
noncomputable def pacH (kr : K1 β) (kn : K3 β) : O β :=
 condV x13 (paoO C h x0 x2 kr) (padA C h x0 x2 x3 x9 kr kn)
def epacH:=(cd K (.tmp 13) x13 (epaoO C L h K x0 x2 x3 x9 x13) (epadA C L h K x0 x2 x3 x9 x13) (by kernel_rfl) : _=pacH C h x0 x2 x3 x9 x13 (R1 K 2) (N3 K 0 3 2))
noncomputable def pabT (kr : K1 β) (kn : K3 β) : O β :=
 paiN h x0 x2 x3 x9 (fun x13 x9 x0 x3 x2 h=>pacH C h x0 x2 x3 x9 x13 kr kn)
def epabT:=(sq K (epaiN C L h _ x0 x2 x3 x9 x10) (congrArg _ (w5 fun x13 x9 x0 x3 x2 h=>sn (epacH ..))) (by kernel_rfl) : _=pabT C h x0 x2 x3 x9 (R1 K 2) (N3 K 0 3 2))
noncomputable def pabI (kr : K1 β) (kn : K3 β) : O β :=
 condV x10 (parN h x2 kr) (pabT C h x0 x2 x3 x9 kr kn)
def epabI:=(cd K (.tmp 10) x10 (eparN C L h K x0 x2 x3 x9 x10) (epabT C L h K x0 x2 x3 x9 x10) (by kernel_rfl) : _=pabI C h x0 x2 x3 x9 x10 (R1 K 2) (N3 K 0 3 2))
noncomputable def pabA (kr : K1 β) (kn : K3 β) : O β :=
 paiH h x0 x2 x3 x9 (fun x10 x9 x0 x3 x2 h=>pabI C h x0 x2 x3 x9 x10 kr kn)
def epabA:=(sq K (epaiH C L h _ x0 x2 x3 x9) (congrArg _ (w5 fun x10 x9 x0 x3 x2 h=>sn (epabI ..))) (by kernel_rfl) : _=pabA C h x0 x2 x3 x9 (R1 K 2) (N3 K 0 3 2))
noncomputable def paaW (kr : K1 β) (kn : K3 β) : O β :=
 paiG h x0 x2 x3 (fun x9 x0 x3 x2 h=>pabA C h x0 x2 x3 x9 kr kn)
def epaaW:=(sq K (epaiG C L h _ x0 x2 x3) (congrArg _ (w4 fun x9 x0 x3 x2 h=>sn (bk (epabA ..)))) (by kernel_rfl) : _=paaW C h x0 x2 x3 (R1 K 2) (N3 K 0 3 2))
noncomputable def parO (kr : K1 β) : O β :=
 bnd2 (C 29 [x0,x3] h) fun c d =>
 bnd (A.store 7 x2 c d) fun f =>
 kr x2 f
theorem eparO : E13 C L h K 15 [2] [] (r3 0 3 2 x0 x3 x2)=parO C h x0 x2 x3 (R1 K 2) := by kernel_rfl
noncomputable def p13a (kr : K1 β) : O β :=
 paiE h x0 (fun x0 x2 h=>paiF C h x0 x2 (fun x0 x3 x2 h=>paaW C h x0 x2 x3 kr (fun x0 x3 x2 h=>parO C h x0 x2 x3 kr)))
def ep13a:=(sq K (epaiE C L h _ x0) (congrArg _ (w2 fun x0 x2 h=>sn (sq K (epaiF C L h _ x0 x2) (congrArg _ (w3 fun x0 x3 x2 h=>sn (sq K (epaaW C L h _ x0 x2 x3) (congrArg _ (w3 fun x0 x3 x2 h=>sn (eparO ..))) (by kernel_rfl)))) (by kernel_rfl)))) (by kernel_rfl) : _=p13a C h x0 (R1 K 2))
noncomputable def F13 (C : CF) (L : Nat) (x0 : V) (h : H) : O (V × H) :=
 p13a C h x0 (fun x2 h=>bnd (resC (A.load true 7 x2 h) (some [])) fun vs => some (packA vs,h))
theorem F13eq (Q : Orc) (n : Nat) (x0 : V) (h : H) (q : Q 13 [x0]=none) : callO prog 4 Q (n + 1) 13 [x0] h=F13 (callO prog 4 Q n) n x0 h :=
 (tp q Tryz.func13 (ep13a (callO prog 4 Q n) n h _ x0) (by kernel_rfl)).trans (by kernel_rfl)
noncomputable def c29a : Code := (Tryz.f29.body).getD .skip
noncomputable abbrev E29 (C : CF) (L : Nat) {β : Type} (h : H) (K : KK β) (n : Nat) (o : List Nat) (v : List (Nat × List Nat)) (r : T Value) : O β := execK prog C L 4 84 [4] (g c29a n) o v r h K
noncomputable def papM (kn : K3 β) : O β :=
 bnd2 (A.box 7 Z33 h) fun a b =>
 kn x1 x0 a b
theorem epapM : E29 C L h K 2 [1,0,4] [] (r2 0 1 x0 x1)=papM h x0 x1 (N3 K 1 0 4) := by kernel_rfl
noncomputable def papN (kn : K4 β) : O β :=
 bnd2 (C 12 [x0] h) fun b c =>
 bnd (A.bin prog .rem 3 b (.int .i64 6)) fun d =>
 bnd (A.build Z33L [(0,1,(.int .u8 2)),(1,1,d)]) fun e =>
 bnd2 (A.box 7 Z33 c) fun f i =>
 bnd (A.store 7 f e i) fun k =>
 kn x1 x0 f x4 k
theorem epapN : E29 C L h K 6 [1,0,5,4] [] (r3 1 0 4 x1 x0 x4)=papN C h x0 x1 x4 (N4 K 1 0 5 4) := by kernel_rfl
noncomputable def papO (kn : K5 β) : O β :=
 bnd2 (C 12 [x0] h) fun b c =>
 kn x1 b x0 x5 x4 c
theorem epapO : E29 C L h K 14 [1,6,0,5,4] [] (r4 1 0 5 4 x1 x0 x5 x4)=papO C h x0 x1 x4 x5 (N5 K 1 6 0 5 4) := by kernel_rfl
noncomputable def papP (kn : K6 β) : O β :=
 bnd2 (A.box 24 Z39 h) fun a b =>
 kn x1 a x6 x0 x5 x4 b
theorem epapP : E29 C L h K 30 [1,7,6,0,5,4] [] (r5 1 6 0 5 4 x1 x6 x0 x5 x4)=papP h x0 x1 x4 x5 x6 (N6 K 1 7 6 0 5 4) := by kernel_rfl
noncomputable def pahW (kn : K6 β) : O β :=
 kn x1 x7 x6 x0 x5 x4 h
theorem epahW : E29 C L h K 124 [16,7,6,0,5,4] [] (r6 1 7 6 0 5 4 x1 x7 x6 x0 x5 x4)=pahW h x0 x1 x4 x5 x6 x7 (N6 K 16 7 6 0 5 4) := by kernel_rfl
noncomputable def pahX (kn : K7 β) : O β :=
 bnd (A.bin prog .eql 3 x16 (.int .i64 1)) fun a =>
 toBK a fun b =>
 (bif b then
 kn (.bool b) x16 x7 x6 x0 x5 x4 h
 else
 bnd (A.bin prog .eql 3 x16 (.int .i64 2)) fun d =>
 toBK d fun e =>
 kn (.bool e) x16 x7 x6 x0 x5 x4 h)
theorem epahX : E29 C L h K 500 [36,16,7,6,0,5,4] [(0,[7,5,4])] (r6 16 7 6 0 5 4 x16 x7 x6 x0 x5 x4)=pahX h x0 x4 x5 x6 x7 x16 (N7 K 36 16 7 6 0 5 4) := by kernel_rfl
noncomputable def papT (kn : K3 β) : O β :=
 bnd2 (C 48 [x0,x6] h) fun c d =>
 bnd (A.store 24 x7 c d) fun f =>
 kn x7 x5 x4 f
theorem epapT : E29 C L h K 1002 [7,5,4] [(0,[7,5,4])] (r7 36 16 7 6 0 5 4 x36 x16 x7 x6 x0 x5 x4)=papT C h x0 x4 x5 x6 x7 (N3 K 7 5 4) := by kernel_rfl
noncomputable def paiQ (kn : K7 β) : O β :=
 bnd (A.bin prog .eql 3 x16 (.int .i64 3)) fun a =>
 toBK a fun b =>
 kn (.bool b) x16 x7 x6 x0 x5 x4 h
theorem epaiQ : E29 C L h K 2006 [42,16,7,6,0,5,4] [(0,[7,5,4])] (r7 36 16 7 6 0 5 4 x36 x16 x7 x6 x0 x5 x4)=paiQ h x0 x4 x5 x6 x7 x16 (N7 K 42 16 7 6 0 5 4) := by kernel_rfl
noncomputable def pasX (kn : K3 β) : O β :=
 bnd2 (C 49 [x0,(.int .u8 8),x6] h) fun c d =>
 bnd (A.store 24 x7 c d) fun f =>
 kn x7 x5 x4 f
theorem epasX : E29 C L h K 4014 [7,5,4] [(0,[7,5,4])] (r7 42 16 7 6 0 5 4 x42 x16 x7 x6 x0 x5 x4)=pasX C h x0 x4 x5 x6 x7 (N3 K 7 5 4) := by kernel_rfl
noncomputable def paiW (kn : K7 β) : O β :=
 bnd (A.bin prog .eql 3 x16 (.int .i64 4)) fun a =>
 toBK a fun b =>
 kn (.bool b) x16 x7 x6 x0 x5 x4 h
theorem epaiW : E29 C L h K 8030 [47,16,7,6,0,5,4] [(0,[7,5,4])] (r7 42 16 7 6 0 5 4 x42 x16 x7 x6 x0 x5 x4)=paiW h x0 x4 x5 x6 x7 x16 (N7 K 47 16 7 6 0 5 4) := by kernel_rfl
noncomputable def pasW (kn : K3 β) : O β :=
 bnd2 (C 49 [x0,(.int .u8 10),x6] h) fun c d =>
 bnd (A.store 24 x7 c d) fun f =>
 kn x7 x5 x4 f
theorem epasW : E29 C L h K 16062 [7,5,4] [(0,[7,5,4])] (r7 47 16 7 6 0 5 4 x47 x16 x7 x6 x0 x5 x4)=pasW C h x0 x4 x5 x6 x7 (N3 K 7 5 4) := by kernel_rfl
noncomputable def pajQ (kn : K7 β) : O β :=
 bnd (A.bin prog .eql 3 x16 (.int .i64 5)) fun a =>
 toBK a fun b =>
 (bif b then
 kn (.bool b) x16 x7 x6 x0 x5 x4 h
 else
 bnd (A.bin prog .eql 3 x16 (.int .i64 6)) fun d =>
 toBK d fun e =>
 kn (.bool e) x16 x7 x6 x0 x5 x4 h)
theorem epajQ : E29 C L h K 32126 [52,16,7,6,0,5,4] [(0,[7,5,4])] (r7 47 16 7 6 0 5 4 x47 x16 x7 x6 x0 x5 x4)=pajQ h x0 x4 x5 x6 x7 x16 (N7 K 52 16 7 6 0 5 4) := by kernel_rfl
noncomputable def papS (kn : K3 β) : O β :=
 bnd2 (C 50 [x0,x6] h) fun c d =>
 bnd (A.store 24 x7 c d) fun f =>
 kn x7 x5 x4 f
theorem epapS : E29 C L h K 64254 [7,5,4] [(0,[7,5,4])] (r7 52 16 7 6 0 5 4 x52 x16 x7 x6 x0 x5 x4)=papS C h x0 x4 x5 x6 x7 (N3 K 7 5 4) := by kernel_rfl
noncomputable def palJ (kn : K7 β) : O β :=
 bnd (A.bin prog .eql 3 x16 (.int .i64 7)) fun a =>
 toBK a fun b =>
 kn (.bool b) x16 x7 x6 x0 x5 x4 h
theorem epalJ : E29 C L h K 128510 [58,16,7,6,0,5,4] [(0,[7,5,4])] (r7 52 16 7 6 0 5 4 x52 x16 x7 x6 x0 x5 x4)=palJ h x0 x4 x5 x6 x7 x16 (N7 K 58 16 7 6 0 5 4) := by kernel_rfl
noncomputable def pasV (kn : K3 β) : O β :=
 bnd (A.bin prog .rem 3 x6 (.int .i64 4)) fun b =>
 bnd (A.bin prog .add 3 (.int .i64 4) b) fun c =>
 bnd (A.conv prog 3 5 c) fun d =>
 bnd (A.bin prog .quo 3 x6 (.int .i64 4)) fun f =>
 bnd (A.bin prog .rem 3 f (.int .i64 4)) fun i =>
 bnd (A.bin prog .add 3 (.int .i64 1) i) fun j =>
 bnd (A.conv prog 3 34 j) fun k =>
 bnd (A.build Z39L [(0,1,d),(4,1,k)]) fun l =>
 bnd (A.store 24 x7 l h) fun n =>
 kn x7 x5 x4 n
theorem epasV : E29 C L h K 257022 [7,5,4] [(0,[7,5,4])] (r7 58 16 7 6 0 5 4 x58 x16 x7 x6 x0 x5 x4)=pasV h x4 x5 x6 x7 (N3 K 7 5 4) := by kernel_rfl
noncomputable def panF (kn : K6 β) : O β :=
 bnd (A.bin prog .eql 3 x16 (.int .i64 8)) fun a =>
 toBK a fun b =>
 kn (.bool b) x7 x6 x0 x5 x4 h
theorem epanF : E29 C L h K 514046 [70,7,6,0,5,4] [(0,[7,5,4])] (r7 58 16 7 6 0 5 4 x58 x16 x7 x6 x0 x5 x4)=panF h x0 x4 x5 x6 x7 x16 (N6 K 70 7 6 0 5 4) := by kernel_rfl
noncomputable def papR (kn : K3 β) : O β :=
 bnd (A.build Z39L [(0,1,(.int .u8 12))]) fun a =>
 bnd (A.store 24 x7 a h) fun c =>
 bnd (A.bin prog .rem 3 x6 (.int .i64 2)) fun e =>
 bnd (A.bin prog .eql 3 e (.int .i64 1)) fun f =>
 toBK f fun i =>
 (bif i then
 bnd (A.fieldAddr 0 x7) fun j =>
 bnd (A.store 1 j (.int .u8 14) c) fun l =>
 kn x7 x5 x4 l
 else
 kn x7 x5 x4 c)
theorem epapR : E29 C L h K 1028094 [7,5,4] [(0,[7,5,4])] (r6 70 7 6 0 5 4 x70 x7 x6 x0 x5 x4)=papR h x4 x5 x6 x7 (N3 K 7 5 4) := by kernel_rfl
noncomputable def pasT (kn : K4 β) : O β :=
 bnd (A.bin prog .rem 3 x6 (.int .i64 16)) fun b =>
 bnd2 (A.makeSlice 1 1 Z5L b b h) fun c d =>
 kn x0 c x5 x4 d
theorem epasT : E29 C L h K 2056190 [0,8,5,4] [(0,[7,5,4])] (r6 70 7 6 0 5 4 x70 x7 x6 x0 x5 x4)=pasT h x0 x4 x5 x6 (N4 K 0 8 5 4) := by kernel_rfl
noncomputable def pasU (kn : K6 β) : O β :=
 bnd (A.lenS x8) fun b =>
 kn b (.int .i64 0) x0 x8 x5 x4 h
theorem epasU : E29 C L h K 8224764 [21,22,0,8,5,4] [(0,[7,5,4])] (r4 0 8 5 4 x0 x8 x5 x4)=pasU h x0 x4 x5 x8 (N6 K 21 22 0 8 5 4) := by kernel_rfl
noncomputable def papQ (kx1 : K3 β) (kn : K6 β) : O β :=
 bnd (A.bin prog .lss 3 x22 x21) fun a =>
 condV a (
 bnd2 (C 12 [x0] h) fun i j =>
 bnd (A.conv prog 3 5 i) fun k =>
 bnd (A.idxS 1 x8 x22) fun l =>
 bnd (A.store 1 l k j) fun n =>
 bnd (A.bin prog .add 3 x22 (.int .i64 1)) fun o =>
 kn x21 o x0 x8 x5 x4 n) (
 kx1 x8 x5 x4 h)
theorem epapQ : E29 C L h K 32899060 [21,22,0,8,5,4] [(1,[8,5,4]),(0,[7,5,4])] (r6 21 22 0 8 5 4 x21 x22 x0 x8 x5 x4)=papQ C h x0 x4 x5 x8 x21 x22 (X3 K 1 8 5 4) (N6 K 21 22 0 8 5 4) := by kernel_rfl
noncomputable def pajR (C : CF) (L : Nat) {β : Type} (kx1 : K3 β) : Nat → K6 β
 | 0,_,_,_,_,_,_,_ => none
 | n + 1,x21,x22,x0,x8,x5,x4,h => papQ C h x0 x4 x5 x8 x21 x22 kx1 (fun x21 x22 x0 x8 x5 x4 h=>pajR C L kx1 n x21 x22 x0 x8 x5 x4 h)
theorem epajR (C : CF) (L : Nat) {β : Type} (K : KK β) : ∀ (n : Nat) (x21 x22 x0 x8 x5 x4 : V) (h : H),loopK (fun fr h K=>execK prog C L 4 84 [4] (g c29a 32899060) [21,22,0,8,5,4] [(1,[8,5,4]),(0,[7,5,4])] fr h K) n (r6 21 22 0 8 5 4 x21 x22 x0 x8 x5 x4) h K=pajR C L (X3 K 1 8 5 4) n x21 x22 x0 x8 x5 x4 h
 | 0,_,_,_,_,_,_,_ => rfl
 | n + 1,x21,x22,x0,x8,x5,x4,h => (cg (epapQ C L h _ x0 x4 x5 x8 x21 x22) (by kernel_rfl)).trans (congrArg _ (w6 fun x21 x22 x0 x8 x5 x4 h=>sl (epajR C L K n x21 x22 x0 x8 x5 x4 h)))
noncomputable def pagZ (kx1 : K3 β) : O β :=
 pajR C L kx1 L x21 x22 x0 x8 x5 x4 h
def epagZ:=(lp [8,5,4] (r6 21 22 0 8 5 4 x21 x22 x0 x8 x5 x4) (epajR C L K L x21 x22 x0 x8 x5 x4 h) (by kernel_rfl) : _=pagZ C L h x0 x4 x5 x8 x21 x22 (X3 K 1 8 5 4))
noncomputable def pafN (kn : K3 β) : O β :=
 pasU h x0 x4 x5 x8 (fun x21 x22 x0 x8 x5 x4 h=>pagZ C L h x0 x4 x5 x8 x21 x22 kn)
def epafN:=(sq K (epasU C L h _ x0 x4 x5 x8) (congrArg _ (w6 fun x21 x22 x0 x8 x5 x4 h=>sn (bk (epagZ ..)))) (by kernel_rfl) : _=pafN C L h x0 x4 x5 x8 (N3 K 8 5 4))
noncomputable def panG (C : CF) (L : Nat) {β : Type} (x8 x5 x4 : V) (h : H) (kr : K1 β) : O β :=
 bnd (A.b2s x8 h) fun b =>
 bnd (A.fieldAddr 6 x5) fun c =>
 bnd (A.store 1 c b h) fun e =>
 bnd (A.load true 7 x5 e) fun f =>
 bnd (A.store 7 x4 f e) fun j =>
 kr x4 j
theorem epanG : E29 C L h K 4112383 [7,5,4] [(0,[7,5,4])] (r3 8 5 4 x8 x5 x4)=panG C L x8 x5 x4 h (R1 K 4) := by kernel_rfl
noncomputable def paeE (kr : K1 β) : O β :=
 pasT h x0 x4 x5 x6 (fun x0 x8 x5 x4 h=>pafN C L h x0 x4 x5 x8 (fun x8 x5 x4 h=>panG C L x8 x5 x4 h kr))
def epaeE:=(sq K (epasT C L h _ x0 x4 x5 x6 x7 x70) (congrArg _ (w4 fun x0 x8 x5 x4 h=>sn (sq K (epafN C L h _ x0 x4 x5 x8) (congrArg _ (w3 fun x8 x5 x4 h=>sn (epanG ..))) (by kernel_rfl)))) (by kernel_rfl) : _=paeE C L h x0 x4 x5 x6 (R1 K 4))
noncomputable def padM (kr : K1 β) (kn : K3 β) : O β :=
 condV x70 (papR h x4 x5 x6 x7 kn) (paeE C L h x0 x4 x5 x6 kr)
def epadM:=(cd K (.tmp 70) x70 (epapR C L h K x0 x4 x5 x6 x7 x70) (epaeE C L h K x0 x4 x5 x6 x7 x70) (by kernel_rfl) : _=padM C L h x0 x4 x5 x6 x7 x70 (R1 K 4) (N3 K 7 5 4))
noncomputable def pacV (kr : K1 β) (kn : K3 β) : O β :=
 panF h x0 x4 x5 x6 x7 x16 (fun x70 x7 x6 x0 x5 x4 h=>padM C L h x0 x4 x5 x6 x7 x70 kr kn)
def epacV:=(sq K (epanF C L h _ x0 x4 x5 x6 x7 x16 x58) (congrArg _ (w6 fun x70 x7 x6 x0 x5 x4 h=>sn (epadM ..))) (by kernel_rfl) : _=pacV C L h x0 x4 x5 x6 x7 x16 (R1 K 4) (N3 K 7 5 4))
noncomputable def pacJ (kr : K1 β) (kn : K3 β) : O β :=
 condV x58 (pasV h x4 x5 x6 x7 kn) (pacV C L h x0 x4 x5 x6 x7 x16 kr kn)
def epacJ:=(cd K (.tmp 58) x58 (epasV C L h K x0 x4 x5 x6 x7 x16 x58) (epacV C L h K x0 x4 x5 x6 x7 x16 x58) (by kernel_rfl) : _=pacJ C L h x0 x4 x5 x6 x7 x16 x58 (R1 K 4) (N3 K 7 5 4))
noncomputable def pabY (kr : K1 β) (kn : K3 β) : O β :=
 palJ h x0 x4 x5 x6 x7 x16 (fun x58 x16 x7 x6 x0 x5 x4 h=>pacJ C L h x0 x4 x5 x6 x7 x16 x58 kr kn)
def epabY:=(sq K (epalJ C L h _ x0 x4 x5 x6 x7 x16 x52) (congrArg _ (w7 fun x58 x16 x7 x6 x0 x5 x4 h=>sn (epacJ ..))) (by kernel_rfl) : _=pabY C L h x0 x4 x5 x6 x7 x16 (R1 K 4) (N3 K 7 5 4))
noncomputable def pabN (kr : K1 β) (kn : K3 β) : O β :=
 condV x52 (papS C h x0 x4 x5 x6 x7 kn) (pabY C L h x0 x4 x5 x6 x7 x16 kr kn)
def epabN:=(cd K (.tmp 52) x52 (epapS C L h K x0 x4 x5 x6 x7 x16 x52) (epabY C L h K x0 x4 x5 x6 x7 x16 x52) (by kernel_rfl) : _=pabN C L h x0 x4 x5 x6 x7 x16 x52 (R1 K 4) (N3 K 7 5 4))
noncomputable def pabF (kr : K1 β) (kn : K3 β) : O β :=
 pajQ h x0 x4 x5 x6 x7 x16 (fun x52 x16 x7 x6 x0 x5 x4 h=>pabN C L h x0 x4 x5 x6 x7 x16 x52 kr kn)
def epabF:=(sq K (epajQ C L h _ x0 x4 x5 x6 x7 x16 x47) (congrArg _ (w7 fun x52 x16 x7 x6 x0 x5 x4 h=>sn (epabN ..))) (by kernel_rfl) : _=pabF C L h x0 x4 x5 x6 x7 x16 (R1 K 4) (N3 K 7 5 4))
noncomputable def pabB (kr : K1 β) (kn : K3 β) : O β :=
 condV x47 (pasW C h x0 x4 x5 x6 x7 kn) (pabF C L h x0 x4 x5 x6 x7 x16 kr kn)
def epabB:=(cd K (.tmp 47) x47 (epasW C L h K x0 x4 x5 x6 x7 x16 x47) (epabF C L h K x0 x4 x5 x6 x7 x16 x47) (by kernel_rfl) : _=pabB C L h x0 x4 x5 x6 x7 x16 x47 (R1 K 4) (N3 K 7 5 4))
noncomputable def paaX (kr : K1 β) (kn : K3 β) : O β :=
 paiW h x0 x4 x5 x6 x7 x16 (fun x47 x16 x7 x6 x0 x5 x4 h=>pabB C L h x0 x4 x5 x6 x7 x16 x47 kr kn)
def epaaX:=(sq K (epaiW C L h _ x0 x4 x5 x6 x7 x16 x42) (congrArg _ (w7 fun x47 x16 x7 x6 x0 x5 x4 h=>sn (epabB ..))) (by kernel_rfl) : _=paaX C L h x0 x4 x5 x6 x7 x16 (R1 K 4) (N3 K 7 5 4))
noncomputable def paaR (kr : K1 β) (kn : K3 β) : O β :=
 condV x42 (pasX C h x0 x4 x5 x6 x7 kn) (paaX C L h x0 x4 x5 x6 x7 x16 kr kn)
def epaaR:=(cd K (.tmp 42) x42 (epasX C L h K x0 x4 x5 x6 x7 x16 x42) (epaaX C L h K x0 x4 x5 x6 x7 x16 x42) (by kernel_rfl) : _=paaR C L h x0 x4 x5 x6 x7 x16 x42 (R1 K 4) (N3 K 7 5 4))
noncomputable def paaN (kr : K1 β) (kn : K3 β) : O β :=
 paiQ h x0 x4 x5 x6 x7 x16 (fun x42 x16 x7 x6 x0 x5 x4 h=>paaR C L h x0 x4 x5 x6 x7 x16 x42 kr kn)
def epaaN:=(sq K (epaiQ C L h _ x0 x4 x5 x6 x7 x16 x36) (congrArg _ (w7 fun x42 x16 x7 x6 x0 x5 x4 h=>sn (epaaR ..))) (by kernel_rfl) : _=paaN C L h x0 x4 x5 x6 x7 x16 (R1 K 4) (N3 K 7 5 4))
noncomputable def paaI (kr : K1 β) (kn : K3 β) : O β :=
 condV x36 (papT C h x0 x4 x5 x6 x7 kn) (paaN C L h x0 x4 x5 x6 x7 x16 kr kn)
def epaaI:=(cd K (.tmp 36) x36 (epapT C L h K x0 x4 x5 x6 x7 x16 x36) (epaaN C L h K x0 x4 x5 x6 x7 x16 x36) (by kernel_rfl) : _=paaI C L h x0 x4 x5 x6 x7 x16 x36 (R1 K 4) (N3 K 7 5 4))
noncomputable def paaF (kr : K1 β) (kn : K3 β) : O β :=
 pahX h x0 x4 x5 x6 x7 x16 (fun x36 x16 x7 x6 x0 x5 x4 h=>paaI C L h x0 x4 x5 x6 x7 x16 x36 kr kn)
def epaaF:=(sq K (epahX C L h _ x0 x4 x5 x6 x7 x16) (congrArg _ (w7 fun x36 x16 x7 x6 x0 x5 x4 h=>sn (epaaI ..))) (by kernel_rfl) : _=paaF C L h x0 x4 x5 x6 x7 x16 (R1 K 4) (N3 K 7 5 4))
noncomputable def paaD (C : CF) (L : Nat) {β : Type} (x1 x7 x6 x0 x5 x4 : V) (h : H) (kn : K3 β) (kr : K1 β) : O β :=
 pahW h x0 x1 x4 x5 x6 x7 (fun x16 x7 x6 x0 x5 x4 h=>paaF C L h x0 x4 x5 x6 x7 x16 kr kn)
def epaaD:=(sq K (epahW C L h _ x0 x1 x4 x5 x6 x7) (congrArg _ (w6 fun x16 x7 x6 x0 x5 x4 h=>sn (bk (epaaF ..)))) (by kernel_rfl) : _=paaD C L x1 x7 x6 x0 x5 x4 h (N3 K 7 5 4) (R1 K 4))
noncomputable def pasY (kr : K1 β) : O β :=
 bnd (A.load true 24 x7 h) fun a =>
 bnd2 (C 51 [a] h) fun b c =>
 bnd (A.extract 0 b) fun e =>
 bnd (A.extract 1 b) fun f =>
 bnd (A.fieldAddr 6 x5) fun i =>
 bnd (A.store 1 i e c) fun k =>
 bnd (A.load true 7 x5 k) fun l =>
 bnd (A.store 7 x4 l k) fun n =>
 kr x4 n
theorem epasY : E29 C L h K 63 [4] [] (r3 7 5 4 x7 x5 x4)=pasY C h x4 x5 x7 (R1 K 4) := by kernel_rfl
noncomputable def p29a (kr : K1 β) : O β :=
 papM h x0 x1 (fun x1 x0 x4 h=>papN C h x0 x1 x4 (fun x1 x0 x5 x4 h=>papO C h x0 x1 x4 x5 (fun x1 x6 x0 x5 x4 h=>papP h x0 x1 x4 x5 x6 (fun x1 x7 x6 x0 x5 x4 h=>paaD C L x1 x7 x6 x0 x5 x4 h (fun x7 x5 x4 h=>pasY C h x4 x5 x7 kr) kr))))
def ep29a:=(sq K (epapM C L h _ x0 x1) (congrArg _ (w3 fun x1 x0 x4 h=>sn (sq K (epapN C L h _ x0 x1 x4) (congrArg _ (w4 fun x1 x0 x5 x4 h=>sn (sq K (epapO C L h _ x0 x1 x4 x5) (congrArg _ (w5 fun x1 x6 x0 x5 x4 h=>sn (sq K (epapP C L h _ x0 x1 x4 x5 x6) (congrArg _ (w6 fun x1 x7 x6 x0 x5 x4 h=>sn (sq K (epaaD C L h _ x0 x1 x4 x5 x6 x7) (congrArg (fun k=>paaD C L x1 x7 x6 x0 x5 x4 h k (R1 K 4)) (w3 fun x7 x5 x4 h=>sn (epasY ..))) (by kernel_rfl)))) (by kernel_rfl)))) (by kernel_rfl)))) (by kernel_rfl)))) (by kernel_rfl) : _=p29a C L h x0 x1 (R1 K 4))
noncomputable def F29 (C : CF) (L : Nat) (x0 x1 : V) (h : H) : O (V × H) :=
 p29a C L h x0 x1 (fun x4 h=>bnd (resC (A.load true 7 x4 h) (some [])) fun vs => some (packA vs,h))
theorem F29eq (Q : Orc) (n : Nat) (x0 x1 : V) (h : H) (q : Q 29 [x0,x1]=none) : callO prog 4 Q (n + 1) 29 [x0,x1] h=F29 (callO prog 4 Q n) n x0 x1 h :=
 (tp q Tryz.func29 (ep29a (callO prog 4 Q n) n h _ x0 x1) (by kernel_rfl)).trans (by kernel_rfl)
noncomputable def c48a : Code := (Tryz.f48.body).getD .skip
noncomputable abbrev E48 (C : CF) (L : Nat) {β : Type} (h : H) (K : KK β) (n : Nat) (o : List Nat) (v : List (Nat × List Nat)) (r : T Value) : O β := execK prog C L 4 33 [4] (g c48a n) o v r h K
noncomputable def p48a (kr : K1 β) : O β :=
 bnd2 (A.box 24 Z39 h) fun a b =>
 bnd (A.bin prog .quo 3 x1 (.int .i64 16)) fun d =>
 bnd (A.bin prog .rem 3 d (.int .i64 2)) fun e =>
 bnd (A.bin prog .eql 3 e (.int .i64 1)) fun f =>
 toBK f fun i =>
 bnd2 (A.buildSlice 1 4 Z9L [(0,1,(.string ⟨⟨[120]⟩⟩)),(1,1,(.string ⟨⟨[121]⟩⟩)),(2,1,(.string ⟨⟨[122]⟩⟩)),(3,1,(.string ⟨⟨[]⟩⟩))] b) fun j k =>
 bnd (A.bin prog .rem 3 x1 (.int .i64 4)) fun m =>
 bnd (A.idxS 1 j m) fun n =>
 bnd (A.load false 1 n k) fun o =>
 bnd (A.build Z39L [(0,1,(.int .u8 1)),(7,1,(.int .u8 4)),(8,1,(.bool i)),(10,1,o)]) fun p =>
 bnd2 (A.box 24 Z39 k) fun q r =>
 bnd (A.store 24 q p r) fun t =>
 bnd (A.bin prog .quo 3 x1 (.int .i64 32)) fun v =>
 bnd (A.bin prog .rem 3 v (.int .i64 2)) fun w =>
 bnd (A.bin prog .eql 3 w (.int .i64 1)) fun y =>
 toBK y fun z =>
 (bif z then
 bnd (A.fieldAddr 11 q) fun a1 =>
 bnd (A.store 1 a1 (.bool true) t) fun c1 =>
 bnd (A.bin prog .quo 3 x1 (.int .i64 64)) fun e1 =>
 bnd (A.bin prog .rem 3 e1 (.int .i64 3)) fun f1 =>
 bnd (A.conv prog 3 5 f1) fun i1 =>
 bnd (A.build Z36L [(0,1,(.string ⟨⟨[97,47,119]⟩⟩)),(1,1,(.string ⟨⟨[119]⟩⟩)),(2,1,i1)]) fun j1 =>
 bnd (A.fieldAddr 12 q) fun k1 =>
 bnd (A.store 4 k1 j1 c1) fun m1 =>
 bnd2 (C 12 [x0] m1) fun o1 p1 =>
 bnd (A.bin prog .rem 3 o1 (.int .i64 4)) fun q1 =>
 bnd (A.conv prog 3 34 q1) fun r1 =>
 bnd (A.fieldAddr 9 q) fun s1 =>
 bnd (A.store 1 s1 r1 p1) fun u1 =>
 bnd (A.load true 24 q u1) fun v1 =>
 bnd (A.store 24 a v1 u1) fun y1 =>
 kr a y1
 else
 bnd2 (C 12 [x0] t) fun a2 b2 =>
 bnd (A.bin prog .rem 3 a2 (.int .i64 4)) fun c2 =>
 bnd (A.conv prog 3 34 c2) fun d2 =>
 bnd (A.fieldAddr 9 q) fun e2 =>
 bnd (A.store 1 e2 d2 b2) fun i2 =>
 bnd (A.load true 24 q i2) fun j2 =>
 bnd (A.store 24 a j2 i2) fun l2 =>
 kr a l2)
theorem ep48a : E48 C L h K 1 [4] [] (r2 0 1 x0 x1)=p48a C h x0 x1 (R1 K 4) := by kernel_rfl
noncomputable def F48 (C : CF) (L : Nat) (x0 x1 : V) (h : H) : O (V × H) :=
 p48a C h x0 x1 (fun x4 h=>bnd (resC (A.load true 24 x4 h) (some [])) fun vs => some (packA vs,h))
theorem F48eq (Q : Orc) (n : Nat) (x0 x1 : V) (h : H) (q : Q 48 [x0,x1]=none) : callO prog 4 Q (n + 1) 48 [x0,x1] h=F48 (callO prog 4 Q n) n x0 x1 h :=
 (tp q Tryz.func48 (ep48a (callO prog 4 Q n) n h _ x0 x1) (by kernel_rfl)).trans (by kernel_rfl)
noncomputable def c49a : Code := (Tryz.f49.body).getD .skip
noncomputable abbrev E49 (C : CF) (L : Nat) {β : Type} (h : H) (K : KK β) (n : Nat) (o : List Nat) (v : List (Nat × List Nat)) (r : T Value) : O β := execK prog C L 4 47 [6] (g c49a n) o v r h K
noncomputable def patU (kn : K4 β) : O β :=
 bnd2 (A.box 24 Z39 h) fun a b =>
 kn x2 x1 x0 a b
theorem epatU : E49 C L h K 2 [2,1,0,6] [] (r3 0 1 2 x0 x1 x2)=patU h x0 x1 x2 (N4 K 2 1 0 6) := by kernel_rfl
noncomputable def patV (kn : K5 β) : O β :=
 bnd (A.bin prog .rem 3 x2 (.int .i64 4)) fun c =>
 bnd (A.bin prog .add 3 (.int .i64 1) c) fun d =>
 bnd (A.conv prog 3 34 d) fun e =>
 bnd (A.build Z39L [(0,1,x1),(4,1,e)]) fun f =>
 bnd2 (A.box 24 Z39 h) fun i j =>
 bnd (A.store 24 i f j) fun l =>
 kn x2 x1 x0 i x6 l
theorem epatV : E49 C L h K 6 [2,1,0,7,6] [] (r4 2 1 0 6 x2 x1 x0 x6)=patV h x0 x1 x2 x6 (N5 K 2 1 0 7 6) := by kernel_rfl
noncomputable def patW (kn : K6 β) : O β :=
 bnd2 (A.buildSlice 1 8 Z9L [(0,1,(.string ⟨⟨[97]⟩⟩)),(1,1,(.string ⟨⟨[97,47,43]⟩⟩)),(2,1,(.string ⟨⟨[35]⟩⟩)),(3,1,(.string ⟨⟨[43,47,98]⟩⟩)),(4,1,(.string ⟨⟨[97,47,35]⟩⟩)),(5,1,(.string ⟨⟨[98]⟩⟩)),(6,1,(.string ⟨⟨[36,115,47,35]⟩⟩)),(7,1,(.string ⟨⟨[43]⟩⟩))] h) fun a b =>
 kn x2 x1 a x0 x7 x6 b
theorem epatW : E49 C L h K 14 [2,1,8,0,7,6] [] (r5 2 1 0 7 6 x2 x1 x0 x7 x6)=patW h x0 x1 x2 x6 x7 (N6 K 2 1 8 0 7 6) := by kernel_rfl
noncomputable def patX (kn : K7 β) : O β :=
 bnd (A.bin prog .quo 3 x2 (.int .i64 4)) fun b =>
 bnd (A.bin prog .rem 3 b (.int .i64 2)) fun c =>
 bnd (A.bin prog .add 3 (.int .i64 1) c) fun d =>
 kn d (.int .i64 0) x1 x8 x0 x7 x6 h
theorem epatX : E49 C L h K 60 [21,22,1,8,0,7,6] [] (r6 2 1 8 0 7 6 x2 x1 x8 x0 x7 x6)=patX h x0 x1 x2 x6 x7 x8 (N7 K 21 22 1 8 0 7 6) := by kernel_rfl
noncomputable def panJ (kx0 : K2 β) (kn : K7 β) : O β :=
 bnd (A.bin prog .lss 3 x22 x21) fun a =>
 toBK a fun b =>
 (bif b then
 bnd2 (C 12 [x0] h) fun d e =>
 bnd (A.bin prog .rem 3 d (.int .i64 8)) fun k =>
 bnd (A.idxS 1 x8 k) fun l =>
 bnd (A.load false 1 l e) fun m =>
 bnd (A.build Z120L [(0,1,m)]) fun n =>
 bnd2 (A.box 2 Z120 e) fun o p =>
 bnd (A.store 2 o n p) fun r =>
 bnd (A.bin prog .eql 5 x1 (.int .u8 8)) fun t =>
 toBK t fun u =>
 (bif u then
 bnd (A.bin prog .quo 3 d (.int .i64 8)) fun w =>
 bnd (A.bin prog .rem 3 w (.int .i64 3)) fun y =>
 bnd (A.conv prog 3 5 y) fun z =>
 bnd (A.fieldAddr 1 o) fun a1 =>
 bnd (A.store 1 a1 z r) fun c1 =>
 bnd (A.fieldAddr 22 x7) fun d1 =>
 bnd (A.load false 1 d1 c1) fun e1 =>
 bnd (A.load true 2 o c1) fun f1 =>
 bnd2 (A.buildSlice 2 1 Z120L [(0,2,f1)] c1) fun i1 j1 =>
 bnd2 (A.append 2 24 e1 i1 j1) fun k1 l1 =>
 bnd (A.fieldAddr 22 x7) fun m1 =>
 bnd (A.store 1 m1 k1 l1) fun o1 =>
 bnd (A.bin prog .add 3 x22 (.int .i64 1)) fun p1 =>
 kn x21 p1 x1 x8 x0 x7 x6 o1
 else
 bnd (A.fieldAddr 22 x7) fun r1 =>
 bnd (A.load false 1 r1 r) fun s1 =>
 bnd (A.load true 2 o r) fun t1 =>
 bnd2 (A.buildSlice 2 1 Z120L [(0,2,t1)] r) fun u1 v1 =>
 bnd2 (A.append 2 24 s1 u1 v1) fun w1 y1 =>
 bnd (A.fieldAddr 22 x7) fun z1 =>
 bnd (A.store 1 z1 w1 y1) fun b2 =>
 bnd (A.bin prog .add 3 x22 (.int .i64 1)) fun c2 =>
 kn x21 c2 x1 x8 x0 x7 x6 b2)
 else
 kx0 x7 x6 h)
theorem epanJ : E49 C L h K 244 [21,22,1,8,0,7,6] [(0,[7,6])] (r7 21 22 1 8 0 7 6 x21 x22 x1 x8 x0 x7 x6)=panJ C h x0 x1 x6 x7 x8 x21 x22 (X2 K 0 7 6) (N7 K 21 22 1 8 0 7 6) := by kernel_rfl
noncomputable def paiY (C : CF) (L : Nat) {β : Type} (kx0 : K2 β) : Nat → K7 β
 | 0,_,_,_,_,_,_,_,_ => none
 | n + 1,x21,x22,x1,x8,x0,x7,x6,h => panJ C h x0 x1 x6 x7 x8 x21 x22 kx0 (fun x21 x22 x1 x8 x0 x7 x6 h=>paiY C L kx0 n x21 x22 x1 x8 x0 x7 x6 h)
theorem epaiY (C : CF) (L : Nat) {β : Type} (K : KK β) : ∀ (n : Nat) (x21 x22 x1 x8 x0 x7 x6 : V) (h : H),loopK (fun fr h K=>execK prog C L 4 47 [6] (g c49a 244) [21,22,1,8,0,7,6] [(0,[7,6])] fr h K) n (r7 21 22 1 8 0 7 6 x21 x22 x1 x8 x0 x7 x6) h K=paiY C L (X2 K 0 7 6) n x21 x22 x1 x8 x0 x7 x6 h
 | 0,_,_,_,_,_,_,_,_ => rfl
 | n + 1,x21,x22,x1,x8,x0,x7,x6,h => (cg (epanJ C L h _ x0 x1 x6 x7 x8 x21 x22) (by kernel_rfl)).trans (congrArg _ (w7 fun x21 x22 x1 x8 x0 x7 x6 h=>sl (epaiY C L K n x21 x22 x1 x8 x0 x7 x6 h)))
noncomputable def pagS (kx0 : K2 β) : O β :=
 paiY C L kx0 L x21 x22 x1 x8 x0 x7 x6 h
def epagS:=(lp [7,6] (r7 21 22 1 8 0 7 6 x21 x22 x1 x8 x0 x7 x6) (epaiY C L K L x21 x22 x1 x8 x0 x7 x6 h) (by kernel_rfl) : _=pagS C L h x0 x1 x6 x7 x8 x21 x22 (X2 K 0 7 6))
noncomputable def pafH (kn : K2 β) : O β :=
 patX h x0 x1 x2 x6 x7 x8 (fun x21 x22 x1 x8 x0 x7 x6 h=>pagS C L h x0 x1 x6 x7 x8 x21 x22 kn)
def epafH:=(sq K (epatX C L h _ x0 x1 x2 x6 x7 x8) (congrArg _ (w7 fun x21 x22 x1 x8 x0 x7 x6 h=>sn (bk (epagS ..)))) (by kernel_rfl) : _=pafH C L h x0 x1 x2 x6 x7 x8 (N2 K 7 6))
noncomputable def paqE (C : CF) (L : Nat) {β : Type} (x7 x6 : V) (h : H) (kr : K1 β) : O β :=
 bnd (A.load true 24 x7 h) fun a =>
 bnd (A.store 24 x6 a h) fun c =>
 kr x6 c
theorem epaqE : E49 C L h K 31 [6] [] (r2 7 6 x7 x6)=paqE C L x7 x6 h (R1 K 6) := by kernel_rfl
noncomputable def p49a (kr : K1 β) : O β :=
 patU h x0 x1 x2 (fun x2 x1 x0 x6 h=>patV h x0 x1 x2 x6 (fun x2 x1 x0 x7 x6 h=>patW h x0 x1 x2 x6 x7 (fun x2 x1 x8 x0 x7 x6 h=>pafH C L h x0 x1 x2 x6 x7 x8 (fun x7 x6 h=>paqE C L x7 x6 h kr))))
def ep49a:=(sq K (epatU C L h _ x0 x1 x2) (congrArg _ (w4 fun x2 x1 x0 x6 h=>sn (sq K (epatV C L h _ x0 x1 x2 x6) (congrArg _ (w5 fun x2 x1 x0 x7 x6 h=>sn (sq K (epatW C L h _ x0 x1 x2 x6 x7) (congrArg _ (w6 fun x2 x1 x8 x0 x7 x6 h=>sn (sq K (epafH C L h _ x0 x1 x2 x6 x7 x8) (congrArg _ (w2 fun x7 x6 h=>sn (epaqE ..))) (by kernel_rfl)))) (by kernel_rfl)))) (by kernel_rfl)))) (by kernel_rfl) : _=p49a C L h x0 x1 x2 (R1 K 6))
noncomputable def F49 (C : CF) (L : Nat) (x0 x1 x2 : V) (h : H) : O (V × H) :=
 p49a C L h x0 x1 x2 (fun x6 h=>bnd (resC (A.load true 24 x6 h) (some [])) fun vs => some (packA vs,h))
theorem F49eq (Q : Orc) (n : Nat) (x0 x1 x2 : V) (h : H) (q : Q 49 [x0,x1,x2]=none) : callO prog 4 Q (n + 1) 49 [x0,x1,x2] h=F49 (callO prog 4 Q n) n x0 x1 x2 h :=
 (tp q Tryz.func49 (ep49a (callO prog 4 Q n) n h _ x0 x1 x2) (by kernel_rfl)).trans (by kernel_rfl)
noncomputable def c50a : Code := (Tryz.f50.body).getD .skip
noncomputable abbrev E50 (C : CF) (L : Nat) {β : Type} (h : H) (K : KK β) (n : Nat) (o : List Nat) (v : List (Nat × List Nat)) (r : T Value) : O β := execK prog C L 4 48 [4] (g c50a n) o v r h K
noncomputable def palW (kn : K3 β) : O β :=
 bnd2 (A.box 24 Z39 h) fun a b =>
 kn x0 x1 a b
theorem epalW : E50 C L h K 2 [0,1,4] [] (r2 0 1 x0 x1)=palW h x0 x1 (N3 K 0 1 4) := by kernel_rfl
noncomputable def palX (kn : K4 β) : O β :=
 bnd2 (A.buildSlice 1 6 Z9L [(0,1,(.string ⟨⟨[97]⟩⟩)),(1,1,(.string ⟨⟨[97,47,98]⟩⟩)),(2,1,(.string ⟨⟨[98]⟩⟩)),(3,1,(.string ⟨⟨[97,47,119]⟩⟩)),(4,1,(.string ⟨⟨[36,115,47,120]⟩⟩)),(5,1,(.string ⟨⟨[99]⟩⟩))] h) fun a b =>
 bnd (A.bin prog .rem 3 x1 (.int .i64 6)) fun d =>
 bnd (A.idxS 1 a d) fun e =>
 bnd (A.load false 1 e b) fun f =>
 bnd (A.bin prog .quo 3 x1 (.int .i64 8)) fun j =>
 bnd (A.bin prog .rem 3 j (.int .i64 3)) fun k =>
 bnd (A.conv prog 3 5 k) fun l =>
 bnd (A.bin prog .quo 3 x1 (.int .i64 32)) fun n =>
 bnd (A.bin prog .rem 3 n (.int .i64 2)) fun o =>
 bnd (A.bin prog .eql 3 o (.int .i64 1)) fun p =>
 toBK p fun q =>
 bnd (A.build Z39L [(0,1,(.int .u8 3)),(5,1,f),(2,1,l),(3,1,(.bool q))]) fun r =>
 bnd2 (A.box 24 Z39 b) fun s t =>
 bnd (A.store 24 s r t) fun v =>
 kn x0 x1 s x4 v
theorem epalX : E50 C L h K 6 [0,1,5,4] [] (r3 0 1 4 x0 x1 x4)=palX h x0 x1 x4 (N4 K 0 1 5 4) := by kernel_rfl
noncomputable def palY (kr : K1 β) : O β :=
 bnd2 (C 12 [x0] h) fun b c =>
 bnd (A.bin prog .quo 3 b (.int .i64 4)) fun f =>
 bnd (A.bin prog .rem 3 f (.int .i64 4)) fun i =>
 bnd (A.bin prog .gtr 3 i (.int .i64 0)) fun j =>
 toBK j fun k =>
 (bif k then
 bnd (A.bin prog .quo 3 b (.int .i64 16)) fun m =>
 bnd (A.bin prog .add 3 (.int .i64 97) m) fun n =>
 bnd (A.conv prog 3 5 n) fun o =>
 bnd2 (A.buildSlice 1 1 Z5L [(0,1,o)] c) fun p q =>
 bnd (A.b2s p q) fun r =>
 bnd (A.fieldAddr 6 x5) fun s =>
 bnd (A.store 1 s r q) fun u =>
 bnd (A.fieldAddr 2 x5) fun v =>
 bnd (A.load false 1 v u) fun w =>
 bnd (A.bin prog .gtr 5 w (.int .u8 0)) fun y =>
 toBK y fun z =>
 (bif z then
 bnd (A.bin prog .rem 3 b (.int .i64 4)) fun b1 =>
 bnd (A.bin prog .add 3 (.int .i64 1) b1) fun c1 =>
 bnd (A.conv prog 3 34 c1) fun d1 =>
 bnd (A.fieldAddr 4 x5) fun e1 =>
 bnd (A.store 1 e1 d1 u) fun i1 =>
 bnd (A.bin prog .quo 3 x1 (.int .i64 64)) fun k1 =>
 bnd (A.bin prog .rem 3 k1 (.int .i64 2)) fun l1 =>
 bnd (A.bin prog .eql 3 l1 (.int .i64 1)) fun m1 =>
 toBK m1 fun n1 =>
 bnd (A.fieldAddr 1 x5) fun o1 =>
 bnd (A.store 1 o1 (.bool n1) i1) fun q1 =>
 bnd (A.load true 24 x5 q1) fun r1 =>
 bnd (A.store 24 x4 r1 q1) fun t1 =>
 kr x4 t1
 else
 bnd (A.load true 24 x5 u) fun u1 =>
 bnd (A.store 24 x4 u1 u) fun w1 =>
 kr x4 w1)
 else
 bnd (A.fieldAddr 2 x5) fun y1 =>
 bnd (A.load false 1 y1 c) fun z1 =>
 bnd (A.bin prog .gtr 5 z1 (.int .u8 0)) fun a2 =>
 toBK a2 fun b2 =>
 (bif b2 then
 bnd (A.bin prog .rem 3 b (.int .i64 4)) fun d2 =>
 bnd (A.bin prog .add 3 (.int .i64 1) d2) fun e2 =>
 bnd (A.conv prog 3 34 e2) fun f2 =>
 bnd (A.fieldAddr 4 x5) fun i2 =>
 bnd (A.store 1 i2 f2 c) fun k2 =>
 bnd (A.bin prog .quo 3 x1 (.int .i64 64)) fun m2 =>
 bnd (A.bin prog .rem 3 m2 (.int .i64 2)) fun n2 =>
 bnd (A.bin prog .eql 3 n2 (.int .i64 1)) fun o2 =>
 toBK o2 fun p2 =>
 bnd (A.fieldAddr 1 x5) fun q2 =>
 bnd (A.store 1 q2 (.bool p2) k2) fun s2 =>
 bnd (A.load true 24 x5 s2) fun t2 =>
 bnd (A.store 24 x4 t2 s2) fun v2 =>
 kr x4 v2
 else
 bnd (A.load true 24 x5 c) fun w2 =>
 bnd (A.store 24 x4 w2 c) fun z2 =>
 kr x4 z2))
theorem epalY : E50 C L h K 7 [4] [] (r4 0 1 5 4 x0 x1 x5 x4)=palY C h x0 x1 x4 x5 (R1 K 4) := by kernel_rfl
noncomputable def p50a (kr : K1 β) : O β :=
 palW h x0 x1 (fun x0 x1 x4 h=>palX h x0 x1 x4 (fun x0 x1 x5 x4 h=>palY C h x0 x1 x4 x5 kr))
def ep50a:=(sq K (epalW C L h _ x0 x1) (congrArg _ (w3 fun x0 x1 x4 h=>sn (sq K (epalX C L h _ x0 x1 x4) (congrArg _ (w4 fun x0 x1 x5 x4 h=>sn (epalY ..))) (by kernel_rfl)))) (by kernel_rfl) : _=p50a C h x0 x1 (R1 K 4))
noncomputable def F50 (C : CF) (L : Nat) (x0 x1 : V) (h : H) : O (V × H) :=
 p50a C h x0 x1 (fun x4 h=>bnd (resC (A.load true 24 x4 h) (some [])) fun vs => some (packA vs,h))
theorem F50eq (Q : Orc) (n : Nat) (x0 x1 : V) (h : H) (q : Q 50 [x0,x1]=none) : callO prog 4 Q (n + 1) 50 [x0,x1] h=F50 (callO prog 4 Q n) n x0 x1 h :=
 (tp q Tryz.func50 (ep50a (callO prog 4 Q n) n h _ x0 x1) (by kernel_rfl)).trans (by kernel_rfl)
noncomputable def c51a : Code := (Tryz.f51.body).getD .skip
noncomputable abbrev E51 (C : CF) (L : Nat) {β : Type} (h : H) (K : KK β) (n : Nat) (o : List Nat) (v : List (Nat × List Nat)) (r : T Value) : O β := execK prog C L 4 9 [2,3] (g c51a n) o v r h K
noncomputable def p51a (kr : K2 β) : O β :=
 bnd2 (A.box 24 x0 h) fun a b =>
 bnd (A.load true 24 a b) fun e =>
 bnd2 (A.buildSlice 24 1 Z39L [(0,24,e)] b) fun f i =>
 bnd2 (C 75 [f] i) fun j k =>
 bnd (A.extract 0 j) fun l =>
 bnd (A.extract 1 j) fun m =>
 kr l m k
theorem ep51a : E51 C L h K 1 [2,3] [] (r1 0 x0)=p51a C h x0 (R2 K 2 3) := by kernel_rfl
noncomputable def F51 (C : CF) (L : Nat) (x0 : V) (h : H) : O (V × H) :=
 p51a C h x0 (fun x2 x3 h=>some (.tuple ⟨[x2,x3]⟩,h))
theorem F51eq (Q : Orc) (n : Nat) (x0 : V) (h : H) (q : Q 51 [x0]=none) : callO prog 4 Q (n + 1) 51 [x0] h=F51 (callO prog 4 Q n) n x0 h :=
 (tp q Tryz.func51 (ep51a (callO prog 4 Q n) n h _ x0) (by kernel_rfl)).trans (by kernel_rfl)
noncomputable def c75a : Code := (Tryz.f75.body).getD .skip
noncomputable abbrev E75 (C : CF) (L : Nat) {β : Type} (h : H) (K : KK β) (n : Nat) (o : List Nat) (v : List (Nat × List Nat)) (r : T Value) : O β := execK prog C L 4 59 [2,3] (g c75a n) o v r h K
noncomputable def pauE (kn : K1 β) : O β :=
 kn x0 h
theorem epauE : E75 C L h K 2 [0] [] (r1 0 x0)=pauE h x0 (N1 K 0) := by kernel_rfl
noncomputable def pauF (kn : K2 β) : O β :=
 kn (.int .i64 0) x0 h
theorem epauF : E75 C L h K 6 [4,0] [] (r1 0 x0)=pauF h x0 (N2 K 4 0) := by kernel_rfl
noncomputable def pauG (kn : K5 β) : O β :=
 bnd (A.lenS x0) fun b =>
 kn b (.int .i64 0) x0 x4 x0 h
theorem epauG : E75 C L h K 28 [14,15,13,4,0] [] (r2 4 0 x4 x0)=pauG h x0 x4 (N5 K 14 15 13 4 0) := by kernel_rfl
noncomputable def pauH (kr kx0 : K2 β) (kn : K5 β) : O β :=
 bnd (A.bin prog .lss 3 x15 x14) fun a =>
 condV a (
 bnd (A.idxS 24 x13 x15) fun b =>
 bnd (A.load true 24 b h) fun c =>
 bnd2 (A.box 24 Z39 h) fun d e =>
 bnd (A.store 24 d c e) fun i =>
 bnd (A.load true 24 d i) fun j =>
 bnd2 (C 97 [j] i) fun k l =>
 bnd (A.bin prog .eql 3 k (.int .i64 0)) fun o =>
 toBK o fun p =>
 (bif p then
 kr (.string ⟨⟨[]⟩⟩) (.int .i64 4) l
 else
 bnd (A.bin prog .add 3 x4 k) fun u =>
 bnd (A.bin prog .add 3 x15 (.int .i64 1)) fun w =>
 kn x14 w x13 u x0 l)) (
 kx0 x4 x0 h)
theorem epauH : E75 C L h K 116 [14,15,13,4,0] [(0,[4,0])] (r5 14 15 13 4 0 x14 x15 x13 x4 x0)=pauH C h x0 x4 x13 x14 x15 (R2 K 2 3) (X2 K 0 4 0) (N5 K 14 15 13 4 0) := by kernel_rfl
noncomputable def pamH (C : CF) (L : Nat) {β : Type} (kr kx0 : K2 β) : Nat → K5 β
 | 0,_,_,_,_,_,_ => none
 | n + 1,x14,x15,x13,x4,x0,h => pauH C h x0 x4 x13 x14 x15 kr kx0 (fun x14 x15 x13 x4 x0 h=>pamH C L kr kx0 n x14 x15 x13 x4 x0 h)
theorem epamH (C : CF) (L : Nat) {β : Type} (K : KK β) : ∀ (n : Nat) (x14 x15 x13 x4 x0 : V) (h : H),loopK (fun fr h K=>execK prog C L 4 59 [2,3] (g c75a 116) [14,15,13,4,0] [(0,[4,0])] fr h K) n (r5 14 15 13 4 0 x14 x15 x13 x4 x0) h K=pamH C L (R2 K 2 3) (X2 K 0 4 0) n x14 x15 x13 x4 x0 h
 | 0,_,_,_,_,_,_ => rfl
 | n + 1,x14,x15,x13,x4,x0,h => (cg (epauH C L h _ x0 x4 x13 x14 x15) (by kernel_rfl)).trans (congrArg _ (w5 fun x14 x15 x13 x4 x0 h=>sl (epamH C L K n x14 x15 x13 x4 x0 h)))
noncomputable def pahH (kr kx0 : K2 β) : O β :=
 pamH C L kr kx0 L x14 x15 x13 x4 x0 h
def epahH:=(lp [4,0] (r5 14 15 13 4 0 x14 x15 x13 x4 x0) (epamH C L K L x14 x15 x13 x4 x0 h) (by kernel_rfl) : _=pahH C L h x0 x4 x13 x14 x15 (R2 K 2 3) (X2 K 0 4 0))
noncomputable def pafR (kr kn : K2 β) : O β :=
 pauG h x0 x4 (fun x14 x15 x13 x4 x0 h=>pahH C L h x0 x4 x13 x14 x15 kr kn)
def epafR:=(sq K (epauG C L h _ x0 x4) (congrArg _ (w5 fun x14 x15 x13 x4 x0 h=>sn (bk (epahH ..)))) (by kernel_rfl) : _=pafR C L h x0 x4 (R2 K 2 3) (N2 K 4 0))
noncomputable def pauI (kn : K2 β) : O β :=
 bnd2 (A.makeSlice 1 1 Z5L (.int .i64 0) x4 h) fun b c =>
 kn x0 b c
theorem epauI : E75 C L h K 30 [0,8] [] (r2 4 0 x4 x0)=pauI h x0 x4 (N2 K 0 8) := by kernel_rfl
noncomputable def pauJ (kn : K4 β) : O β :=
 bnd (A.lenS x0) fun b =>
 kn b (.int .i64 0) x0 x8 h
theorem epauJ : E75 C L h K 124 [30,31,29,8] [] (r2 0 8 x0 x8)=pauJ h x0 x8 (N4 K 30 31 29 8) := by kernel_rfl
noncomputable def pauK (kn : K5 β) : O β :=
 bnd (A.bin prog .lss 3 x31 x30) fun a =>
 kn a x29 x30 x31 x8 h
theorem epauK : E75 C L h K 1000 [32,29,30,31,8] [(2,[8])] (r4 30 31 29 8 x30 x31 x29 x8)=pauK h x8 x29 x30 x31 (N5 K 32 29 30 31 8) := by kernel_rfl
noncomputable def pauL (kx2 : K1 β) (kn : K4 β) : O β :=
 condV x32 (
 kn x8 x31 x30 x29 h) (
 kx2 x8 h)
theorem epauL : E75 C L h K 2002 [8,31,30,29] [(2,[8])] (r5 32 29 30 31 8 x32 x29 x30 x31 x8)=pauL h x8 x29 x30 x31 x32 (X1 K 2 8) (N4 K 8 31 30 29) := by kernel_rfl
noncomputable def pauM (kn : K5 β) : O β :=
 bnd (A.idxS 24 x29 x31) fun a =>
 bnd (A.load true 24 a h) fun b =>
 bnd2 (A.box 24 Z39 h) fun c d =>
 bnd (A.store 24 c b d) fun f =>
 kn x8 c x31 x30 x29 f
theorem epauM : E75 C L h K 16024 [8,10,31,30,29] [(3,[31,30,29,8]),(2,[8])] (r4 8 31 30 29 x8 x31 x30 x29)=pauM h x8 x29 x30 x31 (N5 K 8 10 31 30 29) := by kernel_rfl
noncomputable def pauN (kn : K6 β) : O β :=
 bnd (A.load true 24 x10 h) fun a =>
 bnd2 (C 36 [a] h) fun b c =>
 bnd2 (C 98 [b] c) fun d e =>
 bnd (A.extract 0 d) fun i =>
 bnd (A.extract 1 d) fun j =>
 kn x8 i x10 x31 x30 x29 e
theorem epauN : E75 C L h K 32050 [8,11,10,31,30,29] [(3,[31,30,29,8]),(2,[8])] (r5 8 10 31 30 29 x8 x10 x31 x30 x29)=pauN C h x8 x10 x29 x30 x31 (N6 K 8 11 10 31 30 29) := by kernel_rfl
noncomputable def pauO (kn : K4 β) : O β :=
 bnd (A.fieldAddr 0 x10) fun b =>
 bnd (A.load false 1 b h) fun c =>
 bnd (A.bin prog .shl 5 c (.int .u64 4)) fun d =>
 bnd (A.load true 24 x10 h) fun e =>
 bnd2 (C 99 [e] h) fun f i =>
 bif (chk (bnd (A.load false 1 b i) fun v => some v) c && true) then
 bnd (A.bin prog .or 5 d f) fun j =>
 bnd2 (A.buildSlice 1 1 Z5L [(0,1,j)] i) fun k l =>
 bnd2 (A.append 1 1 x8 k l) fun m n =>
 bnd2 (A.append 1 1 m x11 n) fun r s =>
 bnd (A.load true 24 x10 s) fun v =>
 bnd2 (C 100 [r,v] s) fun w y =>
 kn x31 x30 x29 w y
 else none
theorem epauO : E75 C L h K 32051 [31,30,29,8] [(3,[31,30,29,8]),(2,[8])] (r6 8 11 10 31 30 29 x8 x11 x10 x31 x30 x29)=pauO C h x8 x10 x11 x29 x30 x31 (N4 K 31 30 29 8) := by kernel_rfl
noncomputable def pahB (kn : K4 β) : O β :=
 pauM h x8 x29 x30 x31 (fun x8 x10 x31 x30 x29 h=>pauN C h x8 x10 x29 x30 x31 (fun x8 x11 x10 x31 x30 x29 h=>pauO C h x8 x10 x11 x29 x30 x31 kn))
def epahB:=(sq K (epauM C L h _ x8 x29 x30 x31) (congrArg _ (w5 fun x8 x10 x31 x30 x29 h=>sn (sq K (epauN C L h _ x8 x10 x29 x30 x31) (congrArg _ (w6 fun x8 x11 x10 x31 x30 x29 h=>sn (epauO ..))) (by kernel_rfl)))) (by kernel_rfl) : _=pahB C h x8 x29 x30 x31 (N4 K 31 30 29 8))
noncomputable def pauP (kn : K4 β) : O β :=
 bnd (A.bin prog .add 3 x31 (.int .i64 1)) fun a =>
 kn x30 a x29 x8 h
theorem epauP : E75 C L h K 4007 [30,31,29,8] [(2,[8])] (r4 31 30 29 8 x31 x30 x29 x8)=pauP h x8 x29 x30 x31 (N4 K 30 31 29 8) := by kernel_rfl
noncomputable def paeP (kx2 : K1 β) (kn : K4 β) : O β :=
 pauK h x8 x29 x30 x31 (fun x32 x29 x30 x31 x8 h=>pauL h x8 x29 x30 x31 x32 kx2 (fun x8 x31 x30 x29 h=>pahB C h x8 x29 x30 x31 (fun x31 x30 x29 x8 h=>pauP h x8 x29 x30 x31 kn)))
def epaeP:=(sq K (epauK C L h _ x8 x29 x30 x31) (congrArg _ (w5 fun x32 x29 x30 x31 x8 h=>sn (sq K (epauL C L h _ x8 x29 x30 x31 x32) (congrArg _ (w4 fun x8 x31 x30 x29 h=>sn (sq K (bk (epahB C L h _ x8 x29 x30 x31)) (congrArg _ (w4 fun x31 x30 x29 x8 h=>sn (epauP ..))) (by kernel_rfl)))) (by kernel_rfl)))) (by kernel_rfl) : _=paeP C h x8 x29 x30 x31 (X1 K 2 8) (N4 K 30 31 29 8))
noncomputable def pamI (C : CF) (L : Nat) {β : Type} (kx2 : K1 β) : Nat → K4 β
 | 0,_,_,_,_,_ => none
 | n + 1,x30,x31,x29,x8,h => paeP C h x8 x29 x30 x31 kx2 (fun x30 x31 x29 x8 h=>pamI C L kx2 n x30 x31 x29 x8 h)
theorem epamI (C : CF) (L : Nat) {β : Type} (K : KK β) : ∀ (n : Nat) (x30 x31 x29 x8 : V) (h : H),loopK (fun fr h K=>execK prog C L 4 59 [2,3] (g c75a 500) [30,31,29,8] [(2,[8])] fr h K) n (r4 30 31 29 8 x30 x31 x29 x8) h K=pamI C L (X1 K 2 8) n x30 x31 x29 x8 h
 | 0,_,_,_,_,_ => rfl
 | n + 1,x30,x31,x29,x8,h => (cg (epaeP C L h _ x8 x29 x30 x31) (by kernel_rfl)).trans (congrArg _ (w4 fun x30 x31 x29 x8 h=>sl (epamI C L K n x30 x31 x29 x8 h)))
noncomputable def padU (kx2 : K1 β) : O β :=
 pamI C L kx2 L x30 x31 x29 x8 h
def epadU:=(lp [8] (r4 30 31 29 8 x30 x31 x29 x8) (epamI C L K L x30 x31 x29 x8 h) (by kernel_rfl) : _=padU C L h x8 x29 x30 x31 (X1 K 2 8))
noncomputable def padJ (kn : K1 β) : O β :=
 pauJ h x0 x8 (fun x30 x31 x29 x8 h=>padU C L h x8 x29 x30 x31 kn)
def epadJ:=(sq K (epauJ C L h _ x0 x8) (congrArg _ (w4 fun x30 x31 x29 x8 h=>sn (bk (epadU ..)))) (by kernel_rfl) : _=padJ C L h x0 x8 (N1 K 8))
noncomputable def pauQ (kr : K2 β) : O β :=
 bnd (A.b2s x8 h) fun b =>
 kr b (.int .i64 0) h
theorem epauQ : E75 C L h K 63 [2,3] [] (r1 8 x8)=pauQ h x8 (R2 K 2 3) := by kernel_rfl
noncomputable def p75a (kr : K2 β) : O β :=
 pauE h x0 (fun x0 h=>pauF h x0 (fun x4 x0 h=>pafR C L h x0 x4 kr (fun x4 x0 h=>pauI h x0 x4 (fun x0 x8 h=>padJ C L h x0 x8 (fun x8 h=>pauQ h x8 kr)))))
def ep75a:=(sq K (epauE C L h _ x0) (congrArg _ (w1 fun x0 h=>sn (sq K (epauF C L h _ x0) (congrArg _ (w2 fun x4 x0 h=>sn (sq K (epafR C L h _ x0 x4) (congrArg _ (w2 fun x4 x0 h=>sn (sq K (epauI C L h _ x0 x4) (congrArg _ (w2 fun x0 x8 h=>sn (sq K (epadJ C L h _ x0 x8) (congrArg _ (w1 fun x8 h=>sn (epauQ ..))) (by kernel_rfl)))) (by kernel_rfl)))) (by kernel_rfl)))) (by kernel_rfl)))) (by kernel_rfl) : _=p75a C L h x0 (R2 K 2 3))
noncomputable def F75 (C : CF) (L : Nat) (x0 : V) (h : H) : O (V × H) :=
 p75a C L h x0 (fun x2 x3 h=>some (.tuple ⟨[x2,x3]⟩,h))
theorem F75eq (Q : Orc) (n : Nat) (x0 : V) (h : H) (q : Q 75 [x0]=none) : callO prog 4 Q (n + 1) 75 [x0] h=F75 (callO prog 4 Q n) n x0 h :=
 (tp q Tryz.func75 (ep75a (callO prog 4 Q n) n h _ x0) (by kernel_rfl)).trans (by kernel_rfl)
noncomputable def c97a : Code := (Tryz.f97.body).getD .skip
noncomputable abbrev E97 (C : CF) (L : Nat) {β : Type} (h : H) (K : KK β) (n : Nat) (o : List Nat) (v : List (Nat × List Nat)) (r : T Value) : O β := execK prog C L 4 13 [2] (g c97a n) o v r h K
noncomputable def p97a (kr : K1 β) : O β :=
 bnd2 (A.box 24 x0 h) fun a b =>
 bnd (A.load true 24 a b) fun d =>
 bnd2 (C 36 [d] b) fun e f =>
 bnd (A.bin prog .lss 3 e (.int .i64 0)) fun k =>
 toBK k fun l =>
 (bif l then
 kr (.int .i64 0) f
 else
 bnd2 (C 126 [e] f) fun o p =>
 bnd (A.bin prog .add 3 (.int .i64 1) o) fun q =>
 bnd (A.bin prog .add 3 q e) fun s =>
 kr s p)
theorem ep97a : E97 C L h K 1 [2] [] (r1 0 x0)=p97a C h x0 (R1 K 2) := by kernel_rfl
noncomputable def F97 (C : CF) (L : Nat) (x0 : V) (h : H) : O (V × H) :=
 p97a C h x0 (fun x2 h=>some (x2,h))
theorem F97eq (Q : Orc) (n : Nat) (x0 : V) (h : H) (q : Q 97 [x0]=none) : callO prog 4 Q (n + 1) 97 [x0] h=F97 (callO prog 4 Q n) n x0 h :=
 (tp q Tryz.func97 (ep97a (callO prog 4 Q n) n h _ x0) (by kernel_rfl)).trans (by kernel_rfl)
noncomputable def c99a : Code := (Tryz.f99.body).getD .skip
noncomputable abbrev E99 (C : CF) (L : Nat) {β : Type} (h : H) (K : KK β) (n : Nat) (o : List Nat) (v : List (Nat × List Nat)) (r : T Value) : O β := execK prog C L 4 22 [2] (g c99a n) o v r h K
noncomputable def pakS (kn : K1 β) : O β :=
 bnd2 (A.box 24 x0 h) fun a b =>
 kn a b
theorem epakS : E99 C L h K 2 [1] [] (r1 0 x0)=pakS h x0 (N1 K 1) := by kernel_rfl
noncomputable def pakT (kn : K2 β) : O β :=
 bnd (A.fieldAddr 0 x1) fun a =>
 bnd (A.load false 1 a h) fun b =>
 kn x1 b h
theorem epakT : E99 C L h K 12 [1,4] [] (r1 1 x1)=pakT h x1 (N2 K 1 4) := by kernel_rfl
noncomputable def pakU (kn : K3 β) : O β :=
 bnd (A.bin prog .eql 5 x4 (.int .u8 3)) fun a =>
 toBK a fun b =>
 kn (.bool b) x1 x4 h
theorem epakU : E99 C L h K 52 [5,1,4] [(0,[])] (r2 1 4 x1 x4)=pakU h x1 x4 (N3 K 5 1 4) := by kernel_rfl
noncomputable def pavA (kr : K1 β) : O β :=
 bnd (A.fieldAddr 1 x1) fun a =>
 bnd (A.load false 1 a h) fun b =>
 toBK b fun c =>
 bnd2 (C 127 [(.bool c),(.int .u64 3)] h) fun d e =>
 bnd (A.fieldAddr 2 x1) fun f =>
 bnd (A.load false 1 f e) fun i =>
 bif (chk (bnd (A.load false 1 f h) fun v => some v) i && true) then
 bnd (A.bin prog .shl 5 i (.int .u64 1)) fun j =>
 bnd (A.bin prog .or 5 d j) fun k =>
 bnd (A.fieldAddr 3 x1) fun l =>
 bnd (A.load false 1 l e) fun m =>
 toBK m fun n =>
 bif (chk (bnd (A.load false 1 l h) fun v => some v) (.bool n) && true) then
 bnd2 (C 127 [(.bool n),(.int .u64 0)] e) fun o p =>
 bif (chk (bnd (A.load false 1 f p) fun v => some v) i && true) then
 bnd (A.bin prog .or 5 k o) fun q =>
 kr q p
 else none
 else none
 else none
theorem epavA : E99 C L h K 106 [] [(0,[])] (r3 5 1 4 x5 x1 x4)=pavA C h x1 (R1 K 2) := by kernel_rfl
noncomputable def pamP (kn : K1 β) : O β :=
 bnd (A.bin prog .eql 5 x4 (.int .u8 6)) fun a =>
 toBK a fun b =>
 (bif b then
 kn (.bool b) h
 else
 bnd (A.bin prog .eql 5 x4 (.int .u8 8)) fun d =>
 toBK d fun e =>
 (bif e then
 kn (.bool e) h
 else
 bnd (A.bin prog .eql 5 x4 (.int .u8 10)) fun i =>
 toBK i fun j =>
 kn (.bool j) h))
theorem epamP : E99 C L h K 214 [18] [(0,[])] (r3 5 1 4 x5 x1 x4)=pamP h x4 (N1 K 18) := by kernel_rfl
noncomputable def pamQ (kr : K1 β) (kn : K0 β) : O β :=
 condV x18 (
 kr (.int .u8 2) h) (
 kn h)
theorem epamQ : E99 C L h K 215 [] [(0,[])] (r1 18 x18)=pamQ h x18 (R1 K 2) (N0 K) := by kernel_rfl
noncomputable def pagO (kr : K1 β) (kn : K0 β) : O β :=
 pamP h x4 (fun x18 h=>pamQ h x18 kr kn)
def epagO:=(sq K (epamP C L h _ x1 x4 x5) (congrArg _ (w1 fun x18 h=>sn (epamQ ..))) (by kernel_rfl) : _=pagO h x4 (R1 K 2) (N0 K))
noncomputable def paeZ (kr : K1 β) (kn : K0 β) : O β :=
 condV x5 (pavA C h x1 kr) (pagO h x4 kr kn)
def epaeZ:=(cd K (.tmp 5) x5 (epavA C L h K x1 x4 x5) (epagO C L h K x1 x4 x5) (by kernel_rfl) : _=paeZ C h x1 x4 x5 (R1 K 2) (N0 K))
noncomputable def padV (kr : K1 β) (kn : K0 β) : O β :=
 pakU h x1 x4 (fun x5 x1 x4 h=>paeZ C h x1 x4 x5 kr kn)
def epadV:=(sq K (epakU C L h _ x1 x4) (congrArg _ (w3 fun x5 x1 x4 h=>sn (epaeZ ..))) (by kernel_rfl) : _=padV C h x1 x4 (R1 K 2) (N0 K))
noncomputable def padB (kr : K1 β) (kn : K0 β) : O β :=
 pakT h x1 (fun x1 x4 h=>padV C h x1 x4 kr kn)
def epadB:=(sq K (epakT C L h _ x1) (congrArg _ (w2 fun x1 x4 h=>sn (bk (epadV ..)))) (by kernel_rfl) : _=padB C h x1 (R1 K 2) (N0 K))
noncomputable def pavB (kr : K1 β) : O β :=
 kr (.int .u8 0) h
theorem epavB : E99 C L h K 7 [2] [] r0=pavB h (R1 K 2) := by kernel_rfl
noncomputable def p99a (kr : K1 β) : O β :=
 pakS h x0 (fun x1 h=>padB C h x1 kr (fun h=>pavB h kr))
def ep99a:=(sq K (epakS C L h _ x0) (congrArg _ (w1 fun x1 h=>sn (sq K (epadB C L h _ x1) (congrArg _ (w0 fun h=>sn (epavB ..))) (by kernel_rfl)))) (by kernel_rfl) : _=p99a C h x0 (R1 K 2))
noncomputable def F99 (C : CF) (L : Nat) (x0 : V) (h : H) : O (V × H) :=
 p99a C h x0 (fun x2 h=>some (x2,h))
theorem F99eq (Q : Orc) (n : Nat) (x0 : V) (h : H) (q : Q 99 [x0]=none) : callO prog 4 Q (n + 1) 99 [x0] h=F99 (callO prog 4 Q n) n x0 h :=
 (tp q Tryz.func99 (ep99a (callO prog 4 Q n) n h _ x0) (by kernel_rfl)).trans (by kernel_rfl)
noncomputable def c100a : Code := (Tryz.f100.body).getD .skip
noncomputable abbrev E100 (C : CF) (L : Nat) {β : Type} (h : H) (K : KK β) (n : Nat) (o : List Nat) (v : List (Nat × List Nat)) (r : T Value) : O β := execK prog C L 4 65 [4] (g c100a n) o v r h K
noncomputable def panZ (kn : K2 β) : O β :=
 bnd2 (A.box 24 x1 h) fun a b =>
 kn x0 a b
theorem epanZ : E100 C L h K 2 [0,3] [] (r2 0 1 x0 x1)=panZ h x0 x1 (N2 K 0 3) := by kernel_rfl
noncomputable def pamR (kn : K3 β) : O β :=
 bnd (A.fieldAddr 0 x3) fun a =>
 bnd (A.load false 1 a h) fun b =>
 kn b x0 x3 h
theorem epamR : E100 C L h K 12 [8,0,3] [] (r2 0 3 x0 x3)=pamR h x0 x3 (N3 K 8 0 3) := by kernel_rfl
noncomputable def pamS (kn : K4 β) : O β :=
 bnd (A.bin prog .eql 5 x8 (.int .u8 1)) fun a =>
 toBK a fun b =>
 kn (.bool b) x8 x0 x3 h
theorem epamS : E100 C L h K 52 [9,8,0,3] [(0,[0,3])] (r3 8 0 3 x8 x0 x3)=pamS h x0 x3 x8 (N4 K 9 8 0 3) := by kernel_rfl
noncomputable def paqT (kr : K1 β) : O β :=
 bnd (A.load true 24 x3 h) fun b =>
 bnd2 (C 128 [x0,b] h) fun c d =>
 kr c d
theorem epaqT : E100 C L h K 106 [0,3] [(0,[0,3])] (r4 9 8 0 3 x9 x8 x0 x3)=paqT C h x0 x3 (R1 K 4) := by kernel_rfl
noncomputable def paoA (kr : K1 β) (kn : K2 β) : O β :=
 bnd (A.bin prog .eql 5 x8 (.int .u8 2)) fun a =>
 toBK a fun b =>
 (bif b then
 bnd (A.fieldAddr 20 x3) fun e =>
 bnd (A.load false 1 e h) fun f =>
 toBK f fun i =>
 bnd2 (C 127 [(.bool i),(.int .u64 0)] h) fun j k =>
 bnd (A.fieldAddr 21 x3) fun l =>
 bnd (A.load false 1 l k) fun m =>
 bif (chk (bnd (A.load false 1 l h) fun v => some v) m && true) then
 bnd2 (A.buildSlice 1 2 Z5L [(0,1,j),(1,1,m)] k) fun n o =>
 bnd2 (A.append 1 1 x0 n o) fun p q =>
 kr p q
 else none
 else
 bnd (A.bin prog .eql 5 x8 (.int .u8 3)) fun s =>
 toBK s fun t =>
 (bif t then
 bnd (A.fieldAddr 5 x3) fun w =>
 bnd (A.load false 1 w h) fun y =>
 bnd2 (C 129 [x0,y] h) fun z a1 =>
 kn z x3 a1
 else
 kn x0 x3 h))
theorem epaoA : E100 C L h K 107 [0,3] [(0,[0,3])] (r4 9 8 0 3 x9 x8 x0 x3)=paoA C h x0 x3 x8 (R1 K 4) (N2 K 0 3) := by kernel_rfl
noncomputable def pahF (kr : K1 β) (kn : K2 β) : O β :=
 condV x9 (paqT C h x0 x3 kr) (paoA C h x0 x3 x8 kr kn)
def epahF:=(cd K (.tmp 9) x9 (epaqT C L h K x0 x3 x8 x9) (epaoA C L h K x0 x3 x8 x9) (by kernel_rfl) : _=pahF C h x0 x3 x8 x9 (R1 K 4) (N2 K 0 3))
noncomputable def pafJ (kr : K1 β) (kn : K2 β) : O β :=
 pamS h x0 x3 x8 (fun x9 x8 x0 x3 h=>pahF C h x0 x3 x8 x9 kr kn)
def epafJ:=(sq K (epamS C L h _ x0 x3 x8) (congrArg _ (w4 fun x9 x8 x0 x3 h=>sn (epahF ..))) (by kernel_rfl) : _=pafJ C h x0 x3 x8 (R1 K 4) (N2 K 0 3))
noncomputable def paeG (C : CF) (L : Nat) {β : Type} (x0 x3 : V) (h : H) (kr : K1 β) (kn : K2 β) : O β :=
 pamR h x0 x3 (fun x8 x0 x3 h=>pafJ C h x0 x3 x8 kr kn)
def epaeG:=(sq K (epamR C L h _ x0 x3) (congrArg _ (w3 fun x8 x0 x3 h=>sn (bk (epafJ ..)))) (by kernel_rfl) : _=paeG C L x0 x3 h (R1 K 4) (N2 K 0 3))
noncomputable def pamT (C : CF) (L : Nat) {β : Type} (x0 x3 : V) (h : H) (kn : K2 β) : O β :=
 bnd (A.fieldAddr 4 x3) fun a =>
 bnd (A.load false 1 a h) fun b =>
 bnd (A.bin prog .gtr 34 b (.int .u16 0)) fun c =>
 toBK c fun d =>
 (bif d then
 bnd (A.fieldAddr 4 x3) fun f =>
 bnd (A.load false 1 f h) fun i =>
 bnd2 (C 130 [x0,i] h) fun j k =>
 kn j x3 k
 else
 kn x0 x3 h)
theorem epamT : E100 C L h K 14 [0,3] [] (r2 0 3 x0 x3)=pamT C L x0 x3 h (N2 K 0 3) := by kernel_rfl
noncomputable def paqU (kn : K5 β) : O β :=
 bnd (A.fieldAddr 22 x3) fun a =>
 bnd (A.load false 1 a h) fun b =>
 bnd (A.lenS b) fun c =>
 kn c (.int .i64 0) b x0 x3 h
theorem epaqU : E100 C L h K 60 [39,40,38,0,3] [] (r2 0 3 x0 x3)=paqU h x0 x3 (N5 K 39 40 38 0 3) := by kernel_rfl
noncomputable def pamU (kx1 : K2 β) (kn : K5 β) : O β :=
 bnd (A.bin prog .lss 3 x40 x39) fun a =>
 condV a (
 bnd (A.idxS 2 x38 x40) fun b =>
 bnd (A.load true 2 b h) fun c =>
 bnd2 (A.box 2 Z120 h) fun d e =>
 bnd (A.store 2 d c e) fun i =>
 bnd (A.fieldAddr 0 d) fun k =>
 bnd (A.load false 1 k i) fun l =>
 bnd2 (C 129 [x0,l] i) fun m n =>
 bnd (A.fieldAddr 0 x3) fun p =>
 bnd (A.load false 1 p n) fun q =>
 bnd (A.bin prog .eql 5 q (.int .u8 8)) fun r =>
 toBK r fun s =>
 (bif s then
 bnd (A.fieldAddr 1 d) fun u =>
 bnd (A.load false 1 u n) fun v =>
 bnd2 (A.buildSlice 1 1 Z5L [(0,1,v)] n) fun w y =>
 bnd2 (A.append 1 1 m w y) fun z a1 =>
 bnd (A.bin prog .add 3 x40 (.int .i64 1)) fun c1 =>
 kn x39 c1 x38 z x3 a1
 else
 bnd (A.bin prog .add 3 x40 (.int .i64 1)) fun e1 =>
 kn x39 e1 x38 m x3 n)) (
 kx1 x0 x3 h)
theorem epamU : E100 C L h K 244 [39,40,38,0,3] [(1,[0,3])] (r5 39 40 38 0 3 x39 x40 x38 x0 x3)=pamU C h x0 x3 x38 x39 x40 (X2 K 1 0 3) (N5 K 39 40 38 0 3) := by kernel_rfl
noncomputable def pajJ (C : CF) (L : Nat) {β : Type} (kx1 : K2 β) : Nat → K5 β
 | 0,_,_,_,_,_,_ => none
 | n + 1,x39,x40,x38,x0,x3,h => pamU C h x0 x3 x38 x39 x40 kx1 (fun x39 x40 x38 x0 x3 h=>pajJ C L kx1 n x39 x40 x38 x0 x3 h)
theorem epajJ (C : CF) (L : Nat) {β : Type} (K : KK β) : ∀ (n : Nat) (x39 x40 x38 x0 x3 : V) (h : H),loopK (fun fr h K=>execK prog C L 4 65 [4] (g c100a 244) [39,40,38,0,3] [(1,[0,3])] fr h K) n (r5 39 40 38 0 3 x39 x40 x38 x0 x3) h K=pajJ C L (X2 K 1 0 3) n x39 x40 x38 x0 x3 h
 | 0,_,_,_,_,_,_ => rfl
 | n + 1,x39,x40,x38,x0,x3,h => (cg (epamU C L h _ x0 x3 x38 x39 x40) (by kernel_rfl)).trans (congrArg _ (w5 fun x39 x40 x38 x0 x3 h=>sl (epajJ C L K n x39 x40 x38 x0 x3 h)))
noncomputable def pagW (kx1 : K2 β) : O β :=
 pajJ C L kx1 L x39 x40 x38 x0 x3 h
def epagW:=(lp [0,3] (r5 39 40 38 0 3 x39 x40 x38 x0 x3) (epajJ C L K L x39 x40 x38 x0 x3 h) (by kernel_rfl) : _=pagW C L h x0 x3 x38 x39 x40 (X2 K 1 0 3))
noncomputable def pafK (kn : K2 β) : O β :=
 paqU h x0 x3 (fun x39 x40 x38 x0 x3 h=>pagW C L h x0 x3 x38 x39 x40 kn)
def epafK:=(sq K (epaqU C L h _ x0 x3) (congrArg _ (w5 fun x39 x40 x38 x0 x3 h=>sn (bk (epagW ..)))) (by kernel_rfl) : _=pafK C L h x0 x3 (N2 K 0 3))
noncomputable def paoB (C : CF) (L : Nat) {β : Type} (x0 x3 : V) (h : H) (kr : K1 β) : O β :=
 bnd (A.fieldAddr 23 x3) fun b =>
 bnd (A.load false 1 b h) fun c =>
 bnd2 (A.append 1 1 x0 c h) fun d e =>
 bnd (A.fieldAddr 6 x3) fun j =>
 bnd (A.load false 1 j e) fun k =>
 bnd2 (A.append 1 1 d k e) fun l m =>
 kr l m
theorem epaoB : E100 C L h K 31 [4] [] (r2 0 3 x0 x3)=paoB C L x0 x3 h (R1 K 4) := by kernel_rfl
noncomputable def padY (C : CF) (L : Nat) {β : Type} (x0 x3 : V) (h : H) (kr : K1 β) : O β :=
 pamT C L x0 x3 h (fun x0 x3 h=>pafK C L h x0 x3 (fun x0 x3 h=>paoB C L x0 x3 h kr))
def epadY:=(sq K (epamT C L h _ x0 x3) (congrArg _ (w2 fun x0 x3 h=>sn (sq K (epafK C L h _ x0 x3) (congrArg _ (w2 fun x0 x3 h=>sn (epaoB ..))) (by kernel_rfl)))) (by kernel_rfl) : _=padY C L x0 x3 h (R1 K 4))
noncomputable def p100a (kr : K1 β) : O β :=
 panZ h x0 x1 (fun x0 x3 h=>paeG C L x0 x3 h kr (fun x0 x3 h=>padY C L x0 x3 h kr))
def ep100a:=(sq K (epanZ C L h _ x0 x1) (congrArg _ (w2 fun x0 x3 h=>sn (sq K (epaeG C L h _ x0 x3) (congrArg _ (w2 fun x0 x3 h=>sn (epadY ..))) (by kernel_rfl)))) (by kernel_rfl) : _=p100a C L h x0 x1 (R1 K 4))
noncomputable def F100 (C : CF) (L : Nat) (x0 x1 : V) (h : H) : O (V × H) :=
 p100a C L h x0 x1 (fun x4 h=>some (x4,h))
theorem F100eq (Q : Orc) (n : Nat) (x0 x1 : V) (h : H) (q : Q 100 [x0,x1]=none) : callO prog 4 Q (n + 1) 100 [x0,x1] h=F100 (callO prog 4 Q n) n x0 x1 h :=
 (tp q Tryz.func100 (ep100a (callO prog 4 Q n) n h _ x0 x1) (by kernel_rfl)).trans (by kernel_rfl)
noncomputable def c127a : Code := (Tryz.f127.body).getD .skip
noncomputable abbrev E127 (C : CF) (L : Nat) {β : Type} (h : H) (K : KK β) (n : Nat) (o : List Nat) (v : List (Nat × List Nat)) (r : T Value) : O β := execK prog C L 4 8 [4] (g c127a n) o v r h K
noncomputable def p127a (kr : K1 β) : O β :=
 toBK x0 fun c =>
 (bif c then
 bnd (A.bin prog .shl 5 (.int .u8 1) x1) fun e =>
 kr e h
 else
 kr (.int .u8 0) h)
theorem ep127a : E127 C L h K 1 [4] [] (r2 0 1 x0 x1)=p127a h x0 x1 (R1 K 4) := by kernel_rfl
noncomputable def F127 (C : CF) (L : Nat) (x0 x1 : V) (h : H) : O (V × H) :=
 p127a h x0 x1 (fun x4 h=>some (x4,h))
theorem F127eq (Q : Orc) (n : Nat) (x0 x1 : V) (h : H) (q : Q 127 [x0,x1]=none) : callO prog 4 Q (n + 1) 127 [x0,x1] h=F127 (callO prog 4 Q n) n x0 x1 h :=
 (tp q Tryz.func127 (ep127a (callO prog 4 Q n) n h _ x0 x1) (by kernel_rfl)).trans (by kernel_rfl)
noncomputable def c128a : Code := (Tryz.f128.body).getD .skip
noncomputable abbrev E128 (C : CF) (L : Nat) {β : Type} (h : H) (K : KK β) (n : Nat) (o : List Nat) (v : List (Nat × List Nat)) (r : T Value) : O β := execK prog C L 4 68 [4] (g c128a n) o v r h K
noncomputable def paoD (kn : K2 β) : O β :=
 bnd2 (A.box 24 x1 h) fun a b =>
 kn x0 a b
theorem epaoD : E128 C L h K 2 [0,3] [] (r2 0 1 x0 x1)=paoD h x0 x1 (N2 K 0 3) := by kernel_rfl
noncomputable def paoE (kn : K2 β) : O β :=
 bnd2 (C 129 [x0,(.string ⟨⟨[77,81,84,84]⟩⟩)] h) fun b c =>
 kn b x3 c
theorem epaoE : E128 C L h K 6 [0,3] [] (r2 0 3 x0 x3)=paoE C h x0 x3 (N2 K 0 3) := by kernel_rfl
noncomputable def paoF (kn : K2 β) : O β :=
 bnd (A.fieldAddr 7 x3) fun b =>
 bnd (A.load false 1 b h) fun c =>
 bnd (A.fieldAddr 16 x3) fun d =>
 bnd (A.load false 1 d h) fun e =>
 toBK e fun f =>
 bnd2 (C 127 [(.bool f),(.int .u64 7)] h) fun i j =>
 bif (chk (bnd (A.load false 1 b j) fun v => some v) c && true) then
 bnd (A.fieldAddr 17 x3) fun k =>
 bnd (A.load false 1 k j) fun l =>
 toBK l fun m =>
 bif (chk (bnd (A.load false 1 k h) fun v => some v) (.bool m) && true) then
 bnd2 (C 127 [(.bool m),(.int .u64 6)] j) fun n o =>
 bif (chk (bnd (A.load false 1 b o) fun v => some v) c && true) then
 bnd (A.bin prog .or 5 i n) fun p =>
 bnd (A.fieldAddr 12 x3) fun q =>
 bnd (A.fieldAddr 3 q) fun r =>
 bnd (A.load false 1 r o) fun s =>
 toBK s fun t =>
 bif (chk (bnd (A.load false 1 r j) fun v => some v) (.bool t) && (chk (bnd (A.load false 1 r h) fun v => some v) (.bool t) && true)) then
 bnd2 (C 127 [(.bool t),(.int .u64 5)] o) fun u v =>
 bif (chk (bnd (A.load false 1 b v) fun v => some v) c && true) then
 bnd (A.bin prog .or 5 p u) fun w =>
 bnd (A.fieldAddr 12 x3) fun y =>
 bnd (A.fieldAddr 2 y) fun z =>
 bnd (A.load false 1 z v) fun a1 =>
 bif (chk (bnd (A.load false 1 z o) fun v => some v) a1 && (chk (bnd (A.load false 1 z j) fun v => some v) a1 && (chk (bnd (A.load false 1 z h) fun v => some v) a1 && true))) then
 bnd (A.bin prog .shl 5 a1 (.int .u64 3)) fun b1 =>
 bnd (A.bin prog .or 5 w b1) fun c1 =>
 bnd (A.fieldAddr 11 x3) fun d1 =>
 bnd (A.load false 1 d1 v) fun e1 =>
 toBK e1 fun f1 =>
 bif (chk (bnd (A.load false 1 d1 o) fun v => some v) (.bool f1) && (chk (bnd (A.load false 1 d1 j) fun v => some v) (.bool f1) && (chk (bnd (A.load false 1 d1 h) fun v => some v) (.bool f1) && true))) then
 bnd2 (C 127 [(.bool f1),(.int .u64 2)] v) fun i1 j1 =>
 bif (chk (bnd (A.load false 1 z j1) fun v => some v) a1 && (chk (bnd (A.load false 1 b j1) fun v => some v) c && true)) then
 bnd (A.bin prog .or 5 c1 i1) fun k1 =>
 bnd (A.fieldAddr 8 x3) fun l1 =>
 bnd (A.load false 1 l1 j1) fun m1 =>
 toBK m1 fun n1 =>
 bif (chk (bnd (A.load false 1 l1 v) fun v => some v) (.bool n1) && (chk (bnd (A.load false 1 l1 o) fun v => some v) (.bool n1) && (chk (bnd (A.load false 1 l1 j) fun v => some v) (.bool n1) && (chk (bnd (A.load false 1 l1 h) fun v => some v) (.bool n1) && true)))) then
 bnd2 (C 127 [(.bool n1),(.int .u64 1)] j1) fun o1 p1 =>
 bif (chk (bnd (A.load false 1 z p1) fun v => some v) a1 && (chk (bnd (A.load false 1 b p1) fun v => some v) c && true)) then
 bnd (A.bin prog .or 5 k1 o1) fun q1 =>
 bnd2 (A.buildSlice 1 2 Z5L [(0,1,c),(1,1,q1)] p1) fun r1 s1 =>
 bnd2 (A.append 1 1 x0 r1 s1) fun t1 u1 =>
 kn t1 x3 u1
 else none
 else none
 else none
 else none
 else none
 else none
 else none
 else none
 else none
 else none
theorem epaoF : E128 C L h K 14 [0,3] [] (r2 0 3 x0 x3)=paoF C h x0 x3 (N2 K 0 3) := by kernel_rfl
noncomputable def paoG (kn : K2 β) : O β :=
 bnd (A.fieldAddr 9 x3) fun b =>
 bnd (A.load false 1 b h) fun c =>
 bnd2 (C 130 [x0,c] h) fun d e =>
 bnd (A.fieldAddr 10 x3) fun f =>
 bnd (A.load false 1 f e) fun i =>
 bif (chk (bnd (A.load false 1 f h) fun v => some v) i && true) then
 bnd2 (C 129 [d,i] e) fun j k =>
 kn x3 j k
 else none
theorem epaoG : E128 C L h K 30 [3,0] [] (r2 0 3 x0 x3)=paoG C h x0 x3 (N2 K 3 0) := by kernel_rfl
noncomputable def paoH (kn : K2 β) : O β :=
 bnd (A.fieldAddr 11 x3) fun a =>
 bnd (A.load false 1 a h) fun b =>
 toBK b fun c =>
 (bif c then
 bnd (A.fieldAddr 12 x3) fun e =>
 bnd (A.fieldAddr 0 e) fun f =>
 bnd (A.load false 1 f h) fun i =>
 bnd2 (C 129 [x0,i] h) fun j k =>
 bnd (A.fieldAddr 12 x3) fun l =>
 bnd (A.fieldAddr 1 l) fun m =>
 bnd (A.load false 1 m k) fun n =>
 bif (chk (bnd (A.load false 1 m h) fun v => some v) n && true) then
 bnd2 (C 129 [j,n] k) fun o p =>
 kn x3 o p
 else none
 else
 kn x3 x0 h)
theorem epaoH : E128 C L h K 62 [3,0] [] (r2 3 0 x3 x0)=paoH C h x0 x3 (N2 K 3 0) := by kernel_rfl
noncomputable def paoI (kr : K1 β) : O β :=
 bnd (A.fieldAddr 16 x3) fun a =>
 bnd (A.load false 1 a h) fun b =>
 toBK b fun c =>
 (bif c then
 bnd (A.fieldAddr 18 x3) fun e =>
 bnd (A.load false 1 e h) fun f =>
 bnd2 (C 129 [x0,f] h) fun i j =>
 bnd (A.fieldAddr 17 x3) fun l =>
 bnd (A.load false 1 l j) fun m =>
 toBK m fun n =>
 (bif n then
 bnd (A.fieldAddr 19 x3) fun p =>
 bnd (A.load false 1 p j) fun q =>
 bnd2 (C 129 [i,q] j) fun r s =>
 kr r s
 else
 kr i j)
 else
 bnd (A.fieldAddr 17 x3) fun z =>
 bnd (A.load false 1 z h) fun a1 =>
 toBK a1 fun b1 =>
 (bif b1 then
 bnd (A.fieldAddr 19 x3) fun d1 =>
 bnd (A.load false 1 d1 h) fun e1 =>
 bnd2 (C 129 [x0,e1] h) fun f1 i1 =>
 kr f1 i1
 else
 kr x0 h))
theorem epaoI : E128 C L h K 63 [4] [] (r2 3 0 x3 x0)=paoI C h x0 x3 (R1 K 4) := by kernel_rfl
noncomputable def p128a (kr : K1 β) : O β :=
 paoD h x0 x1 (fun x0 x3 h=>paoE C h x0 x3 (fun x0 x3 h=>paoF C h x0 x3 (fun x0 x3 h=>paoG C h x0 x3 (fun x3 x0 h=>paoH C h x0 x3 (fun x3 x0 h=>paoI C h x0 x3 kr)))))
def ep128a:=(sq K (epaoD C L h _ x0 x1) (congrArg _ (w2 fun x0 x3 h=>sn (sq K (epaoE C L h _ x0 x3) (congrArg _ (w2 fun x0 x3 h=>sn (sq K (epaoF C L h _ x0 x3) (congrArg _ (w2 fun x0 x3 h=>sn (sq K (epaoG C L h _ x0 x3) (congrArg _ (w2 fun x3 x0 h=>sn (sq K (epaoH C L h _ x0 x3) (congrArg _ (w2 fun x3 x0 h=>sn (epaoI ..))) (by kernel_rfl)))) (by kernel_rfl)))) (by kernel_rfl)))) (by kernel_rfl)))) (by kernel_rfl) : _=p128a C h x0 x1 (R1 K 4))
noncomputable def F128 (C : CF) (L : Nat) (x0 x1 : V) (h : H) : O (V × H) :=
 p128a C h x0 x1 (fun x4 h=>some (x4,h))
theorem F128eq (Q : Orc) (n : Nat) (x0 x1 : V) (h : H) (q : Q 128 [x0,x1]=none) : callO prog 4 Q (n + 1) 128 [x0,x1] h=F128 (callO prog 4 Q n) n x0 x1 h :=
 (tp q Tryz.func128 (ep128a (callO prog 4 Q n) n h _ x0 x1) (by kernel_rfl)).trans (by kernel_rfl)
noncomputable def c129a : Code := (Tryz.f129.body).getD .skip
noncomputable abbrev E129 (C : CF) (L : Nat) {β : Type} (h : H) (K : KK β) (n : Nat) (o : List Nat) (v : List (Nat × List Nat)) (r : T Value) : O β := execK prog C L 4 15 [4] (g c129a n) o v r h K
noncomputable def p129a (kr : K1 β) : O β :=
 bnd2 (C 157 [x1] h) fun c d =>
 bnd (A.extract 0 c) fun f =>
 bnd (A.extract 1 c) fun i =>
 bnd2 (A.append 1 1 x0 f d) fun n o =>
 kr n o
theorem ep129a : E129 C L h K 1 [4] [] (r2 0 1 x0 x1)=p129a C h x0 x1 (R1 K 4) := by kernel_rfl
noncomputable def F129 (C : CF) (L : Nat) (x0 x1 : V) (h : H) : O (V × H) :=
 p129a C h x0 x1 (fun x4 h=>some (x4,h))
theorem F129eq (Q : Orc) (n : Nat) (x0 x1 : V) (h : H) (q : Q 129 [x0,x1]=none) : callO prog 4 Q (n + 1) 129 [x0,x1] h=F129 (callO prog 4 Q n) n x0 x1 h :=
 (tp q Tryz.func129 (ep129a (callO prog 4 Q n) n h _ x0 x1) (by kernel_rfl)).trans (by kernel_rfl)
noncomputable def c130a : Code := (Tryz.f130.body).getD .skip
noncomputable abbrev E130 (C : CF) (L : Nat) {β : Type} (h : H) (K : KK β) (n : Nat) (o : List Nat) (v : List (Nat × List Nat)) (r : T Value) : O β := execK prog C L 4 17 [4] (g c130a n) o v r h K
noncomputable def p130a (kr : K1 β) : O β :=
 bnd (A.conv prog 34 3 x1) fun c =>
 bnd2 (A.buildSlice 1 1 Z3L [(0,1,c)] h) fun d e =>
 bnd2 (C 158 [d] e) fun f i =>
 bnd (A.extract 0 f) fun k =>
 bnd (A.extract 1 f) fun l =>
 bnd2 (A.append 1 1 x0 k i) fun q r =>
 kr q r
theorem ep130a : E130 C L h K 1 [4] [] (r2 0 1 x0 x1)=p130a C h x0 x1 (R1 K 4) := by kernel_rfl
noncomputable def F130 (C : CF) (L : Nat) (x0 x1 : V) (h : H) : O (V × H) :=
 p130a C h x0 x1 (fun x4 h=>some (x4,h))
theorem F130eq (Q : Orc) (n : Nat) (x0 x1 : V) (h : H) (q : Q 130 [x0,x1]=none) : callO prog 4 Q (n + 1) 130 [x0,x1] h=F130 (callO prog 4 Q n) n x0 x1 h :=
 (tp q Tryz.func130 (ep130a (callO prog 4 Q n) n h _ x0 x1) (by kernel_rfl)).trans (by kernel_rfl)
noncomputable def c158a : Code := (Tryz.f158.body).getD .skip
noncomputable abbrev E158 (C : CF) (L : Nat) {β : Type} (h : H) (K : KK β) (n : Nat) (o : List Nat) (v : List (Nat × List Nat)) (r : T Value) : O β := execK prog C L 4 34 [2,3] (g c158a n) o v r h K
noncomputable def parP (kn : K1 β) : O β :=
 kn x0 h
theorem eparP : E158 C L h K 2 [0] [] (r1 0 x0)=parP h x0 (N1 K 0) := by kernel_rfl
noncomputable def parQ (kn : K2 β) : O β :=
 bnd (A.lenS x0) fun b =>
 bnd (A.bin prog .mul 3 (.int .i64 2) b) fun c =>
 bnd2 (A.makeSlice 1 1 Z5L (.int .i64 0) c h) fun d e =>
 kn x0 d e
theorem eparQ : E158 C L h K 6 [0,4] [] (r1 0 x0)=parQ h x0 (N2 K 0 4) := by kernel_rfl
noncomputable def parR (kn : K4 β) : O β :=
 bnd (A.lenS x0) fun b =>
 kn b (.int .i64 0) x0 x4 h
theorem eparR : E158 C L h K 28 [12,13,11,4] [] (r2 0 4 x0 x4)=parR h x0 x4 (N4 K 12 13 11 4) := by kernel_rfl
noncomputable def parS (kn : K5 β) : O β :=
 bnd (A.bin prog .lss 3 x13 x12) fun a =>
 kn a x11 x12 x13 x4 h
theorem eparS : E158 C L h K 232 [14,11,12,13,4] [(0,[4])] (r4 12 13 11 4 x12 x13 x11 x4)=parS h x4 x11 x12 x13 (N5 K 14 11 12 13 4) := by kernel_rfl
noncomputable def parT (kx0 : K1 β) (kn : K4 β) : O β :=
 condV x14 (
 kn x4 x13 x12 x11 h) (
 kx0 x4 h)
theorem eparT : E158 C L h K 466 [4,13,12,11] [(0,[4])] (r5 14 11 12 13 4 x14 x11 x12 x13 x4)=parT h x4 x11 x12 x13 x14 (X1 K 0 4) (N4 K 4 13 12 11) := by kernel_rfl
noncomputable def parU (kr : K2 β) (kn : K4 β) : O β :=
 bnd (A.idxS 1 x11 x13) fun a =>
 bnd (A.load false 1 a h) fun b =>
 bnd (A.bin prog .lss 3 b (.int .i64 0)) fun e =>
 toBK e fun f =>
 (bif f then
 kr (.string ⟨⟨[]⟩⟩) (.int .i64 1) h
 else
 bnd (A.bin prog .gtr 3 b (.int .i64 65535)) fun n =>
 toBK n fun o =>
 (bif o then
 kr (.string ⟨⟨[]⟩⟩) (.int .i64 1) h
 else
 bnd (A.bin prog .shr 3 b (.int .u64 8)) fun u =>
 bnd (A.conv prog 3 5 u) fun v =>
 bnd (A.conv prog 3 5 b) fun y =>
 bnd2 (A.buildSlice 1 2 Z5L [(0,1,v),(1,1,y)] h) fun z a1 =>
 bnd2 (A.append 1 1 x4 z a1) fun b1 c1 =>
 kn x13 x12 x11 b1 c1))
theorem eparU : E158 C L h K 1868 [13,12,11,4] [(1,[13,12,11,4]),(0,[4])] (r4 4 13 12 11 x4 x13 x12 x11)=parU h x4 x11 x12 x13 (R2 K 2 3) (N4 K 13 12 11 4) := by kernel_rfl
noncomputable def parV (kn : K4 β) : O β :=
 bnd (A.bin prog .add 3 x13 (.int .i64 1)) fun a =>
 kn x12 a x11 x4 h
theorem eparV : E158 C L h K 935 [12,13,11,4] [(0,[4])] (r4 13 12 11 4 x13 x12 x11 x4)=parV h x4 x11 x12 x13 (N4 K 12 13 11 4) := by kernel_rfl
noncomputable def pafT (kr : K2 β) (kx0 : K1 β) (kn : K4 β) : O β :=
 parS h x4 x11 x12 x13 (fun x14 x11 x12 x13 x4 h=>parT h x4 x11 x12 x13 x14 kx0 (fun x4 x13 x12 x11 h=>parU h x4 x11 x12 x13 kr (fun x13 x12 x11 x4 h=>parV h x4 x11 x12 x13 kn)))
def epafT:=(sq K (eparS C L h _ x4 x11 x12 x13) (congrArg _ (w5 fun x14 x11 x12 x13 x4 h=>sn (sq K (eparT C L h _ x4 x11 x12 x13 x14) (congrArg _ (w4 fun x4 x13 x12 x11 h=>sn (sq K (bk (eparU C L h _ x4 x11 x12 x13)) (congrArg _ (w4 fun x13 x12 x11 x4 h=>sn (eparV ..))) (by kernel_rfl)))) (by kernel_rfl)))) (by kernel_rfl) : _=pafT h x4 x11 x12 x13 (R2 K 2 3) (X1 K 0 4) (N4 K 12 13 11 4))
noncomputable def panA (C : CF) (L : Nat) {β : Type} (kr : K2 β) (kx0 : K1 β) : Nat → K4 β
 | 0,_,_,_,_,_ => none
 | n + 1,x12,x13,x11,x4,h => pafT h x4 x11 x12 x13 kr kx0 (fun x12 x13 x11 x4 h=>panA C L kr kx0 n x12 x13 x11 x4 h)
theorem epanA (C : CF) (L : Nat) {β : Type} (K : KK β) : ∀ (n : Nat) (x12 x13 x11 x4 : V) (h : H),loopK (fun fr h K=>execK prog C L 4 34 [2,3] (g c158a 116) [12,13,11,4] [(0,[4])] fr h K) n (r4 12 13 11 4 x12 x13 x11 x4) h K=panA C L (R2 K 2 3) (X1 K 0 4) n x12 x13 x11 x4 h
 | 0,_,_,_,_,_ => rfl
 | n + 1,x12,x13,x11,x4,h => (cg (epafT C L h _ x4 x11 x12 x13) (by kernel_rfl)).trans (congrArg _ (w4 fun x12 x13 x11 x4 h=>sl (epanA C L K n x12 x13 x11 x4 h)))
noncomputable def paeU (kr : K2 β) (kx0 : K1 β) : O β :=
 panA C L kr kx0 L x12 x13 x11 x4 h
def epaeU:=(lp [4] (r4 12 13 11 4 x12 x13 x11 x4) (epanA C L K L x12 x13 x11 x4 h) (by kernel_rfl) : _=paeU C L h x4 x11 x12 x13 (R2 K 2 3) (X1 K 0 4))
noncomputable def paeC (kr : K2 β) (kn : K1 β) : O β :=
 parR h x0 x4 (fun x12 x13 x11 x4 h=>paeU C L h x4 x11 x12 x13 kr kn)
def epaeC:=(sq K (eparR C L h _ x0 x4) (congrArg _ (w4 fun x12 x13 x11 x4 h=>sn (bk (epaeU ..)))) (by kernel_rfl) : _=paeC C L h x0 x4 (R2 K 2 3) (N1 K 4))
noncomputable def parW (kr : K2 β) : O β :=
 bnd (A.b2s x4 h) fun b =>
 kr b (.int .i64 0) h
theorem eparW : E158 C L h K 15 [2,3] [] (r1 4 x4)=parW h x4 (R2 K 2 3) := by kernel_rfl
noncomputable def p158a (kr : K2 β) : O β :=
 parP h x0 (fun x0 h=>parQ h x0 (fun x0 x4 h=>paeC C L h x0 x4 kr (fun x4 h=>parW h x4 kr)))
def ep158a:=(sq K (eparP C L h _ x0) (congrArg _ (w1 fun x0 h=>sn (sq K (eparQ C L h _ x0) (congrArg _ (w2 fun x0 x4 h=>sn (sq K (epaeC C L h _ x0 x4) (congrArg _ (w1 fun x4 h=>sn (eparW ..))) (by kernel_rfl)))) (by kernel_rfl)))) (by kernel_rfl) : _=p158a C L h x0 (R2 K 2 3))
noncomputable def F158 (C : CF) (L : Nat) (x0 : V) (h : H) : O (V × H) :=
 p158a C L h x0 (fun x2 x3 h=>some (.tuple ⟨[x2,x3]⟩,h))
theorem F158eq (Q : Orc) (n : Nat) (x0 : V) (h : H) (q : Q 158 [x0]=none) : callO prog 4 Q (n + 1) 158 [x0] h=F158 (callO prog 4 Q n) n x0 h :=
 (tp q Tryz.func158 (ep158a (callO prog 4 Q n) n h _ x0) (by kernel_rfl)).trans (by kernel_rfl)
end Go.Proofs.YtfodhidpefednaaGreatDoor.AnA
