import Derived.Test.YtfodhidpefednaaGreatDoorProg
import Derived.Test.YtfodhidpefednaaGreatDoorRq
set_option linter.unusedVariables false
set_option linter.defProp false
set_option maxRecDepth 100000
namespace Go.Proofs.YtfodhidpefednaaGreatDoor.AnB
open Tryz (prog)
open Go Go.AM Go.AM.Pk
noncomputable def Z36L : List V := [(.string ⟨⟨[]⟩⟩),(.string ⟨⟨[]⟩⟩),(.int .u8 0),(.bool false)]
noncomputable def Z120L : List V := [(.string ⟨⟨[]⟩⟩),(.int .u8 0)]
noncomputable def Z120 : V := .agg ⟨Z120L⟩
noncomputable def Z39L : List V := [(.int .u8 0),(.bool false),(.int .u8 0),(.bool false),(.int .u16 0),(.string ⟨⟨[]⟩⟩),(.string ⟨⟨[]⟩⟩),(.int .u8 0),(.bool false),(.int .u16 0),(.string ⟨⟨[]⟩⟩),(.bool false),(.string ⟨⟨[]⟩⟩),(.string ⟨⟨[]⟩⟩),(.int .u8 0),(.bool false),(.bool false),(.bool false),(.string ⟨⟨[]⟩⟩),(.string ⟨⟨[]⟩⟩),(.bool false),(.int .u8 0),(.slice none 0 0),(.string ⟨⟨[]⟩⟩)]
noncomputable def Z39 : V := .agg ⟨Z39L⟩
noncomputable def Z150L : List V := [(.int .u8 0),(.int .u8 0),(.int .u8 0),(.int .u8 0),(.bool false),(.bool false),(.bool false),(.bool false),(.bool false),(.bool false),(.bool false),(.int .u16 0),(.int .u16 0),(.string ⟨⟨[]⟩⟩),(.string ⟨⟨[]⟩⟩),(.string ⟨⟨[]⟩⟩),(.string ⟨⟨[]⟩⟩),(.string ⟨⟨[]⟩⟩),(.string ⟨⟨[]⟩⟩),(.string ⟨⟨[]⟩⟩),(.string ⟨⟨[]⟩⟩),(.int .u8 0),(.bool false)]
noncomputable def Z150 : V := .agg ⟨Z150L⟩
variable (C : CF) (L : Nat) {β : Type} (h : H) (K : KK β) (x0 x1 x2 x3 x4 x5 x6 x10 x17 x18 x19 x21 x22 x23 x24 x25 x29 x32 x36 x37 x42 x46 x53 x54 x68 x75 : V)
noncomputable def c36a : Code := (Tryz.f36.body).getD .skip
noncomputable abbrev E36 (C : CF) (L : Nat) {β : Type} (h : H) (K : KK β) (n : Nat) (o : List Nat) (v : List (Nat × List Nat)) (r : T Value) : O β := execK prog C L 4 62 [2] (g c36a n) o v r h K
noncomputable def palN (kn : K1 β) : O β :=
 bnd2 (A.box 24 x0 h) fun a b =>
 kn a b
theorem epalN : E36 C L h K 2 [1] [] (r1 0 x0)=palN h x0 (N1 K 1) := by kernel_rfl
noncomputable def palO (kn : K2 β) : O β :=
 kn x1 (.int .i64 (-1)) h
theorem epalO : E36 C L h K 6 [1,3] [] (r1 1 x1)=palO h x1 (N2 K 1 3) := by kernel_rfl
noncomputable def pahI (kn : K3 β) : O β :=
 bnd (A.fieldAddr 0 x1) fun a =>
 bnd (A.load false 1 a h) fun b =>
 kn b x1 x3 h
theorem epahI : E36 C L h K 28 [5,1,3] [] (r2 1 3 x1 x3)=pahI h x1 x3 (N3 K 5 1 3) := by kernel_rfl
noncomputable def pahJ (kn : K4 β) : O β :=
 bnd (A.bin prog .eql 5 x5 (.int .u8 1)) fun a =>
 toBK a fun b =>
 kn (.bool b) x5 x1 x3 h
theorem epahJ : E36 C L h K 116 [6,5,1,3] [(0,[1,3])] (r3 5 1 3 x5 x1 x3)=pahJ h x1 x3 x5 (N4 K 6 5 1 3) := by kernel_rfl
noncomputable def paqA (kn : K2 β) : O β :=
 bnd (A.load true 24 x1 h) fun a =>
 bnd2 (C 55 [a] h) fun b c =>
 kn x1 b c
theorem epaqA : E36 C L h K 234 [1,3] [(0,[1,3])] (r4 6 5 1 3 x6 x5 x1 x3)=paqA C h x1 (N2 K 1 3) := by kernel_rfl
noncomputable def pahY (kn : K4 β) : O β :=
 bnd (A.bin prog .eql 5 x5 (.int .u8 2)) fun a =>
 toBK a fun b =>
 kn (.bool b) x5 x1 x3 h
theorem epahY : E36 C L h K 470 [10,5,1,3] [(0,[1,3])] (r4 6 5 1 3 x6 x5 x1 x3)=pahY h x1 x3 x5 (N4 K 10 5 1 3) := by kernel_rfl
noncomputable def palS (kn : K3 β) : O β :=
 bnd (A.fieldAddr 21 x1) fun a =>
 bnd (A.load false 1 a h) fun b =>
 bnd (A.bin prog .leq 5 b (.int .u8 5)) fun c =>
 toBK c fun d =>
 (bif d then
 bnd (A.fieldAddr 21 x1) fun f =>
 bnd (A.load false 1 f h) fun i =>
 bnd (A.bin prog .eql 5 i (.int .u8 0)) fun j =>
 toBK j fun k =>
 (bif k then
 kn (.bool true) x1 x3 h
 else
 bnd (A.fieldAddr 20 x1) fun o =>
 bnd (A.load false 1 o h) fun p =>
 toBK p fun q =>
 bnd (A.un prog .not (.bool q)) fun r =>
 toBK r fun s =>
 kn (.bool s) x1 x3 h)
 else
 kn (.bool false) x1 x3 h)
theorem epalS : E36 C L h K 1884 [24,1,3] [(0,[1,3])] (r4 10 5 1 3 x10 x5 x1 x3)=palS h x1 x3 (N3 K 24 1 3) := by kernel_rfl
noncomputable def palT (kn : K2 β) : O β :=
 condV x24 (
 kn x1 (.int .i64 2) h) (
 kn x1 x3 h)
theorem epalT : E36 C L h K 1885 [1,3] [(0,[1,3])] (r3 24 1 3 x24 x1 x3)=palT h x1 x3 x24 (N2 K 1 3) := by kernel_rfl
noncomputable def pagH (kn : K2 β) : O β :=
 palS h x1 x3 (fun x24 x1 x3 h=>palT h x1 x3 x24 kn)
def epagH:=(sq K (epalS C L h _ x1 x3 x5 x10) (congrArg _ (w3 fun x24 x1 x3 h=>sn (epalT ..))) (by kernel_rfl) : _=pagH h x1 x3 (N2 K 1 3))
noncomputable def pajT (kn : K4 β) : O β :=
 bnd (A.bin prog .eql 5 x5 (.int .u8 3)) fun a =>
 toBK a fun b =>
 kn (.bool b) x5 x1 x3 h
theorem epajT : E36 C L h K 1886 [25,5,1,3] [(0,[1,3])] (r4 10 5 1 3 x10 x5 x1 x3)=pajT h x1 x3 x5 (N4 K 25 5 1 3) := by kernel_rfl
noncomputable def papZ (kn : K2 β) : O β :=
 bnd (A.load true 24 x1 h) fun a =>
 bnd2 (C 56 [a] h) fun b c =>
 kn x1 b c
theorem epapZ : E36 C L h K 3774 [1,3] [(0,[1,3])] (r4 25 5 1 3 x25 x5 x1 x3)=papZ C h x1 (N2 K 1 3) := by kernel_rfl
noncomputable def paiK (kn : K4 β) : O β :=
 bnd (A.bin prog .eql 5 x5 (.int .u8 4)) fun a =>
 toBK a fun b =>
 kn (.bool b) x5 x1 x3 h
theorem epaiK : E36 C L h K 15100 [29,5,1,3] [(0,[1,3])] (r4 25 5 1 3 x25 x5 x1 x3)=paiK h x1 x3 x5 (N4 K 29 5 1 3) := by kernel_rfl
noncomputable def papY (kn : K4 β) : O β :=
 kn x29 x5 x1 x3 h
theorem epapY : E36 C L h K 30202 [29,5,1,3] [(0,[1,3])] (r4 29 5 1 3 x29 x5 x1 x3)=papY h x1 x3 x5 x29 (N4 K 29 5 1 3) := by kernel_rfl
noncomputable def paiR (kn : K4 β) : O β :=
 bnd (A.bin prog .eql 5 x5 (.int .u8 5)) fun a =>
 toBK a fun b =>
 (bif b then
 kn (.bool b) x5 x1 x3 h
 else
 bnd (A.bin prog .eql 5 x5 (.int .u8 6)) fun d =>
 toBK d fun e =>
 (bif e then
 kn (.bool e) x5 x1 x3 h
 else
 bnd (A.bin prog .eql 5 x5 (.int .u8 7)) fun i =>
 toBK i fun j =>
 (bif j then
 kn (.bool j) x5 x1 x3 h
 else
 bnd (A.bin prog .eql 5 x5 (.int .u8 11)) fun l =>
 toBK l fun m =>
 kn (.bool m) x5 x1 x3 h)))
theorem epaiR : E36 C L h K 30203 [29,5,1,3] [(0,[1,3])] (r4 29 5 1 3 x29 x5 x1 x3)=paiR h x1 x3 x5 (N4 K 29 5 1 3) := by kernel_rfl
noncomputable def pafQ (kn : K4 β) : O β :=
 condV x29 (papY h x1 x3 x5 x29 kn) (paiR h x1 x3 x5 kn)
def epafQ:=(cd K (.tmp 29) x29 (epapY C L h K x1 x3 x5 x29) (epaiR C L h K x1 x3 x5 x29) (by kernel_rfl) : _=pafQ h x1 x3 x5 x29 (N4 K 29 5 1 3))
noncomputable def padR (C : CF) (L : Nat) {β : Type} (x25 x5 x1 x3 : V) (h : H) (kn : K4 β) : O β :=
 paiK h x1 x3 x5 (fun x29 x5 x1 x3 h=>pafQ h x1 x3 x5 x29 kn)
def epadR:=(sq K (epaiK C L h _ x1 x3 x5 x25) (congrArg _ (w4 fun x29 x5 x1 x3 h=>sn (epafQ ..))) (by kernel_rfl) : _=padR C L x25 x5 x1 x3 h (N4 K 29 5 1 3))
noncomputable def pakC (kn : K2 β) : O β :=
 bnd (A.load true 24 x1 h) fun a =>
 bnd2 (C 57 [a] h) fun b c =>
 kn x1 b c
theorem epakC : E36 C L h K 15102 [1,3] [(0,[1,3])] (r4 29 5 1 3 x29 x5 x1 x3)=pakC C h x1 (N2 K 1 3) := by kernel_rfl
noncomputable def paiL (kn : K4 β) : O β :=
 bnd (A.bin prog .eql 5 x5 (.int .u8 8)) fun a =>
 toBK a fun b =>
 (bif b then
 kn (.bool b) x5 x1 x3 h
 else
 bnd (A.bin prog .eql 5 x5 (.int .u8 10)) fun d =>
 toBK d fun e =>
 kn (.bool e) x5 x1 x3 h)
theorem epaiL : E36 C L h K 30206 [37,5,1,3] [(0,[1,3])] (r4 29 5 1 3 x29 x5 x1 x3)=paiL h x1 x3 x5 (N4 K 37 5 1 3) := by kernel_rfl
noncomputable def palR (kn : K2 β) : O β :=
 bnd (A.load true 24 x1 h) fun a =>
 bnd2 (C 58 [a] h) fun b c =>
 kn x1 b c
theorem epalR : E36 C L h K 60414 [1,3] [(0,[1,3])] (r4 37 5 1 3 x37 x5 x1 x3)=palR C h x1 (N2 K 1 3) := by kernel_rfl
noncomputable def pakB (kn : K4 β) : O β :=
 bnd (A.bin prog .eql 5 x5 (.int .u8 9)) fun a =>
 toBK a fun b =>
 kn (.bool b) x5 x1 x3 h
theorem epakB : E36 C L h K 120830 [42,5,1,3] [(0,[1,3])] (r4 37 5 1 3 x37 x5 x1 x3)=pakB h x1 x3 x5 (N4 K 42 5 1 3) := by kernel_rfl
noncomputable def patM (kn : K2 β) : O β :=
 bnd (A.load true 24 x1 h) fun a =>
 bnd2 (C 59 [a] h) fun b c =>
 kn x1 b c
theorem epatM : E36 C L h K 241662 [1,3] [(0,[1,3])] (r4 42 5 1 3 x42 x5 x1 x3)=patM C h x1 (N2 K 1 3) := by kernel_rfl
noncomputable def palP (kn : K3 β) : O β :=
 bnd (A.bin prog .eql 5 x5 (.int .u8 12)) fun a =>
 toBK a fun b =>
 (bif b then
 kn (.bool b) x1 x3 h
 else
 bnd (A.bin prog .eql 5 x5 (.int .u8 13)) fun d =>
 toBK d fun e =>
 (bif e then
 kn (.bool e) x1 x3 h
 else
 bnd (A.bin prog .eql 5 x5 (.int .u8 14)) fun i =>
 toBK i fun j =>
 kn (.bool j) x1 x3 h))
theorem epalP : E36 C L h K 483326 [46,1,3] [(0,[1,3])] (r4 42 5 1 3 x42 x5 x1 x3)=palP h x1 x3 x5 (N3 K 46 1 3) := by kernel_rfl
noncomputable def palQ (kn : K2 β) : O β :=
 condV x46 (
 kn x1 (.int .i64 0) h) (
 kn x1 x3 h)
theorem epalQ : E36 C L h K 483327 [1,3] [(0,[1,3])] (r3 46 1 3 x46 x1 x3)=palQ h x1 x3 x46 (N2 K 1 3) := by kernel_rfl
noncomputable def pagG (kn : K2 β) : O β :=
 palP h x1 x3 x5 (fun x46 x1 x3 h=>palQ h x1 x3 x46 kn)
def epagG:=(sq K (epalP C L h _ x1 x3 x5 x42) (congrArg _ (w3 fun x46 x1 x3 h=>sn (epalQ ..))) (by kernel_rfl) : _=pagG h x1 x3 x5 (N2 K 1 3))
noncomputable def paeW (kn : K2 β) : O β :=
 condV x42 (patM C h x1 kn) (pagG h x1 x3 x5 kn)
def epaeW:=(cd K (.tmp 42) x42 (epatM C L h K x1 x3 x5 x42) (epagG C L h K x1 x3 x5 x42) (by kernel_rfl) : _=paeW C h x1 x3 x5 x42 (N2 K 1 3))
noncomputable def padS (kn : K2 β) : O β :=
 pakB h x1 x3 x5 (fun x42 x5 x1 x3 h=>paeW C h x1 x3 x5 x42 kn)
def epadS:=(sq K (epakB C L h _ x1 x3 x5 x37) (congrArg _ (w4 fun x42 x5 x1 x3 h=>sn (epaeW ..))) (by kernel_rfl) : _=padS C h x1 x3 x5 (N2 K 1 3))
noncomputable def pacX (kn : K2 β) : O β :=
 condV x37 (palR C h x1 kn) (padS C h x1 x3 x5 kn)
def epacX:=(cd K (.tmp 37) x37 (epalR C L h K x1 x3 x5 x37) (epadS C L h K x1 x3 x5 x37) (by kernel_rfl) : _=pacX C h x1 x3 x5 x37 (N2 K 1 3))
noncomputable def pacB (C : CF) (L : Nat) {β : Type} (x29 x5 x1 x3 : V) (h : H) (kn : K2 β) : O β :=
 paiL h x1 x3 x5 (fun x37 x5 x1 x3 h=>pacX C h x1 x3 x5 x37 kn)
def epacB:=(sq K (epaiL C L h _ x1 x3 x5 x29) (congrArg _ (w4 fun x37 x5 x1 x3 h=>sn (epacX ..))) (by kernel_rfl) : _=pacB C L x29 x5 x1 x3 h (N2 K 1 3))
noncomputable def pabM (C : CF) (L : Nat) {β : Type} (x29 x5 x1 x3 : V) (h : H) (kn : K2 β) : O β :=
 condV x29 (pakC C h x1 kn) (pacB C L x29 x5 x1 x3 h kn)
def epabM:=(cd K (.tmp 29) x29 (epakC C L h K x1 x3 x5 x29) (epacB C L h K x1 x3 x5 x29) (by kernel_rfl) : _=pabM C L x29 x5 x1 x3 h (N2 K 1 3))
noncomputable def paaV (kn : K2 β) : O β :=
 padR C L x25 x5 x1 x3 h (fun x29 x5 x1 x3 h=>pabM C L x29 x5 x1 x3 h kn)
def epaaV:=(sq K (epadR C L h _ x1 x3 x5 x25) (congrArg _ (w4 fun x29 x5 x1 x3 h=>sn (epabM ..))) (by kernel_rfl) : _=paaV C L h x1 x3 x5 x25 (N2 K 1 3))
noncomputable def paaQ (kn : K2 β) : O β :=
 condV x25 (papZ C h x1 kn) (paaV C L h x1 x3 x5 x25 kn)
def epaaQ:=(cd K (.tmp 25) x25 (epapZ C L h K x1 x3 x5 x25) (epaaV C L h K x1 x3 x5 x25) (by kernel_rfl) : _=paaQ C L h x1 x3 x5 x25 (N2 K 1 3))
noncomputable def paaL (kn : K2 β) : O β :=
 pajT h x1 x3 x5 (fun x25 x5 x1 x3 h=>paaQ C L h x1 x3 x5 x25 kn)
def epaaL:=(sq K (epajT C L h _ x1 x3 x5 x10) (congrArg _ (w4 fun x25 x5 x1 x3 h=>sn (epaaQ ..))) (by kernel_rfl) : _=paaL C L h x1 x3 x5 (N2 K 1 3))
noncomputable def paaG (kn : K2 β) : O β :=
 condV x10 (pagH h x1 x3 kn) (paaL C L h x1 x3 x5 kn)
def epaaG:=(cd K (.tmp 10) x10 (epagH C L h K x1 x3 x5 x10) (epaaL C L h K x1 x3 x5 x10) (by kernel_rfl) : _=paaG C L h x1 x3 x5 x10 (N2 K 1 3))
noncomputable def paaE (kn : K2 β) : O β :=
 pahY h x1 x3 x5 (fun x10 x5 x1 x3 h=>paaG C L h x1 x3 x5 x10 kn)
def epaaE:=(sq K (epahY C L h _ x1 x3 x5 x6) (congrArg _ (w4 fun x10 x5 x1 x3 h=>sn (epaaG ..))) (by kernel_rfl) : _=paaE C L h x1 x3 x5 (N2 K 1 3))
noncomputable def paaC (kn : K2 β) : O β :=
 condV x6 (paqA C h x1 kn) (paaE C L h x1 x3 x5 kn)
def epaaC:=(cd K (.tmp 6) x6 (epaqA C L h K x1 x3 x5 x6) (epaaE C L h K x1 x3 x5 x6) (by kernel_rfl) : _=paaC C L h x1 x3 x5 x6 (N2 K 1 3))
noncomputable def paaB (kn : K2 β) : O β :=
 pahJ h x1 x3 x5 (fun x6 x5 x1 x3 h=>paaC C L h x1 x3 x5 x6 kn)
def epaaB:=(sq K (epahJ C L h _ x1 x3 x5) (congrArg _ (w4 fun x6 x5 x1 x3 h=>sn (epaaC ..))) (by kernel_rfl) : _=paaB C L h x1 x3 x5 (N2 K 1 3))
noncomputable def paaA (C : CF) (L : Nat) {β : Type} (x1 x3 : V) (h : H) (kn : K2 β) : O β :=
 pahI h x1 x3 (fun x5 x1 x3 h=>paaB C L h x1 x3 x5 kn)
def epaaA:=(sq K (epahI C L h _ x1 x3) (congrArg _ (w3 fun x5 x1 x3 h=>sn (bk (epaaB ..)))) (by kernel_rfl) : _=paaA C L x1 x3 h (N2 K 1 3))
noncomputable def pakD (C : CF) (L : Nat) {β : Type} (x1 x3 : V) (h : H) (kr : K1 β) : O β :=
 bnd (A.bin prog .lss 3 x3 (.int .i64 0)) fun b =>
 toBK b fun c =>
 (bif c then
 kr (.int .i64 (-1)) h
 else
 bnd (A.bin prog .gtr 3 x3 (.int .i64 268435455)) fun l =>
 toBK l fun m =>
 (bif m then
 kr (.int .i64 (-1)) h
 else
 bnd (A.load true 24 x1 h) fun r =>
 bnd2 (C 60 [r] h) fun s t =>
 toBK s fun u =>
 bnd (A.un prog .not (.bool u)) fun v =>
 toBK v fun w =>
 (bif w then
 kr (.int .i64 (-1)) t
 else
 kr x3 t)))
theorem epakD : E36 C L h K 15 [2] [] (r2 1 3 x1 x3)=pakD C L x1 x3 h (R1 K 2) := by kernel_rfl
noncomputable def p36a (kr : K1 β) : O β :=
 palN h x0 (fun x1 h=>palO h x1 (fun x1 x3 h=>paaA C L x1 x3 h (fun x1 x3 h=>pakD C L x1 x3 h kr)))
def ep36a:=(sq K (epalN C L h _ x0) (congrArg _ (w1 fun x1 h=>sn (sq K (epalO C L h _ x1) (congrArg _ (w2 fun x1 x3 h=>sn (sq K (epaaA C L h _ x1 x3) (congrArg _ (w2 fun x1 x3 h=>sn (epakD ..))) (by kernel_rfl)))) (by kernel_rfl)))) (by kernel_rfl) : _=p36a C L h x0 (R1 K 2))
noncomputable def F36 (C : CF) (L : Nat) (x0 : V) (h : H) : O (V × H) :=
 p36a C L h x0 (fun x2 h=>some (x2,h))
theorem F36eq (Q : Orc) (n : Nat) (x0 : V) (h : H) (q : Q 36 [x0]=none) : callO prog 4 Q (n + 1) 36 [x0] h=F36 (callO prog 4 Q n) n x0 h :=
 (tp q Tryz.func36 (ep36a (callO prog 4 Q n) n h _ x0) (by kernel_rfl)).trans (by kernel_rfl)
noncomputable def c55a : Code := (Tryz.f55.body).getD .skip
noncomputable abbrev E55 (C : CF) (L : Nat) {β : Type} (h : H) (K : KK β) (n : Nat) (o : List Nat) (v : List (Nat × List Nat)) (r : T Value) : O β := execK prog C L 4 90 [2] (g c55a n) o v r h K
noncomputable def pakF (kn : K1 β) : O β :=
 bnd2 (A.box 24 x0 h) fun a b =>
 kn a b
theorem epakF : E55 C L h K 2 [1] [] (r1 0 x0)=pakF h x0 (N1 K 1) := by kernel_rfl
noncomputable def pakG (kr kn : K1 β) : O β :=
 bnd (A.fieldAddr 7 x1) fun a =>
 bnd (A.load false 1 a h) fun b =>
 bnd (A.bin prog .neq 5 b (.int .u8 4)) fun c =>
 toBK c fun d =>
 (bif d then
 kr (.int .i64 (-1)) h
 else
 bnd (A.fieldAddr 10 x1) fun j =>
 bnd (A.load false 1 j h) fun k =>
 bnd2 (C 77 [k] h) fun l m =>
 toBK l fun n =>
 bnd (A.un prog .not (.bool n)) fun o =>
 toBK o fun p =>
 (bif p then
 kr (.int .i64 (-1)) m
 else
 kn x1 m))
theorem epakG : E55 C L h K 6 [1] [] (r1 1 x1)=pakG C h x1 (R1 K 2) (N1 K 1) := by kernel_rfl
noncomputable def panK (kn : K2 β) : O β :=
 bnd (A.fieldAddr 10 x1) fun a =>
 bnd (A.load false 1 a h) fun b =>
 bnd (A.lenStr b) fun c =>
 bnd (A.bin prog .add 3 (.int .i64 12) c) fun d =>
 kn x1 d h
theorem epanK : E55 C L h K 14 [1,3] [] (r1 1 x1)=panK h x1 (N2 K 1 3) := by kernel_rfl
noncomputable def paiZ (kn : K3 β) : O β :=
 bnd (A.fieldAddr 11 x1) fun a =>
 bnd (A.load false 1 a h) fun b =>
 toBK b fun c =>
 kn (.bool c) x1 x3 h
theorem epaiZ : E55 C L h K 60 [18,1,3] [] (r2 1 3 x1 x3)=paiZ h x1 x3 (N3 K 18 1 3) := by kernel_rfl
noncomputable def palZ (kn : K3 β) : O β :=
 bnd (A.fieldAddr 12 x1) fun a =>
 bnd (A.fieldAddr 0 a) fun b =>
 bnd (A.load false 1 b h) fun c =>
 bnd2 (C 78 [c] h) fun d e =>
 toBK d fun f =>
 bnd (A.un prog .not (.bool f)) fun i =>
 toBK i fun j =>
 (bif j then
 kn (.bool true) x3 x1 e
 else
 bnd (A.fieldAddr 12 x1) fun o =>
 bnd (A.fieldAddr 1 o) fun p =>
 bnd (A.load false 1 p e) fun q =>
 bnd (A.lenStr q) fun r =>
 bnd (A.bin prog .gtr 3 r (.int .i64 65535)) fun s =>
 toBK s fun t =>
 (bif t then
 kn (.bool true) x3 x1 e
 else
 bnd (A.fieldAddr 12 x1) fun y =>
 bnd (A.fieldAddr 2 y) fun z =>
 bnd (A.load false 1 z e) fun a1 =>
 bnd (A.bin prog .gtr 5 a1 (.int .u8 2)) fun b1 =>
 toBK b1 fun c1 =>
 kn (.bool c1) x3 x1 e))
theorem epalZ : E55 C L h K 488 [36,3,1] [] (r3 18 1 3 x18 x1 x3)=palZ C h x1 x3 (N3 K 36 3 1) := by kernel_rfl
noncomputable def pamA (kr : K1 β) (kn : K2 β) : O β :=
 condV x36 (
 kr (.int .i64 (-1)) h) (
 kn x3 x1 h)
theorem epamA : E55 C L h K 489 [3,1] [] (r3 36 3 1 x36 x3 x1)=pamA h x1 x3 x36 (R1 K 2) (N2 K 3 1) := by kernel_rfl
noncomputable def pagK (kr : K1 β) (kn : K2 β) : O β :=
 palZ C h x1 x3 (fun x36 x3 x1 h=>pamA h x1 x3 x36 kr kn)
def epagK:=(sq K (epalZ C L h _ x1 x3 x18) (congrArg _ (w3 fun x36 x3 x1 h=>sn (epamA ..))) (by kernel_rfl) : _=pagK C h x1 x3 (R1 K 2) (N2 K 3 1))
noncomputable def paqF (kn : K2 β) : O β :=
 bnd (A.fieldAddr 12 x1) fun b =>
 bnd (A.fieldAddr 0 b) fun c =>
 bnd (A.load false 1 c h) fun d =>
 bnd (A.lenStr d) fun e =>
 bnd (A.bin prog .add 3 (.int .i64 4) e) fun f =>
 bnd (A.fieldAddr 12 x1) fun i =>
 bnd (A.fieldAddr 1 i) fun j =>
 bnd (A.load false 1 j h) fun k =>
 bnd (A.lenStr k) fun l =>
 bnd (A.bin prog .add 3 f l) fun m =>
 bnd (A.bin prog .add 3 x3 m) fun n =>
 kn x1 n h
theorem epaqF : E55 C L h K 245 [1,3] [] (r2 3 1 x3 x1)=paqF h x1 x3 (N2 K 1 3) := by kernel_rfl
noncomputable def paeY (kr : K1 β) (kn : K2 β) : O β :=
 pagK C h x1 x3 kr (fun x3 x1 h=>paqF h x1 x3 kn)
def epaeY:=(sq K (epagK C L h _ x1 x3 x18) (congrArg _ (w2 fun x3 x1 h=>sn (epaqF ..))) (by kernel_rfl) : _=paeY C h x1 x3 (R1 K 2) (N2 K 1 3))
noncomputable def panL (kr : K1 β) (kn : K2 β) : O β :=
 bnd (A.fieldAddr 12 x1) fun a =>
 bnd (A.load true 4 a h) fun b =>
 bnd (A.build Z36L []) fun c =>
 bnd (A.bin prog .neq 36 b c) fun d =>
 toBK d fun e =>
 (bif e then
 kr (.int .i64 (-1)) h
 else
 kn x1 x3 h)
theorem epanL : E55 C L h K 123 [1,3] [] (r3 18 1 3 x18 x1 x3)=panL h x1 x3 (R1 K 2) (N2 K 1 3) := by kernel_rfl
noncomputable def padT (kr : K1 β) (kn : K2 β) : O β :=
 condV x18 (paeY C h x1 x3 kr kn) (panL h x1 x3 kr kn)
def epadT:=(cd K (.tmp 18) x18 (epaeY C L h K x1 x3 x18) (epanL C L h K x1 x3 x18) (by kernel_rfl) : _=padT C h x1 x3 x18 (R1 K 2) (N2 K 1 3))
noncomputable def pacW (kr : K1 β) (kn : K2 β) : O β :=
 paiZ h x1 x3 (fun x18 x1 x3 h=>padT C h x1 x3 x18 kr kn)
def epacW:=(sq K (epaiZ C L h _ x1 x3) (congrArg _ (w3 fun x18 x1 x3 h=>sn (epadT ..))) (by kernel_rfl) : _=pacW C h x1 x3 (R1 K 2) (N2 K 1 3))
noncomputable def pajU (kn : K3 β) : O β :=
 bnd (A.fieldAddr 16 x1) fun a =>
 bnd (A.load false 1 a h) fun b =>
 toBK b fun c =>
 kn (.bool c) x1 x3 h
theorem epajU : E55 C L h K 124 [54,1,3] [] (r2 1 3 x1 x3)=pajU h x1 x3 (N3 K 54 1 3) := by kernel_rfl
noncomputable def patY (kn : K2 β) : O β :=
 bnd (A.fieldAddr 18 x1) fun b =>
 bnd (A.load false 1 b h) fun c =>
 bnd (A.lenStr c) fun d =>
 bnd (A.bin prog .add 3 (.int .i64 2) d) fun e =>
 bnd (A.bin prog .add 3 x3 e) fun f =>
 kn x1 f h
theorem epatY : E55 C L h K 250 [1,3] [] (r3 54 1 3 x54 x1 x3)=patY h x1 x3 (N2 K 1 3) := by kernel_rfl
noncomputable def pakH (kr : K1 β) (kn : K2 β) : O β :=
 bnd (A.fieldAddr 18 x1) fun a =>
 bnd (A.load false 1 a h) fun b =>
 bnd (A.bin prog .neq 9 b (.string ⟨⟨[]⟩⟩)) fun c =>
 toBK c fun d =>
 (bif d then
 kr (.int .i64 (-1)) h
 else
 bnd (A.fieldAddr 17 x1) fun j =>
 bnd (A.load false 1 j h) fun k =>
 toBK k fun l =>
 (bif l then
 kr (.int .i64 (-1)) h
 else
 kn x1 x3 h))
theorem epakH : E55 C L h K 251 [1,3] [] (r3 54 1 3 x54 x1 x3)=pakH h x1 x3 (R1 K 2) (N2 K 1 3) := by kernel_rfl
noncomputable def pagL (kr : K1 β) (kn : K2 β) : O β :=
 condV x54 (patY h x1 x3 kn) (pakH h x1 x3 kr kn)
def epagL:=(cd K (.tmp 54) x54 (epatY C L h K x1 x3 x54) (epakH C L h K x1 x3 x54) (by kernel_rfl) : _=pagL h x1 x3 x54 (R1 K 2) (N2 K 1 3))
noncomputable def paeM (kr : K1 β) (kn : K2 β) : O β :=
 pajU h x1 x3 (fun x54 x1 x3 h=>pagL h x1 x3 x54 kr kn)
def epaeM:=(sq K (epajU C L h _ x1 x3) (congrArg _ (w3 fun x54 x1 x3 h=>sn (epagL ..))) (by kernel_rfl) : _=paeM h x1 x3 (R1 K 2) (N2 K 1 3))
noncomputable def pakI (kr : K1 β) (kn : K2 β) : O β :=
 bnd (A.fieldAddr 17 x1) fun a =>
 bnd (A.load false 1 a h) fun b =>
 toBK b fun c =>
 (bif c then
 bnd (A.fieldAddr 19 x1) fun e =>
 bnd (A.load false 1 e h) fun f =>
 bnd (A.lenStr f) fun i =>
 bnd (A.bin prog .add 3 (.int .i64 2) i) fun j =>
 bnd (A.bin prog .add 3 x3 j) fun k =>
 kn x1 k h
 else
 bnd (A.fieldAddr 19 x1) fun m =>
 bnd (A.load false 1 m h) fun n =>
 bnd (A.bin prog .neq 9 n (.string ⟨⟨[]⟩⟩)) fun o =>
 toBK o fun p =>
 (bif p then
 kr (.int .i64 (-1)) h
 else
 kn x1 x3 h))
theorem epakI : E55 C L h K 126 [1,3] [] (r2 1 3 x1 x3)=pakI h x1 x3 (R1 K 2) (N2 K 1 3) := by kernel_rfl
noncomputable def pakJ (C : CF) (L : Nat) {β : Type} (x1 x3 : V) (h : H) (kr : K1 β) : O β :=
 bnd (A.fieldAddr 18 x1) fun a =>
 bnd (A.load false 1 a h) fun b =>
 bnd2 (C 77 [b] h) fun c d =>
 toBK c fun e =>
 bnd (A.un prog .not (.bool e)) fun f =>
 toBK f fun i =>
 (bif i then
 kr (.int .i64 (-1)) d
 else
 bnd (A.fieldAddr 19 x1) fun m =>
 bnd (A.load false 1 m d) fun n =>
 bnd (A.lenStr n) fun o =>
 bnd (A.bin prog .gtr 3 o (.int .i64 65535)) fun p =>
 toBK p fun q =>
 (bif q then
 kr (.int .i64 (-1)) d
 else
 kr x3 d))
theorem epakJ : E55 C L h K 127 [2] [] (r2 1 3 x1 x3)=pakJ C L x1 x3 h (R1 K 2) := by kernel_rfl
noncomputable def pafS (C : CF) (L : Nat) {β : Type} (x1 x3 : V) (h : H) (kr : K1 β) : O β :=
 pakI h x1 x3 kr (fun x1 x3 h=>pakJ C L x1 x3 h kr)
def epafS:=(sq K (epakI C L h _ x1 x3) (congrArg _ (w2 fun x1 x3 h=>sn (epakJ ..))) (by kernel_rfl) : _=pafS C L x1 x3 h (R1 K 2))
noncomputable def pacS (C : CF) (L : Nat) {β : Type} (x1 x3 : V) (h : H) (kr : K1 β) : O β :=
 paeM h x1 x3 kr (fun x1 x3 h=>pafS C L x1 x3 h kr)
def epacS:=(sq K (epaeM C L h _ x1 x3) (congrArg _ (w2 fun x1 x3 h=>sn (epafS ..))) (by kernel_rfl) : _=pacS C L x1 x3 h (R1 K 2))
noncomputable def paaY (C : CF) (L : Nat) {β : Type} (x1 x3 : V) (h : H) (kr : K1 β) : O β :=
 pacW C h x1 x3 kr (fun x1 x3 h=>pacS C L x1 x3 h kr)
def epaaY:=(sq K (epacW C L h _ x1 x3) (congrArg _ (w2 fun x1 x3 h=>sn (epacS ..))) (by kernel_rfl) : _=paaY C L x1 x3 h (R1 K 2))
noncomputable def p55a (kr : K1 β) : O β :=
 pakF h x0 (fun x1 h=>pakG C h x1 kr (fun x1 h=>panK h x1 (fun x1 x3 h=>paaY C L x1 x3 h kr)))
def ep55a:=(sq K (epakF C L h _ x0) (congrArg _ (w1 fun x1 h=>sn (sq K (epakG C L h _ x1) (congrArg _ (w1 fun x1 h=>sn (sq K (epanK C L h _ x1) (congrArg _ (w2 fun x1 x3 h=>sn (epaaY ..))) (by kernel_rfl)))) (by kernel_rfl)))) (by kernel_rfl) : _=p55a C L h x0 (R1 K 2))
noncomputable def F55 (C : CF) (L : Nat) (x0 : V) (h : H) : O (V × H) :=
 p55a C L h x0 (fun x2 h=>some (x2,h))
theorem F55eq (Q : Orc) (n : Nat) (x0 : V) (h : H) (q : Q 55 [x0]=none) : callO prog 4 Q (n + 1) 55 [x0] h=F55 (callO prog 4 Q n) n x0 h :=
 (tp q Tryz.func55 (ep55a (callO prog 4 Q n) n h _ x0) (by kernel_rfl)).trans (by kernel_rfl)
noncomputable def c56a : Code := (Tryz.f56.body).getD .skip
noncomputable abbrev E56 (C : CF) (L : Nat) {β : Type} (h : H) (K : KK β) (n : Nat) (o : List Nat) (v : List (Nat × List Nat)) (r : T Value) : O β := execK prog C L 4 46 [2] (g c56a n) o v r h K
noncomputable def pakK (kn : K1 β) : O β :=
 bnd2 (A.box 24 x0 h) fun a b =>
 kn a b
theorem epakK : E56 C L h K 2 [1] [] (r1 0 x0)=pakK h x0 (N1 K 1) := by kernel_rfl
noncomputable def pakL (kr kn : K1 β) : O β :=
 bnd (A.fieldAddr 5 x1) fun a =>
 bnd (A.load false 1 a h) fun b =>
 bnd2 (C 78 [b] h) fun c d =>
 toBK c fun e =>
 bnd (A.un prog .not (.bool e)) fun f =>
 toBK f fun i =>
 (bif i then
 kr (.int .i64 (-1)) d
 else
 bnd (A.fieldAddr 2 x1) fun m =>
 bnd (A.load false 1 m d) fun n =>
 bnd (A.bin prog .gtr 5 n (.int .u8 2)) fun o =>
 toBK o fun p =>
 (bif p then
 kr (.int .i64 (-1)) d
 else
 kn x1 d))
theorem epakL : E56 C L h K 6 [1] [] (r1 1 x1)=pakL C h x1 (R1 K 2) (N1 K 1) := by kernel_rfl
noncomputable def panM (kn : K2 β) : O β :=
 bnd (A.fieldAddr 5 x1) fun a =>
 bnd (A.load false 1 a h) fun b =>
 bnd (A.lenStr b) fun c =>
 bnd (A.bin prog .add 3 (.int .i64 2) c) fun d =>
 bnd (A.fieldAddr 6 x1) fun e =>
 bnd (A.load false 1 e h) fun f =>
 bnd (A.lenStr f) fun i =>
 bnd (A.bin prog .add 3 d i) fun j =>
 kn x1 j h
theorem epanM : E56 C L h K 14 [1,3] [] (r1 1 x1)=panM h x1 (N2 K 1 3) := by kernel_rfl
noncomputable def pajA (kn : K3 β) : O β :=
 bnd (A.fieldAddr 2 x1) fun a =>
 bnd (A.load false 1 a h) fun b =>
 bnd (A.bin prog .gtr 5 b (.int .u8 0)) fun c =>
 toBK c fun d =>
 (bif d then
 bnd (A.fieldAddr 4 x1) fun f =>
 bnd (A.load false 1 f h) fun i =>
 bnd (A.bin prog .gtr 34 i (.int .u16 0)) fun j =>
 toBK j fun k =>
 kn (.bool k) x1 x3 h
 else
 kn (.bool false) x1 x3 h)
theorem epajA : E56 C L h K 120 [21,1,3] [(0,[3])] (r2 1 3 x1 x3)=pajA h x1 x3 (N3 K 21 1 3) := by kernel_rfl
noncomputable def paqG (kr : K1 β) : O β :=
 bnd (A.bin prog .add 3 x3 (.int .i64 2)) fun b =>
 kr b h
theorem epaqG : E56 C L h K 242 [3] [(0,[3])] (r3 21 1 3 x21 x1 x3)=paqG h x3 (R1 K 2) := by kernel_rfl
noncomputable def pakM (kn : K2 β) : O β :=
 bnd (A.fieldAddr 2 x1) fun a =>
 bnd (A.load false 1 a h) fun b =>
 bnd (A.bin prog .gtr 5 b (.int .u8 0)) fun c =>
 toBK c fun d =>
 (bif d then
 kn (.bool true) x3 h
 else
 bnd (A.fieldAddr 4 x1) fun l =>
 bnd (A.load false 1 l h) fun m =>
 bnd (A.bin prog .gtr 34 m (.int .u16 0)) fun n =>
 toBK n fun o =>
 (bif o then
 kn (.bool true) x3 h
 else
 bnd (A.fieldAddr 1 x1) fun t =>
 bnd (A.load false 1 t h) fun u =>
 toBK u fun v =>
 kn (.bool v) x3 h))
theorem epakM : E56 C L h K 486 [32,3] [(0,[3])] (r3 21 1 3 x21 x1 x3)=pakM h x1 x3 (N2 K 32 3) := by kernel_rfl
noncomputable def pakN (kr kn : K1 β) : O β :=
 condV x32 (
 kr (.int .i64 (-1)) h) (
 kn x3 h)
theorem epakN : E56 C L h K 487 [3] [(0,[3])] (r2 32 3 x32 x3)=pakN h x3 x32 (R1 K 2) (N1 K 3) := by kernel_rfl
noncomputable def pafU (kr kn : K1 β) : O β :=
 pakM h x1 x3 (fun x32 x3 h=>pakN h x3 x32 kr kn)
def epafU:=(sq K (epakM C L h _ x1 x3 x21) (congrArg _ (w2 fun x32 x3 h=>sn (epakN ..))) (by kernel_rfl) : _=pafU h x1 x3 (R1 K 2) (N1 K 3))
noncomputable def paeN (kr kn : K1 β) : O β :=
 condV x21 (paqG h x3 kr) (pafU h x1 x3 kr kn)
def epaeN:=(cd K (.tmp 21) x21 (epaqG C L h K x1 x3 x21) (epafU C L h K x1 x3 x21) (by kernel_rfl) : _=paeN h x1 x3 x21 (R1 K 2) (N1 K 3))
noncomputable def padK (kr kn : K1 β) : O β :=
 pajA h x1 x3 (fun x21 x1 x3 h=>paeN h x1 x3 x21 kr kn)
def epadK:=(sq K (epajA C L h _ x1 x3) (congrArg _ (w3 fun x21 x1 x3 h=>sn (epaeN ..))) (by kernel_rfl) : _=padK h x1 x3 (R1 K 2) (N1 K 3))
noncomputable def paqH (kr : K1 β) : O β :=
 kr x3 h
theorem epaqH : E56 C L h K 31 [2] [] (r1 3 x3)=paqH h x3 (R1 K 2) := by kernel_rfl
noncomputable def pacR (C : CF) (L : Nat) {β : Type} (x1 x3 : V) (h : H) (kr : K1 β) : O β :=
 padK h x1 x3 kr (fun x3 h=>paqH h x3 kr)
def epacR:=(sq K (bk (epadK C L h _ x1 x3)) (congrArg _ (w1 fun x3 h=>sn (epaqH ..))) (by kernel_rfl) : _=pacR C L x1 x3 h (R1 K 2))
noncomputable def pabX (C : CF) (L : Nat) {β : Type} (x1 : V) (h : H) (kr : K1 β) : O β :=
 pakL C h x1 kr (fun x1 h=>panM h x1 (fun x1 x3 h=>pacR C L x1 x3 h kr))
def epabX:=(sq K (epakL C L h _ x1) (congrArg _ (w1 fun x1 h=>sn (sq K (epanM C L h _ x1) (congrArg _ (w2 fun x1 x3 h=>sn (epacR ..))) (by kernel_rfl)))) (by kernel_rfl) : _=pabX C L x1 h (R1 K 2))
noncomputable def p56a (kr : K1 β) : O β :=
 pakK h x0 (fun x1 h=>pabX C L x1 h kr)
def ep56a:=(sq K (epakK C L h _ x0) (congrArg _ (w1 fun x1 h=>sn (epabX ..))) (by kernel_rfl) : _=p56a C L h x0 (R1 K 2))
noncomputable def F56 (C : CF) (L : Nat) (x0 : V) (h : H) : O (V × H) :=
 p56a C L h x0 (fun x2 h=>some (x2,h))
theorem F56eq (Q : Orc) (n : Nat) (x0 : V) (h : H) (q : Q 56 [x0]=none) : callO prog 4 Q (n + 1) 56 [x0] h=F56 (callO prog 4 Q n) n x0 h :=
 (tp q Tryz.func56 (ep56a (callO prog 4 Q n) n h _ x0) (by kernel_rfl)).trans (by kernel_rfl)
noncomputable def c57a : Code := (Tryz.f57.body).getD .skip
noncomputable abbrev E57 (C : CF) (L : Nat) {β : Type} (h : H) (K : KK β) (n : Nat) (o : List Nat) (v : List (Nat × List Nat)) (r : T Value) : O β := execK prog C L 4 6 [2] (g c57a n) o v r h K
noncomputable def p57a (kr : K1 β) : O β :=
 bnd2 (A.box 24 x0 h) fun a b =>
 bnd (A.fieldAddr 4 a) fun d =>
 bnd (A.load false 1 d b) fun e =>
 bnd (A.bin prog .eql 34 e (.int .u16 0)) fun f =>
 toBK f fun i =>
 (bif i then
 kr (.int .i64 (-1)) b
 else
 kr (.int .i64 2) b)
theorem ep57a : E57 C L h K 1 [2] [] (r1 0 x0)=p57a h x0 (R1 K 2) := by kernel_rfl
noncomputable def F57 (C : CF) (L : Nat) (x0 : V) (h : H) : O (V × H) :=
 p57a h x0 (fun x2 h=>some (x2,h))
theorem F57eq (Q : Orc) (n : Nat) (x0 : V) (h : H) (q : Q 57 [x0]=none) : callO prog 4 Q (n + 1) 57 [x0] h=F57 (callO prog 4 Q n) n x0 h :=
 (tp q Tryz.func57 (ep57a (callO prog 4 Q n) n h _ x0) (by kernel_rfl)).trans (by kernel_rfl)
noncomputable def c58a : Code := (Tryz.f58.body).getD .skip
noncomputable abbrev E58 (C : CF) (L : Nat) {β : Type} (h : H) (K : KK β) (n : Nat) (o : List Nat) (v : List (Nat × List Nat)) (r : T Value) : O β := execK prog C L 4 48 [2] (g c58a n) o v r h K
noncomputable def pahZ (kn : K1 β) : O β :=
 bnd2 (A.box 24 x0 h) fun a b =>
 kn a b
theorem epahZ : E58 C L h K 2 [1] [] (r1 0 x0)=pahZ h x0 (N1 K 1) := by kernel_rfl
noncomputable def paiA (kn : K4 β) : O β :=
 bnd (A.load true 24 x1 h) fun a =>
 bnd2 (C 57 [a] h) fun b c =>
 kn x1 (.int .i64 1) (.int .u8 2) b c
theorem epaiA : E58 C L h K 6 [1,5,4,3] [] (r1 1 x1)=paiA C h x1 (N4 K 1 5 4 3) := by kernel_rfl
noncomputable def padP (C : CF) (L : Nat) {β : Type} (x1 x5 x4 x3 : V) (h : H) (kn : K4 β) : O β :=
 bnd (A.fieldAddr 0 x1) fun a =>
 bnd (A.load false 1 a h) fun b =>
 bnd (A.bin prog .eql 5 b (.int .u8 10)) fun c =>
 toBK c fun d =>
 (bif d then
 kn x1 (.int .i64 0) (.int .u8 0) x3 h
 else
 kn x1 x5 x4 x3 h)
theorem epadP : E58 C L h K 14 [1,5,4,3] [] (r4 1 5 4 3 x1 x5 x4 x3)=padP C L x1 x5 x4 x3 h (N4 K 1 5 4 3) := by kernel_rfl
noncomputable def pamB (kr : K1 β) (kn : K4 β) : O β :=
 bnd (A.bin prog .lss 3 x3 (.int .i64 0)) fun b =>
 toBK b fun c =>
 (bif c then
 kr (.int .i64 (-1)) h
 else
 bnd (A.fieldAddr 22 x1) fun i =>
 bnd (A.load false 1 i h) fun j =>
 bnd (A.lenS j) fun k =>
 bnd (A.bin prog .eql 3 k (.int .i64 0)) fun l =>
 toBK l fun m =>
 (bif m then
 kr (.int .i64 (-1)) h
 else
 kn x1 x5 x4 x3 h))
theorem epamB : E58 C L h K 30 [1,5,4,3] [] (r4 1 5 4 3 x1 x5 x4 x3)=pamB h x1 x3 x4 x5 (R1 K 2) (N4 K 1 5 4 3) := by kernel_rfl
noncomputable def paqI (kn : K6 β) : O β :=
 bnd (A.fieldAddr 22 x1) fun a =>
 bnd (A.load false 1 a h) fun b =>
 bnd (A.lenS b) fun c =>
 kn c (.int .i64 0) x5 x4 b x3 h
theorem epaqI : E58 C L h K 124 [23,24,5,4,22,3] [] (r4 1 5 4 3 x1 x5 x4 x3)=paqI h x1 x3 x4 x5 (N6 K 23 24 5 4 22 3) := by kernel_rfl
noncomputable def pajV (kn : K7 β) : O β :=
 bnd (A.bin prog .lss 3 x24 x23) fun a =>
 kn a x22 x4 x5 x23 x24 x3 h
theorem epajV : E58 C L h K 1000 [25,22,4,5,23,24,3] [(0,[3])] (r6 23 24 5 4 22 3 x23 x24 x5 x4 x22 x3)=pajV h x3 x4 x5 x22 x23 x24 (N7 K 25 22 4 5 23 24 3) := by kernel_rfl
noncomputable def pajW (kx0 : K1 β) (kn : K6 β) : O β :=
 condV x25 (
 kn x3 x24 x23 x5 x4 x22 h) (
 kx0 x3 h)
theorem epajW : E58 C L h K 2002 [3,24,23,5,4,22] [(0,[3])] (r7 25 22 4 5 23 24 3 x25 x22 x4 x5 x23 x24 x3)=pajW h x3 x4 x5 x22 x23 x24 x25 (X1 K 0 3) (N6 K 3 24 23 5 4 22) := by kernel_rfl
noncomputable def pamC (kr : K1 β) (kn : K6 β) : O β :=
 bnd (A.idxS 2 x22 x24) fun a =>
 bnd (A.load true 2 a h) fun b =>
 bnd2 (A.box 2 Z120 h) fun c d =>
 bnd (A.store 2 c b d) fun f =>
 bnd (A.fieldAddr 0 c) fun i =>
 bnd (A.load false 1 i f) fun j =>
 bnd2 (C 79 [j] f) fun k l =>
 toBK k fun m =>
 bnd (A.un prog .not (.bool m)) fun n =>
 toBK n fun o =>
 (bif o then
 kr (.int .i64 (-1)) l
 else
 bnd (A.fieldAddr 1 c) fun s =>
 bnd (A.load false 1 s l) fun t =>
 bnd (A.bin prog .gtr 5 t x4) fun v =>
 toBK v fun w =>
 (bif w then
 kr (.int .i64 (-1)) l
 else
 bnd (A.fieldAddr 0 c) fun b1 =>
 bnd (A.load false 1 b1 l) fun c1 =>
 bnd (A.lenStr c1) fun d1 =>
 bnd (A.bin prog .add 3 (.int .i64 2) d1) fun e1 =>
 bnd (A.bin prog .add 3 e1 x5) fun i1 =>
 bnd (A.bin prog .add 3 x3 i1) fun j1 =>
 kn x24 x23 x5 x4 x22 j1 l))
theorem epamC : E58 C L h K 8012 [24,23,5,4,22,3] [(1,[24,23,5,4,22,3]),(0,[3])] (r6 3 24 23 5 4 22 x3 x24 x23 x5 x4 x22)=pamC C h x3 x4 x5 x22 x23 x24 (R1 K 2) (N6 K 24 23 5 4 22 3) := by kernel_rfl
noncomputable def paqJ (kn : K6 β) : O β :=
 bnd (A.bin prog .add 3 x24 (.int .i64 1)) fun a =>
 kn x23 a x5 x4 x22 x3 h
theorem epaqJ : E58 C L h K 4007 [23,24,5,4,22,3] [(0,[3])] (r6 24 23 5 4 22 3 x24 x23 x5 x4 x22 x3)=paqJ h x3 x4 x5 x22 x23 x24 (N6 K 23 24 5 4 22 3) := by kernel_rfl
noncomputable def paeO (kr kx0 : K1 β) (kn : K6 β) : O β :=
 pajV h x3 x4 x5 x22 x23 x24 (fun x25 x22 x4 x5 x23 x24 x3 h=>pajW h x3 x4 x5 x22 x23 x24 x25 kx0 (fun x3 x24 x23 x5 x4 x22 h=>pamC C h x3 x4 x5 x22 x23 x24 kr (fun x24 x23 x5 x4 x22 x3 h=>paqJ h x3 x4 x5 x22 x23 x24 kn)))
def epaeO:=(sq K (epajV C L h _ x3 x4 x5 x22 x23 x24) (congrArg _ (w7 fun x25 x22 x4 x5 x23 x24 x3 h=>sn (sq K (epajW C L h _ x3 x4 x5 x22 x23 x24 x25) (congrArg _ (w6 fun x3 x24 x23 x5 x4 x22 h=>sn (sq K (bk (epamC C L h _ x3 x4 x5 x22 x23 x24)) (congrArg _ (w6 fun x24 x23 x5 x4 x22 x3 h=>sn (epaqJ ..))) (by kernel_rfl)))) (by kernel_rfl)))) (by kernel_rfl) : _=paeO C h x3 x4 x5 x22 x23 x24 (R1 K 2) (X1 K 0 3) (N6 K 23 24 5 4 22 3))
noncomputable def paiB (C : CF) (L : Nat) {β : Type} (kr kx0 : K1 β) : Nat → K6 β
 | 0,_,_,_,_,_,_,_ => none
 | n + 1,x23,x24,x5,x4,x22,x3,h => paeO C h x3 x4 x5 x22 x23 x24 kr kx0 (fun x23 x24 x5 x4 x22 x3 h=>paiB C L kr kx0 n x23 x24 x5 x4 x22 x3 h)
theorem epaiB (C : CF) (L : Nat) {β : Type} (K : KK β) : ∀ (n : Nat) (x23 x24 x5 x4 x22 x3 : V) (h : H),loopK (fun fr h K=>execK prog C L 4 48 [2] (g c58a 500) [23,24,5,4,22,3] [(0,[3])] fr h K) n (r6 23 24 5 4 22 3 x23 x24 x5 x4 x22 x3) h K=paiB C L (R1 K 2) (X1 K 0 3) n x23 x24 x5 x4 x22 x3 h
 | 0,_,_,_,_,_,_,_ => rfl
 | n + 1,x23,x24,x5,x4,x22,x3,h => (cg (epaeO C L h _ x3 x4 x5 x22 x23 x24) (by kernel_rfl)).trans (congrArg _ (w6 fun x23 x24 x5 x4 x22 x3 h=>sl (epaiB C L K n x23 x24 x5 x4 x22 x3 h)))
noncomputable def padN (kr kx0 : K1 β) : O β :=
 paiB C L kr kx0 L x23 x24 x5 x4 x22 x3 h
def epadN:=(lp [3] (r6 23 24 5 4 22 3 x23 x24 x5 x4 x22 x3) (epaiB C L K L x23 x24 x5 x4 x22 x3 h) (by kernel_rfl) : _=padN C L h x3 x4 x5 x22 x23 x24 (R1 K 2) (X1 K 0 3))
noncomputable def pacZ (kr kn : K1 β) : O β :=
 paqI h x1 x3 x4 x5 (fun x23 x24 x5 x4 x22 x3 h=>padN C L h x3 x4 x5 x22 x23 x24 kr kn)
def epacZ:=(sq K (epaqI C L h _ x1 x3 x4 x5) (congrArg _ (w6 fun x23 x24 x5 x4 x22 x3 h=>sn (bk (epadN ..)))) (by kernel_rfl) : _=pacZ C L h x1 x3 x4 x5 (R1 K 2) (N1 K 3))
noncomputable def paqK (kr : K1 β) : O β :=
 kr x3 h
theorem epaqK : E58 C L h K 63 [2] [] (r1 3 x3)=paqK h x3 (R1 K 2) := by kernel_rfl
noncomputable def p58a (kr : K1 β) : O β :=
 pahZ h x0 (fun x1 h=>paiA C h x1 (fun x1 x5 x4 x3 h=>padP C L x1 x5 x4 x3 h (fun x1 x5 x4 x3 h=>pamB h x1 x3 x4 x5 kr (fun x1 x5 x4 x3 h=>pacZ C L h x1 x3 x4 x5 kr (fun x3 h=>paqK h x3 kr)))))
def ep58a:=(sq K (epahZ C L h _ x0) (congrArg _ (w1 fun x1 h=>sn (sq K (epaiA C L h _ x1) (congrArg _ (w4 fun x1 x5 x4 x3 h=>sn (sq K (epadP C L h _ x1 x3 x4 x5) (congrArg _ (w4 fun x1 x5 x4 x3 h=>sn (sq K (epamB C L h _ x1 x3 x4 x5) (congrArg _ (w4 fun x1 x5 x4 x3 h=>sn (sq K (epacZ C L h _ x1 x3 x4 x5) (congrArg _ (w1 fun x3 h=>sn (epaqK ..))) (by kernel_rfl)))) (by kernel_rfl)))) (by kernel_rfl)))) (by kernel_rfl)))) (by kernel_rfl) : _=p58a C L h x0 (R1 K 2))
noncomputable def F58 (C : CF) (L : Nat) (x0 : V) (h : H) : O (V × H) :=
 p58a C L h x0 (fun x2 h=>some (x2,h))
theorem F58eq (Q : Orc) (n : Nat) (x0 : V) (h : H) (q : Q 58 [x0]=none) : callO prog 4 Q (n + 1) 58 [x0] h=F58 (callO prog 4 Q n) n x0 h :=
 (tp q Tryz.func58 (ep58a (callO prog 4 Q n) n h _ x0) (by kernel_rfl)).trans (by kernel_rfl)
noncomputable def c60a : Code := (Tryz.f60.body).getD .skip
noncomputable abbrev E60 (C : CF) (L : Nat) {β : Type} (h : H) (K : KK β) (n : Nat) (o : List Nat) (v : List (Nat × List Nat)) (r : T Value) : O β := execK prog C L 4 87 [2] (g c60a n) o v r h K
noncomputable def paiC (kn : K1 β) : O β :=
 bnd2 (A.box 24 x0 h) fun a b =>
 kn a b
theorem epaiC : E60 C L h K 2 [1] [] (r1 0 x0)=paiC h x0 (N1 K 1) := by kernel_rfl
noncomputable def pajD (kn : K2 β) : O β :=
 bnd (A.fieldAddr 22 x1) fun a =>
 bnd (A.load false 1 a h) fun b =>
 bnd (A.lenS b) fun c =>
 bnd (A.bin prog .gtr 3 c (.int .i64 0)) fun d =>
 toBK d fun e =>
 (bif e then
 bnd (A.fieldAddr 0 x1) fun i =>
 bnd (A.load false 1 i h) fun j =>
 bnd (A.bin prog .neq 5 j (.int .u8 8)) fun k =>
 toBK k fun l =>
 (bif l then
 bnd (A.fieldAddr 0 x1) fun o =>
 bnd (A.load false 1 o h) fun p =>
 bnd (A.bin prog .neq 5 p (.int .u8 10)) fun q =>
 toBK q fun r =>
 kn (.bool r) x1 h
 else
 kn (.bool false) x1 h)
 else
 kn (.bool false) x1 h)
theorem epajD : E60 C L h K 12 [17,1] [] (r1 1 x1)=pajD h x1 (N2 K 17 1) := by kernel_rfl
noncomputable def pajE (kr kn : K1 β) : O β :=
 condV x17 (
 kr (.bool false) h) (
 kn x1 h)
theorem epajE : E60 C L h K 13 [1] [] (r2 17 1 x17 x1)=pajE h x1 x17 (R1 K 2) (N1 K 1) := by kernel_rfl
noncomputable def pafI (C : CF) (L : Nat) {β : Type} (x1 : V) (h : H) (kr kn : K1 β) : O β :=
 pajD h x1 (fun x17 x1 h=>pajE h x1 x17 kr kn)
def epafI:=(sq K (epajD C L h _ x1) (congrArg _ (w2 fun x17 x1 h=>sn (epajE ..))) (by kernel_rfl) : _=pafI C L x1 h (R1 K 2) (N1 K 1))
noncomputable def paqO (kn : K2 β) : O β :=
 bnd2 (A.box 24 Z39 h) fun a b =>
 kn x1 a b
theorem epaqO : E60 C L h K 14 [1,3] [] (r1 1 x1)=paqO h x1 (N2 K 1 3) := by kernel_rfl
noncomputable def pahM (kn : K3 β) : O β :=
 bnd (A.fieldAddr 0 x1) fun a =>
 bnd (A.load false 1 a h) fun b =>
 kn b x1 x3 h
theorem epahM : E60 C L h K 60 [19,1,3] [] (r2 1 3 x1 x3)=pahM h x1 x3 (N3 K 19 1 3) := by kernel_rfl
noncomputable def pahN (kn : K4 β) : O β :=
 bnd (A.bin prog .eql 5 x19 (.int .u8 1)) fun a =>
 toBK a fun b =>
 kn (.bool b) x19 x1 x3 h
theorem epahN : E60 C L h K 244 [23,19,1,3] [(0,[1,3])] (r3 19 1 3 x19 x1 x3)=pahN h x1 x3 x19 (N4 K 23 19 1 3) := by kernel_rfl
noncomputable def paqQ (kn : K2 β) : O β :=
 bnd (A.fieldAddr 7 x1) fun a =>
 bnd (A.load false 1 a h) fun b =>
 bnd (A.fieldAddr 8 x1) fun c =>
 bnd (A.load false 1 c h) fun d =>
 toBK d fun e =>
 bnd (A.fieldAddr 9 x1) fun f =>
 bnd (A.load false 1 f h) fun i =>
 bnd (A.fieldAddr 10 x1) fun j =>
 bnd (A.load false 1 j h) fun k =>
 bnd (A.fieldAddr 11 x1) fun l =>
 bnd (A.load false 1 l h) fun m =>
 toBK m fun n =>
 bnd (A.fieldAddr 12 x1) fun o =>
 bnd (A.load true 4 o h) fun p =>
 bnd (A.fieldAddr 16 x1) fun q =>
 bnd (A.load false 1 q h) fun r =>
 toBK r fun s =>
 bnd (A.fieldAddr 17 x1) fun t =>
 bnd (A.load false 1 t h) fun u =>
 toBK u fun v =>
 bnd (A.fieldAddr 18 x1) fun w =>
 bnd (A.load false 1 w h) fun y =>
 bnd (A.fieldAddr 19 x1) fun z =>
 bnd (A.load false 1 z h) fun a1 =>
 bnd (A.build Z39L [(7,1,b),(8,1,(.bool e)),(9,1,i),(10,1,k),(11,1,(.bool n)),(12,4,p),(16,1,(.bool s)),(17,1,(.bool v)),(18,1,y),(19,1,a1)]) fun b1 =>
 bnd (A.store 24 x3 b1 h) fun d1 =>
 kn x1 x3 d1
theorem epaqQ : E60 C L h K 490 [1,3] [(0,[1,3])] (r4 23 19 1 3 x23 x19 x1 x3)=paqQ h x1 x3 (N2 K 1 3) := by kernel_rfl
noncomputable def pahT (kn : K4 β) : O β :=
 bnd (A.bin prog .eql 5 x19 (.int .u8 2)) fun a =>
 toBK a fun b =>
 kn (.bool b) x19 x1 x3 h
theorem epahT : E60 C L h K 982 [46,19,1,3] [(0,[1,3])] (r4 23 19 1 3 x23 x19 x1 x3)=pahT h x1 x3 x19 (N4 K 46 19 1 3) := by kernel_rfl
noncomputable def pauD (kn : K2 β) : O β :=
 bnd (A.fieldAddr 20 x1) fun a =>
 bnd (A.load false 1 a h) fun b =>
 toBK b fun c =>
 bnd (A.fieldAddr 21 x1) fun d =>
 bnd (A.load false 1 d h) fun e =>
 bnd (A.build Z39L [(20,1,(.bool c)),(21,1,e)]) fun f =>
 bnd (A.store 24 x3 f h) fun j =>
 kn x1 x3 j
theorem epauD : E60 C L h K 1966 [1,3] [(0,[1,3])] (r4 46 19 1 3 x46 x19 x1 x3)=pauD h x1 x3 (N2 K 1 3) := by kernel_rfl
noncomputable def paiD (kn : K4 β) : O β :=
 bnd (A.bin prog .eql 5 x19 (.int .u8 3)) fun a =>
 toBK a fun b =>
 kn (.bool b) x19 x1 x3 h
theorem epaiD : E60 C L h K 3934 [53,19,1,3] [(0,[1,3])] (r4 46 19 1 3 x46 x19 x1 x3)=paiD h x1 x3 x19 (N4 K 53 19 1 3) := by kernel_rfl
noncomputable def paqP (kn : K2 β) : O β :=
 bnd (A.fieldAddr 1 x1) fun a =>
 bnd (A.load false 1 a h) fun b =>
 toBK b fun c =>
 bnd (A.fieldAddr 2 x1) fun d =>
 bnd (A.load false 1 d h) fun e =>
 bnd (A.fieldAddr 3 x1) fun f =>
 bnd (A.load false 1 f h) fun i =>
 toBK i fun j =>
 bnd (A.fieldAddr 4 x1) fun k =>
 bnd (A.load false 1 k h) fun l =>
 bnd (A.fieldAddr 5 x1) fun m =>
 bnd (A.load false 1 m h) fun n =>
 bnd (A.fieldAddr 6 x1) fun o =>
 bnd (A.load false 1 o h) fun p =>
 bnd (A.build Z39L [(1,1,(.bool c)),(2,1,e),(3,1,(.bool j)),(4,1,l),(5,1,n),(6,1,p)]) fun q =>
 bnd (A.store 24 x3 q h) fun s =>
 kn x1 x3 s
theorem epaqP : E60 C L h K 7870 [1,3] [(0,[1,3])] (r4 53 19 1 3 x53 x19 x1 x3)=paqP h x1 x3 (N2 K 1 3) := by kernel_rfl
noncomputable def paiS (kn : K4 β) : O β :=
 bnd (A.bin prog .eql 5 x19 (.int .u8 9)) fun a =>
 toBK a fun b =>
 kn (.bool b) x19 x1 x3 h
theorem epaiS : E60 C L h K 15742 [68,19,1,3] [(0,[1,3])] (r4 53 19 1 3 x53 x19 x1 x3)=paiS h x1 x3 x19 (N4 K 68 19 1 3) := by kernel_rfl
noncomputable def pauC (kn : K2 β) : O β :=
 bnd (A.fieldAddr 4 x1) fun a =>
 bnd (A.load false 1 a h) fun b =>
 bnd (A.fieldAddr 23 x1) fun c =>
 bnd (A.load false 1 c h) fun d =>
 bnd (A.build Z39L [(4,1,b),(23,1,d)]) fun e =>
 bnd (A.store 24 x3 e h) fun i =>
 kn x1 x3 i
theorem epauC : E60 C L h K 31486 [1,3] [(0,[1,3])] (r4 68 19 1 3 x68 x19 x1 x3)=pauC h x1 x3 (N2 K 1 3) := by kernel_rfl
noncomputable def pajF (kn : K3 β) : O β :=
 bnd (A.bin prog .eql 5 x19 (.int .u8 12)) fun a =>
 toBK a fun b =>
 (bif b then
 kn (.bool b) x1 x3 h
 else
 bnd (A.bin prog .eql 5 x19 (.int .u8 13)) fun d =>
 toBK d fun e =>
 (bif e then
 kn (.bool e) x1 x3 h
 else
 bnd (A.bin prog .eql 5 x19 (.int .u8 14)) fun i =>
 toBK i fun j =>
 kn (.bool j) x1 x3 h))
theorem epajF : E60 C L h K 62974 [75,1,3] [(0,[1,3])] (r4 68 19 1 3 x68 x19 x1 x3)=pajF h x1 x3 x19 (N3 K 75 1 3) := by kernel_rfl
noncomputable def pajG (kn : K2 β) : O β :=
 condV x75 (
 kn x1 x3 h) (
 bnd (A.fieldAddr 4 x1) fun a =>
 bnd (A.load false 1 a h) fun b =>
 bnd (A.build Z39L [(4,1,b)]) fun c =>
 bnd (A.store 24 x3 c h) fun e =>
 kn x1 x3 e)
theorem epajG : E60 C L h K 62975 [1,3] [(0,[1,3])] (r3 75 1 3 x75 x1 x3)=pajG h x1 x3 x75 (N2 K 1 3) := by kernel_rfl
noncomputable def pafO (kn : K2 β) : O β :=
 pajF h x1 x3 x19 (fun x75 x1 x3 h=>pajG h x1 x3 x75 kn)
def epafO:=(sq K (epajF C L h _ x1 x3 x19 x68) (congrArg _ (w3 fun x75 x1 x3 h=>sn (epajG ..))) (by kernel_rfl) : _=pafO h x1 x3 x19 (N2 K 1 3))
noncomputable def paeF (kn : K2 β) : O β :=
 condV x68 (pauC h x1 x3 kn) (pafO h x1 x3 x19 kn)
def epaeF:=(cd K (.tmp 68) x68 (epauC C L h K x1 x3 x19 x68) (epafO C L h K x1 x3 x19 x68) (by kernel_rfl) : _=paeF h x1 x3 x19 x68 (N2 K 1 3))
noncomputable def padE (kn : K2 β) : O β :=
 paiS h x1 x3 x19 (fun x68 x19 x1 x3 h=>paeF h x1 x3 x19 x68 kn)
def epadE:=(sq K (epaiS C L h _ x1 x3 x19 x53) (congrArg _ (w4 fun x68 x19 x1 x3 h=>sn (epaeF ..))) (by kernel_rfl) : _=padE h x1 x3 x19 (N2 K 1 3))
noncomputable def pacI (kn : K2 β) : O β :=
 condV x53 (paqP h x1 x3 kn) (padE h x1 x3 x19 kn)
def epacI:=(cd K (.tmp 53) x53 (epaqP C L h K x1 x3 x19 x53) (epadE C L h K x1 x3 x19 x53) (by kernel_rfl) : _=pacI h x1 x3 x19 x53 (N2 K 1 3))
noncomputable def pabS (kn : K2 β) : O β :=
 paiD h x1 x3 x19 (fun x53 x19 x1 x3 h=>pacI h x1 x3 x19 x53 kn)
def epabS:=(sq K (epaiD C L h _ x1 x3 x19 x46) (congrArg _ (w4 fun x53 x19 x1 x3 h=>sn (epacI ..))) (by kernel_rfl) : _=pabS h x1 x3 x19 (N2 K 1 3))
noncomputable def pabH (kn : K2 β) : O β :=
 condV x46 (pauD h x1 x3 kn) (pabS h x1 x3 x19 kn)
def epabH:=(cd K (.tmp 46) x46 (epauD C L h K x1 x3 x19 x46) (epabS C L h K x1 x3 x19 x46) (by kernel_rfl) : _=pabH h x1 x3 x19 x46 (N2 K 1 3))
noncomputable def paaZ (kn : K2 β) : O β :=
 pahT h x1 x3 x19 (fun x46 x19 x1 x3 h=>pabH h x1 x3 x19 x46 kn)
def epaaZ:=(sq K (epahT C L h _ x1 x3 x19 x23) (congrArg _ (w4 fun x46 x19 x1 x3 h=>sn (epabH ..))) (by kernel_rfl) : _=paaZ h x1 x3 x19 (N2 K 1 3))
noncomputable def paaU (kn : K2 β) : O β :=
 condV x23 (paqQ h x1 x3 kn) (paaZ h x1 x3 x19 kn)
def epaaU:=(cd K (.tmp 23) x23 (epaqQ C L h K x1 x3 x19 x23) (epaaZ C L h K x1 x3 x19 x23) (by kernel_rfl) : _=paaU h x1 x3 x19 x23 (N2 K 1 3))
noncomputable def paaM (kn : K2 β) : O β :=
 pahN h x1 x3 x19 (fun x23 x19 x1 x3 h=>paaU h x1 x3 x19 x23 kn)
def epaaM:=(sq K (epahN C L h _ x1 x3 x19) (congrArg _ (w4 fun x23 x19 x1 x3 h=>sn (epaaU ..))) (by kernel_rfl) : _=paaM h x1 x3 x19 (N2 K 1 3))
noncomputable def paaH (C : CF) (L : Nat) {β : Type} (x1 x3 : V) (h : H) (kn : K2 β) : O β :=
 pahM h x1 x3 (fun x19 x1 x3 h=>paaM h x1 x3 x19 kn)
def epaaH:=(sq K (epahM C L h _ x1 x3) (congrArg _ (w3 fun x19 x1 x3 h=>sn (bk (epaaM ..)))) (by kernel_rfl) : _=paaH C L x1 x3 h (N2 K 1 3))
noncomputable def pamG (C : CF) (L : Nat) {β : Type} (x1 x3 : V) (h : H) (kr : K1 β) : O β :=
 bnd (A.fieldAddr 0 x1) fun a =>
 bnd (A.load false 1 a h) fun b =>
 bnd (A.fieldAddr 0 x3) fun c =>
 bnd (A.store 1 c b h) fun e =>
 bnd (A.load true 24 x1 e) fun f =>
 bnd2 (C 80 [f] e) fun i j =>
 bnd (A.load true 24 x3 j) fun k =>
 bif (chk (bnd (A.load true 24 x3 e) fun v => some v) k && true) then
 bnd2 (C 80 [k] j) fun l m =>
 bnd (A.bin prog .eql 150 i l) fun n =>
 toBK n fun o =>
 kr (.bool o) m
 else none
theorem epamG : E60 C L h K 31 [2] [] (r2 1 3 x1 x3)=pamG C L x1 x3 h (R1 K 2) := by kernel_rfl
noncomputable def p60a (kr : K1 β) : O β :=
 paiC h x0 (fun x1 h=>pafI C L x1 h kr (fun x1 h=>paqO h x1 (fun x1 x3 h=>paaH C L x1 x3 h (fun x1 x3 h=>pamG C L x1 x3 h kr))))
def ep60a:=(sq K (epaiC C L h _ x0) (congrArg _ (w1 fun x1 h=>sn (sq K (epafI C L h _ x1) (congrArg _ (w1 fun x1 h=>sn (sq K (epaqO C L h _ x1) (congrArg _ (w2 fun x1 x3 h=>sn (sq K (epaaH C L h _ x1 x3) (congrArg _ (w2 fun x1 x3 h=>sn (epamG ..))) (by kernel_rfl)))) (by kernel_rfl)))) (by kernel_rfl)))) (by kernel_rfl) : _=p60a C L h x0 (R1 K 2))
noncomputable def F60 (C : CF) (L : Nat) (x0 : V) (h : H) : O (V × H) :=
 p60a C L h x0 (fun x2 h=>some (x2,h))
theorem F60eq (Q : Orc) (n : Nat) (x0 : V) (h : H) (q : Q 60 [x0]=none) : callO prog 4 Q (n + 1) 60 [x0] h=F60 (callO prog 4 Q n) n x0 h :=
 (tp q Tryz.func60 (ep60a (callO prog 4 Q n) n h _ x0) (by kernel_rfl)).trans (by kernel_rfl)
noncomputable def c80a : Code := (Tryz.f80.body).getD .skip
noncomputable abbrev E80 (C : CF) (L : Nat) {β : Type} (h : H) (K : KK β) (n : Nat) (o : List Nat) (v : List (Nat × List Nat)) (r : T Value) : O β := execK prog C L 4 44 [2] (g c80a n) o v r h K
noncomputable def pauU (kn : K2 β) : O β :=
 bnd2 (A.box 24 x0 h) fun a b =>
 bnd2 (A.box 23 Z150 b) fun c d =>
 kn a c d
theorem epauU : E80 C L h K 2 [1,2] [] (r1 0 x0)=pauU h x0 (N2 K 1 2) := by kernel_rfl
noncomputable def pauV (kn : K1 β) : O β :=
 bnd (A.fieldAddr 0 x1) fun a =>
 bnd (A.load false 1 a h) fun b =>
 bnd (A.fieldAddr 2 x1) fun c =>
 bnd (A.load false 1 c h) fun d =>
 bnd (A.fieldAddr 7 x1) fun e =>
 bnd (A.load false 1 e h) fun f =>
 bnd (A.fieldAddr 21 x1) fun i =>
 bnd (A.load false 1 i h) fun j =>
 bnd (A.fieldAddr 1 x1) fun k =>
 bnd (A.load false 1 k h) fun l =>
 toBK l fun m =>
 bnd (A.fieldAddr 3 x1) fun n =>
 bnd (A.load false 1 n h) fun o =>
 toBK o fun p =>
 bnd (A.fieldAddr 8 x1) fun q =>
 bnd (A.load false 1 q h) fun r =>
 toBK r fun s =>
 bnd (A.fieldAddr 11 x1) fun t =>
 bnd (A.load false 1 t h) fun u =>
 toBK u fun v =>
 bnd (A.fieldAddr 16 x1) fun w =>
 bnd (A.load false 1 w h) fun y =>
 toBK y fun z =>
 bnd (A.fieldAddr 17 x1) fun a1 =>
 bnd (A.load false 1 a1 h) fun b1 =>
 toBK b1 fun c1 =>
 bnd (A.fieldAddr 20 x1) fun d1 =>
 bnd (A.load false 1 d1 h) fun e1 =>
 toBK e1 fun f1 =>
 bnd (A.fieldAddr 4 x1) fun i1 =>
 bnd (A.load false 1 i1 h) fun j1 =>
 bnd (A.fieldAddr 9 x1) fun k1 =>
 bnd (A.load false 1 k1 h) fun l1 =>
 bnd (A.fieldAddr 5 x1) fun m1 =>
 bnd (A.load false 1 m1 h) fun n1 =>
 bnd (A.fieldAddr 6 x1) fun o1 =>
 bnd (A.load false 1 o1 h) fun p1 =>
 bnd (A.fieldAddr 10 x1) fun q1 =>
 bnd (A.load false 1 q1 h) fun r1 =>
 bnd (A.fieldAddr 18 x1) fun s1 =>
 bnd (A.load false 1 s1 h) fun t1 =>
 bnd (A.fieldAddr 19 x1) fun u1 =>
 bnd (A.load false 1 u1 h) fun v1 =>
 bnd (A.fieldAddr 23 x1) fun w1 =>
 bnd (A.load false 1 w1 h) fun y1 =>
 bnd (A.fieldAddr 12 x1) fun z1 =>
 bnd (A.load true 4 z1 h) fun a2 =>
 bnd (A.build Z150L [(0,1,b),(1,1,d),(2,1,f),(3,1,j),(4,1,(.bool m)),(5,1,(.bool p)),(6,1,(.bool s)),(7,1,(.bool v)),(8,1,(.bool z)),(9,1,(.bool c1)),(10,1,(.bool f1)),(11,1,j1),(12,1,l1),(13,1,n1),(14,1,p1),(15,1,r1),(16,1,t1),(17,1,v1),(18,1,y1),(19,4,a2)]) fun b2 =>
 bnd (A.store 23 x2 b2 h) fun d2 =>
 kn x2 d2
theorem epauV : E80 C L h K 6 [2] [] (r2 1 2 x1 x2)=pauV h x1 x2 (N1 K 2) := by kernel_rfl
noncomputable def pauW (kr : K1 β) : O β :=
 kr x2 h
theorem epauW : E80 C L h K 7 [2] [] (r1 2 x2)=pauW h x2 (R1 K 2) := by kernel_rfl
noncomputable def p80a (kr : K1 β) : O β :=
 pauU h x0 (fun x1 x2 h=>pauV h x1 x2 (fun x2 h=>pauW h x2 kr))
def ep80a:=(sq K (epauU C L h _ x0) (congrArg _ (w2 fun x1 x2 h=>sn (sq K (epauV C L h _ x1 x2) (congrArg _ (w1 fun x2 h=>sn (epauW ..))) (by kernel_rfl)))) (by kernel_rfl) : _=p80a h x0 (R1 K 2))
noncomputable def F80 (C : CF) (L : Nat) (x0 : V) (h : H) : O (V × H) :=
 p80a h x0 (fun x2 h=>bnd (resC (A.load true 23 x2 h) (some [])) fun vs => some (packA vs,h))
theorem F80eq (Q : Orc) (n : Nat) (x0 : V) (h : H) (q : Q 80 [x0]=none) : callO prog 4 Q (n + 1) 80 [x0] h=F80 (callO prog 4 Q n) n x0 h :=
 (tp q Tryz.func80 (ep80a (callO prog 4 Q n) n h _ x0) (by kernel_rfl)).trans (by kernel_rfl)
end Go.Proofs.YtfodhidpefednaaGreatDoor.AnB
