import Derived.Test.YtdljlmpleibkiaaGreatDoorProg
import Derived.Test.YtdljlmpleibkiaaGreatDoorRq
set_option linter.unusedVariables false
set_option maxRecDepth 100000
namespace Go.Proofs.YtdljlmpleibkiaaGreatDoor.ScB
open Tryz (prog)
open Go Go.AM
variable (C : CF) (L : Nat) {β : Type} (h : H) (K : Ex → T Value → Kv0 β)
noncomputable def Z74L : List Value := [(.string ⟨⟨[]⟩⟩),(.string ⟨⟨[]⟩⟩),(.int .u8 0),(.bool false)]
noncomputable def Z110 : Value := (.agg ⟨[(.string ⟨⟨[]⟩⟩),(.int .u8 0)]⟩)
noncomputable def Z110L : List Value := [(.string ⟨⟨[]⟩⟩),(.int .u8 0)]
noncomputable def Z77 : Value := (.agg ⟨[(.int .u8 0),(.bool false),(.int .u8 0),(.bool false),(.int .u16 0),(.string ⟨⟨[]⟩⟩),(.string ⟨⟨[]⟩⟩),(.int .u8 0),(.bool false),(.int .u16 0),(.string ⟨⟨[]⟩⟩),(.bool false),(.string ⟨⟨[]⟩⟩),(.string ⟨⟨[]⟩⟩),(.int .u8 0),(.bool false),(.bool false),(.bool false),(.string ⟨⟨[]⟩⟩),(.string ⟨⟨[]⟩⟩),(.bool false),(.int .u8 0),(.slice none 0 0),(.string ⟨⟨[]⟩⟩)]⟩)
noncomputable def Z77L : List Value := [(.int .u8 0),(.bool false),(.int .u8 0),(.bool false),(.int .u16 0),(.string ⟨⟨[]⟩⟩),(.string ⟨⟨[]⟩⟩),(.int .u8 0),(.bool false),(.int .u16 0),(.string ⟨⟨[]⟩⟩),(.bool false),(.string ⟨⟨[]⟩⟩),(.string ⟨⟨[]⟩⟩),(.int .u8 0),(.bool false),(.bool false),(.bool false),(.string ⟨⟨[]⟩⟩),(.string ⟨⟨[]⟩⟩),(.bool false),(.int .u8 0),(.slice none 0 0),(.string ⟨⟨[]⟩⟩)]
noncomputable def Z230 : Value := (.agg ⟨[(.int .u8 0),(.int .u8 0),(.int .u8 0),(.int .u8 0),(.bool false),(.bool false),(.bool false),(.bool false),(.bool false),(.bool false),(.bool false),(.int .u16 0),(.int .u16 0),(.string ⟨⟨[]⟩⟩),(.string ⟨⟨[]⟩⟩),(.string ⟨⟨[]⟩⟩),(.string ⟨⟨[]⟩⟩),(.string ⟨⟨[]⟩⟩),(.string ⟨⟨[]⟩⟩),(.string ⟨⟨[]⟩⟩),(.string ⟨⟨[]⟩⟩),(.int .u8 0),(.bool false)]⟩)
noncomputable def Z230L : List Value := [(.int .u8 0),(.int .u8 0),(.int .u8 0),(.int .u8 0),(.bool false),(.bool false),(.bool false),(.bool false),(.bool false),(.bool false),(.bool false),(.int .u16 0),(.int .u16 0),(.string ⟨⟨[]⟩⟩),(.string ⟨⟨[]⟩⟩),(.string ⟨⟨[]⟩⟩),(.string ⟨⟨[]⟩⟩),(.string ⟨⟨[]⟩⟩),(.string ⟨⟨[]⟩⟩),(.string ⟨⟨[]⟩⟩),(.string ⟨⟨[]⟩⟩),(.int .u8 0),(.bool false)]
noncomputable def c85a : Code := (Tryz.f85.body).getD .skip
noncomputable def caxD : Code := cL c85a
noncomputable def paxD (C : CF) (L : Nat) {β : Type} (x0 : Value) (h : H) (kn : Kv1 β) : Option β :=
 bnd2 (A.box 24 x0 h) fun t1 hq1 =>
 kn t1 hq1
theorem epaxD (x0 : Value) :
  execK prog C L 0 62 [2] caxD [1] [] (fs [(0,x0)]) h K =
   paxD C L x0 h (fun x1 h => K .normal (fs [(1,x1)]) h) := by
 kernel_rfl
noncomputable def caaS : Code := cR c85a
noncomputable def caxE : Code := cL caaS
noncomputable def paxE (C : CF) (L : Nat) {β : Type} (x1 : Value) (h : H) (kn : Kv2 β) : Option β :=
 kn x1 (.int .i64 (-1)) h
theorem epaxE (x1 : Value) :
  execK prog C L 0 62 [2] caxE [1,3] [] (fs [(1,x1)]) h K =
   paxE C L x1 h (fun x1 x3 h => K .normal (fs [(1,x1),(3,x3)]) h) := by
 kernel_rfl
noncomputable def caaV : Code := cR caaS
noncomputable def caaZ : Code := cL caaV
noncomputable def canI : Code := cL caaZ
noncomputable def panI (C : CF) (L : Nat) {β : Type} (x1 x3 : Value) (h : H) (kn : Kv3 β) : Option β :=
 bnd (A.fieldAddr 0 x1) fun t4 =>
 bnd (A.load false 1 t4 h) fun t5 =>
 kn t5 x1 x3 h
theorem epanI (x1 x3 : Value) :
  execK prog C L 0 62 [2] canI [5,1,3] [] (fs [(1,x1),(3,x3)]) h K =
   panI C L x1 x3 h (fun x5 x1 x3 h => K .normal (fs [(5,x5),(1,x1),(3,x3)]) h) := by
 kernel_rfl
noncomputable def cabG : Code := cR caaZ
noncomputable def cabH : Code := cL cabG
noncomputable def canJ : Code := cL cabH
noncomputable def panJ (C : CF) (L : Nat) {β : Type} (x5 x1 x3 : Value) (h : H) (kn : Kv4 β) : Option β :=
 bnd (A.bin prog .eql 5 x5 (.int .u8 1)) fun t7 =>
 toBK t7 fun b =>
 kn (.bool b) x5 x1 x3 h
theorem epanJ (x5 x1 x3 : Value) :
  execK prog C L 0 62 [2] canJ [6,5,1,3] [(0,[1,3])] (fs [(5,x5),(1,x1),(3,x3)]) h K =
   panJ C L x5 x1 x3 h (fun x6 x5 x1 x3 h => K .normal (fs [(6,x6),(5,x5),(1,x1),(3,x3)]) h) := by
 kernel_rfl
noncomputable def cabL : Code := cR cabH
noncomputable def cayG : Code := cL cabL
noncomputable def payG (C : CF) (L : Nat) {β : Type} (x6 x5 x1 x3 : Value) (h : H) (kn : Kv2 β) : Option β :=
 bnd (A.load true 24 x1 h) fun t8 =>
 bnd2 (C 106 [t8] h) fun t9 hq1 =>
 kn x1 t9 hq1
theorem epayG (x6 x5 x1 x3 : Value) :
  execK prog C L 0 62 [2] cayG [1,3] [(0,[1,3])] (fs [(6,x6),(5,x5),(1,x1),(3,x3)]) h K =
   payG C L x6 x5 x1 x3 h (fun x1 x3 h => K .normal (fs [(1,x1),(3,x3)]) h) := by
 kernel_rfl
noncomputable def cabO : Code := cR cabL
noncomputable def caoQ : Code := cL cabO
noncomputable def paoQ (C : CF) (L : Nat) {β : Type} (x6 x5 x1 x3 : Value) (h : H) (kn : Kv4 β) : Option β :=
 bnd (A.bin prog .eql 5 x5 (.int .u8 2)) fun t11 =>
 toBK t11 fun b =>
 kn (.bool b) x5 x1 x3 h
theorem epaoQ (x6 x5 x1 x3 : Value) :
  execK prog C L 0 62 [2] caoQ [10,5,1,3] [(0,[1,3])] (fs [(6,x6),(5,x5),(1,x1),(3,x3)]) h K =
   paoQ C L x6 x5 x1 x3 h (fun x10 x5 x1 x3 h => K .normal (fs [(10,x10),(5,x5),(1,x1),(3,x3)]) h) := by
 kernel_rfl
noncomputable def cabW : Code := cR cabO
noncomputable def camA : Code := cL cabW
noncomputable def cayE : Code := cL camA
noncomputable def payE (C : CF) (L : Nat) {β : Type} (x10 x5 x1 x3 : Value) (h : H) (kn : Kv3 β) : Option β :=
 bnd (A.fieldAddr 21 x1) fun t12 =>
 bnd (A.load false 1 t12 h) fun t13 =>
 bnd (A.bin prog .leq 5 t13 (.int .u8 5)) fun t14 =>
 toBK t14 fun b =>
 (bif b then
 bnd (A.fieldAddr 21 x1) fun t16 =>
 bnd (A.load false 1 t16 h) fun t17 =>
 bnd (A.bin prog .eql 5 t17 (.int .u8 0)) fun t18 =>
 toBK t18 fun bq1 =>
 (bif bq1 then
 kn (.bool true) x1 x3 h
 else
 bnd (A.fieldAddr 20 x1) fun t20 =>
 bnd (A.load false 1 t20 h) fun t21 =>
 toBK t21 fun bq2 =>
 bnd (A.un prog .not (.bool bq2)) fun t22 =>
 toBK t22 fun bq3 =>
 kn (.bool bq3) x1 x3 h)
 else
 kn (.bool false) x1 x3 h)
theorem epayE (x10 x5 x1 x3 : Value) :
  execK prog C L 0 62 [2] cayE [24,1,3] [(0,[1,3])] (fs [(10,x10),(5,x5),(1,x1),(3,x3)]) h K =
   payE C L x10 x5 x1 x3 h (fun x24 x1 x3 h => K .normal (fs [(24,x24),(1,x1),(3,x3)]) h) := by
 kernel_rfl
noncomputable def cayF : Code := cR camA
noncomputable def payF (C : CF) (L : Nat) {β : Type} (x24 x1 x3 : Value) (h : H) (kn : Kv2 β) : Option β :=
 condV x24 (
 kn x1 (.int .i64 2) h) (
 kn x1 x3 h)
theorem epayF (x24 x1 x3 : Value) :
  execK prog C L 0 62 [2] cayF [1,3] [(0,[1,3])] (fs [(24,x24),(1,x1),(3,x3)]) h K =
   payF C L x24 x1 x3 h (fun x1 x3 h => K .normal (fs [(1,x1),(3,x3)]) h) := by
 kernel_rfl
noncomputable def pamA (C : CF) (L : Nat) {β : Type} (x10 x5 x1 x3 : Value) (h : H) (kn : Kv2 β) : Option β :=
 payE C L x10 x5 x1 x3 h (fun x24 x1 x3 h => payF C L x24 x1 x3 h kn)
theorem epamA (x10 x5 x1 x3 : Value) :
  execK prog C L 0 62 [2] camA [1,3] [(0,[1,3])] (fs [(10,x10),(5,x5),(1,x1),(3,x3)]) h K =
   pamA C L x10 x5 x1 x3 h (fun x1 x3 h => K .normal (fs [(1,x1),(3,x3)]) h) := by
 rw [execK_seq (a := cayE) (b := cayF) (by kernel_rfl) (show live [2] cayF [1,3] [(0,[1,3])] = [24,1,3] by kernel_rfl),epayE]
 unfold pamA
 exact (congrArg (payE C L x10 x5 x1 x3 h) (funext fun x24=>funext fun x1=>funext fun x3=>funext fun h => (seqK_n _ _ _).trans (epayF C L h K x24 x1 x3)))
noncomputable def cacI : Code := cR cabW
noncomputable def caoR : Code := cL cacI
noncomputable def paoR (C : CF) (L : Nat) {β : Type} (x10 x5 x1 x3 : Value) (h : H) (kn : Kv4 β) : Option β :=
 bnd (A.bin prog .eql 5 x5 (.int .u8 3)) fun t26 =>
 toBK t26 fun b =>
 kn (.bool b) x5 x1 x3 h
theorem epaoR (x10 x5 x1 x3 : Value) :
  execK prog C L 0 62 [2] caoR [25,5,1,3] [(0,[1,3])] (fs [(10,x10),(5,x5),(1,x1),(3,x3)]) h K =
   paoR C L x10 x5 x1 x3 h (fun x25 x5 x1 x3 h => K .normal (fs [(25,x25),(5,x5),(1,x1),(3,x3)]) h) := by
 kernel_rfl
noncomputable def cacT : Code := cR cacI
noncomputable def cayD : Code := cL cacT
noncomputable def payD (C : CF) (L : Nat) {β : Type} (x25 x5 x1 x3 : Value) (h : H) (kn : Kv2 β) : Option β :=
 bnd (A.load true 24 x1 h) fun t27 =>
 bnd2 (C 107 [t27] h) fun t28 hq1 =>
 kn x1 t28 hq1
theorem epayD (x25 x5 x1 x3 : Value) :
  execK prog C L 0 62 [2] cayD [1,3] [(0,[1,3])] (fs [(25,x25),(5,x5),(1,x1),(3,x3)]) h K =
   payD C L x25 x5 x1 x3 h (fun x1 x3 h => K .normal (fs [(1,x1),(3,x3)]) h) := by
 kernel_rfl
noncomputable def cadB : Code := cR cacT
noncomputable def caiU : Code := cL cadB
noncomputable def capW : Code := cL caiU
noncomputable def papW (C : CF) (L : Nat) {β : Type} (x25 x5 x1 x3 : Value) (h : H) (kn : Kv4 β) : Option β :=
 bnd (A.bin prog .eql 5 x5 (.int .u8 4)) fun t30 =>
 toBK t30 fun b =>
 kn (.bool b) x5 x1 x3 h
theorem epapW (x25 x5 x1 x3 : Value) :
  execK prog C L 0 62 [2] capW [29,5,1,3] [(0,[1,3])] (fs [(25,x25),(5,x5),(1,x1),(3,x3)]) h K =
   papW C L x25 x5 x1 x3 h (fun x29 x5 x1 x3 h => K .normal (fs [(29,x29),(5,x5),(1,x1),(3,x3)]) h) := by
 kernel_rfl
noncomputable def calE : Code := cR caiU
noncomputable def caxZ : Code := cL calE
noncomputable def paxZ (C : CF) (L : Nat) {β : Type} (x29 x5 x1 x3 : Value) (h : H) (kn : Kv4 β) : Option β :=
 kn x29 x5 x1 x3 h
theorem epaxZ (x29 x5 x1 x3 : Value) :
  execK prog C L 0 62 [2] caxZ [29,5,1,3] [(0,[1,3])] (fs [(29,x29),(5,x5),(1,x1),(3,x3)]) h K =
   paxZ C L x29 x5 x1 x3 h (fun x29 x5 x1 x3 h => K .normal (fs [(29,x29),(5,x5),(1,x1),(3,x3)]) h) := by
 kernel_rfl
noncomputable def casU : Code := cR calE
noncomputable def pasU (C : CF) (L : Nat) {β : Type} (x29 x5 x1 x3 : Value) (h : H) (kn : Kv4 β) : Option β :=
 bnd (A.bin prog .eql 5 x5 (.int .u8 5)) fun t31 =>
 toBK t31 fun b =>
 (bif b then
 kn (.bool b) x5 x1 x3 h
 else
 bnd (A.bin prog .eql 5 x5 (.int .u8 6)) fun t32 =>
 toBK t32 fun bq1 =>
 (bif bq1 then
 kn (.bool bq1) x5 x1 x3 h
 else
 bnd (A.bin prog .eql 5 x5 (.int .u8 7)) fun t33 =>
 toBK t33 fun bq2 =>
 (bif bq2 then
 kn (.bool bq2) x5 x1 x3 h
 else
 bnd (A.bin prog .eql 5 x5 (.int .u8 11)) fun t34 =>
 toBK t34 fun bq3 =>
 kn (.bool bq3) x5 x1 x3 h)))
theorem epasU (x29 x5 x1 x3 : Value) :
  execK prog C L 0 62 [2] casU [29,5,1,3] [(0,[1,3])] (fs [(29,x29),(5,x5),(1,x1),(3,x3)]) h K =
   pasU C L x29 x5 x1 x3 h (fun x29 x5 x1 x3 h => K .normal (fs [(29,x29),(5,x5),(1,x1),(3,x3)]) h) := by
 kernel_rfl
noncomputable def palE (C : CF) (L : Nat) {β : Type} (x29 x5 x1 x3 : Value) (h : H) (kn : Kv4 β) : Option β :=
 condV x29 (paxZ C L x29 x5 x1 x3 h kn) (pasU C L x29 x5 x1 x3 h kn)
theorem epalE (x29 x5 x1 x3 : Value) :
  execK prog C L 0 62 [2] calE [29,5,1,3] [(0,[1,3])] (fs [(29,x29),(5,x5),(1,x1),(3,x3)]) h K =
   palE C L x29 x5 x1 x3 h (fun x29 x5 x1 x3 h => K .normal (fs [(29,x29),(5,x5),(1,x1),(3,x3)]) h) := by
 rw [execK_cond (a := caxZ) (b := casU) (x := (.tmp 29)) (v := x29) (by kernel_rfl) (by kernel_rfl),epaxZ,epasU]
 unfold palE
 rfl
noncomputable def paiU (C : CF) (L : Nat) {β : Type} (x25 x5 x1 x3 : Value) (h : H) (kn : Kv4 β) : Option β :=
 papW C L x25 x5 x1 x3 h (fun x29 x5 x1 x3 h => palE C L x29 x5 x1 x3 h kn)
theorem epaiU (x25 x5 x1 x3 : Value) :
  execK prog C L 0 62 [2] caiU [29,5,1,3] [(0,[1,3])] (fs [(25,x25),(5,x5),(1,x1),(3,x3)]) h K =
   paiU C L x25 x5 x1 x3 h (fun x29 x5 x1 x3 h => K .normal (fs [(29,x29),(5,x5),(1,x1),(3,x3)]) h) := by
 rw [execK_seq (a := capW) (b := calE) (by kernel_rfl) (show live [2] calE [29,5,1,3] [(0,[1,3])] = [29,5,1,3] by kernel_rfl),epapW]
 unfold paiU
 exact (congrArg (papW C L x25 x5 x1 x3 h) (funext fun x29=>funext fun x5=>funext fun x1=>funext fun x3=>funext fun h => (seqK_n _ _ _).trans (epalE C L h K x29 x5 x1 x3)))
noncomputable def caeR : Code := cR cadB
noncomputable def capX : Code := cL caeR
noncomputable def papX (C : CF) (L : Nat) {β : Type} (x29 x5 x1 x3 : Value) (h : H) (kn : Kv2 β) : Option β :=
 bnd (A.load true 24 x1 h) fun t35 =>
 bnd2 (C 108 [t35] h) fun t36 hq1 =>
 kn x1 t36 hq1
theorem epapX (x29 x5 x1 x3 : Value) :
  execK prog C L 0 62 [2] capX [1,3] [(0,[1,3])] (fs [(29,x29),(5,x5),(1,x1),(3,x3)]) h K =
   papX C L x29 x5 x1 x3 h (fun x1 x3 h => K .normal (fs [(1,x1),(3,x3)]) h) := by
 kernel_rfl
noncomputable def cafP : Code := cR caeR
noncomputable def casV : Code := cL cafP
noncomputable def pasV (C : CF) (L : Nat) {β : Type} (x29 x5 x1 x3 : Value) (h : H) (kn : Kv4 β) : Option β :=
 bnd (A.bin prog .eql 5 x5 (.int .u8 8)) fun t38 =>
 toBK t38 fun b =>
 (bif b then
 kn (.bool b) x5 x1 x3 h
 else
 bnd (A.bin prog .eql 5 x5 (.int .u8 10)) fun t39 =>
 toBK t39 fun bq1 =>
 kn (.bool bq1) x5 x1 x3 h)
theorem epasV (x29 x5 x1 x3 : Value) :
  execK prog C L 0 62 [2] casV [37,5,1,3] [(0,[1,3])] (fs [(29,x29),(5,x5),(1,x1),(3,x3)]) h K =
   pasV C L x29 x5 x1 x3 h (fun x37 x5 x1 x3 h => K .normal (fs [(37,x37),(5,x5),(1,x1),(3,x3)]) h) := by
 kernel_rfl
noncomputable def cagV : Code := cR cafP
noncomputable def caxF : Code := cL cagV
noncomputable def paxF (C : CF) (L : Nat) {β : Type} (x37 x5 x1 x3 : Value) (h : H) (kn : Kv2 β) : Option β :=
 bnd (A.load true 24 x1 h) fun t40 =>
 bnd2 (C 109 [t40] h) fun t41 hq1 =>
 kn x1 t41 hq1
theorem epaxF (x37 x5 x1 x3 : Value) :
  execK prog C L 0 62 [2] caxF [1,3] [(0,[1,3])] (fs [(37,x37),(5,x5),(1,x1),(3,x3)]) h K =
   paxF C L x37 x5 x1 x3 h (fun x1 x3 h => K .normal (fs [(1,x1),(3,x3)]) h) := by
 kernel_rfl
noncomputable def caiD : Code := cR cagV
noncomputable def cayA : Code := cL caiD
noncomputable def payA (C : CF) (L : Nat) {β : Type} (x37 x5 x1 x3 : Value) (h : H) (kn : Kv4 β) : Option β :=
 bnd (A.bin prog .eql 5 x5 (.int .u8 9)) fun t43 =>
 toBK t43 fun b =>
 kn (.bool b) x5 x1 x3 h
theorem epayA (x37 x5 x1 x3 : Value) :
  execK prog C L 0 62 [2] cayA [42,5,1,3] [(0,[1,3])] (fs [(37,x37),(5,x5),(1,x1),(3,x3)]) h K =
   payA C L x37 x5 x1 x3 h (fun x42 x5 x1 x3 h => K .normal (fs [(42,x42),(5,x5),(1,x1),(3,x3)]) h) := by
 kernel_rfl
noncomputable def cajQ : Code := cR caiD
noncomputable def cayS : Code := cL cajQ
noncomputable def payS (C : CF) (L : Nat) {β : Type} (x42 x5 x1 x3 : Value) (h : H) (kn : Kv2 β) : Option β :=
 bnd (A.load true 24 x1 h) fun t44 =>
 bnd2 (C 110 [t44] h) fun t45 hq1 =>
 kn x1 t45 hq1
theorem epayS (x42 x5 x1 x3 : Value) :
  execK prog C L 0 62 [2] cayS [1,3] [(0,[1,3])] (fs [(42,x42),(5,x5),(1,x1),(3,x3)]) h K =
   payS C L x42 x5 x1 x3 h (fun x1 x3 h => K .normal (fs [(1,x1),(3,x3)]) h) := by
 kernel_rfl
noncomputable def calZ : Code := cR cajQ
noncomputable def cayB : Code := cL calZ
noncomputable def payB (C : CF) (L : Nat) {β : Type} (x42 x5 x1 x3 : Value) (h : H) (kn : Kv3 β) : Option β :=
 bnd (A.bin prog .eql 5 x5 (.int .u8 12)) fun t47 =>
 toBK t47 fun b =>
 (bif b then
 kn (.bool b) x1 x3 h
 else
 bnd (A.bin prog .eql 5 x5 (.int .u8 13)) fun t48 =>
 toBK t48 fun bq1 =>
 (bif bq1 then
 kn (.bool bq1) x1 x3 h
 else
 bnd (A.bin prog .eql 5 x5 (.int .u8 14)) fun t49 =>
 toBK t49 fun bq2 =>
 kn (.bool bq2) x1 x3 h))
theorem epayB (x42 x5 x1 x3 : Value) :
  execK prog C L 0 62 [2] cayB [46,1,3] [(0,[1,3])] (fs [(42,x42),(5,x5),(1,x1),(3,x3)]) h K =
   payB C L x42 x5 x1 x3 h (fun x46 x1 x3 h => K .normal (fs [(46,x46),(1,x1),(3,x3)]) h) := by
 kernel_rfl
noncomputable def cayC : Code := cR calZ
noncomputable def payC (C : CF) (L : Nat) {β : Type} (x46 x1 x3 : Value) (h : H) (kn : Kv2 β) : Option β :=
 condV x46 (
 kn x1 (.int .i64 0) h) (
 kn x1 x3 h)
theorem epayC (x46 x1 x3 : Value) :
  execK prog C L 0 62 [2] cayC [1,3] [(0,[1,3])] (fs [(46,x46),(1,x1),(3,x3)]) h K =
   payC C L x46 x1 x3 h (fun x1 x3 h => K .normal (fs [(1,x1),(3,x3)]) h) := by
 kernel_rfl
noncomputable def palZ (C : CF) (L : Nat) {β : Type} (x42 x5 x1 x3 : Value) (h : H) (kn : Kv2 β) : Option β :=
 payB C L x42 x5 x1 x3 h (fun x46 x1 x3 h => payC C L x46 x1 x3 h kn)
theorem epalZ (x42 x5 x1 x3 : Value) :
  execK prog C L 0 62 [2] calZ [1,3] [(0,[1,3])] (fs [(42,x42),(5,x5),(1,x1),(3,x3)]) h K =
   palZ C L x42 x5 x1 x3 h (fun x1 x3 h => K .normal (fs [(1,x1),(3,x3)]) h) := by
 rw [execK_seq (a := cayB) (b := cayC) (by kernel_rfl) (show live [2] cayC [1,3] [(0,[1,3])] = [46,1,3] by kernel_rfl),epayB]
 unfold palZ
 exact (congrArg (payB C L x42 x5 x1 x3 h) (funext fun x46=>funext fun x1=>funext fun x3=>funext fun h => (seqK_n _ _ _).trans (epayC C L h K x46 x1 x3)))
noncomputable def pajQ (C : CF) (L : Nat) {β : Type} (x42 x5 x1 x3 : Value) (h : H) (kn : Kv2 β) : Option β :=
 condV x42 (payS C L x42 x5 x1 x3 h kn) (palZ C L x42 x5 x1 x3 h kn)
theorem epajQ (x42 x5 x1 x3 : Value) :
  execK prog C L 0 62 [2] cajQ [1,3] [(0,[1,3])] (fs [(42,x42),(5,x5),(1,x1),(3,x3)]) h K =
   pajQ C L x42 x5 x1 x3 h (fun x1 x3 h => K .normal (fs [(1,x1),(3,x3)]) h) := by
 rw [execK_cond (a := cayS) (b := calZ) (x := (.tmp 42)) (v := x42) (by kernel_rfl) (by kernel_rfl),epayS,epalZ]
 unfold pajQ
 rfl
noncomputable def paiD (C : CF) (L : Nat) {β : Type} (x37 x5 x1 x3 : Value) (h : H) (kn : Kv2 β) : Option β :=
 payA C L x37 x5 x1 x3 h (fun x42 x5 x1 x3 h => pajQ C L x42 x5 x1 x3 h kn)
theorem epaiD (x37 x5 x1 x3 : Value) :
  execK prog C L 0 62 [2] caiD [1,3] [(0,[1,3])] (fs [(37,x37),(5,x5),(1,x1),(3,x3)]) h K =
   paiD C L x37 x5 x1 x3 h (fun x1 x3 h => K .normal (fs [(1,x1),(3,x3)]) h) := by
 rw [execK_seq (a := cayA) (b := cajQ) (by kernel_rfl) (show live [2] cajQ [1,3] [(0,[1,3])] = [42,5,1,3] by kernel_rfl),epayA]
 unfold paiD
 exact (congrArg (payA C L x37 x5 x1 x3 h) (funext fun x42=>funext fun x5=>funext fun x1=>funext fun x3=>funext fun h => (seqK_n _ _ _).trans (epajQ C L h K x42 x5 x1 x3)))
noncomputable def pagV (C : CF) (L : Nat) {β : Type} (x37 x5 x1 x3 : Value) (h : H) (kn : Kv2 β) : Option β :=
 condV x37 (paxF C L x37 x5 x1 x3 h kn) (paiD C L x37 x5 x1 x3 h kn)
theorem epagV (x37 x5 x1 x3 : Value) :
  execK prog C L 0 62 [2] cagV [1,3] [(0,[1,3])] (fs [(37,x37),(5,x5),(1,x1),(3,x3)]) h K =
   pagV C L x37 x5 x1 x3 h (fun x1 x3 h => K .normal (fs [(1,x1),(3,x3)]) h) := by
 rw [execK_cond (a := caxF) (b := caiD) (x := (.tmp 37)) (v := x37) (by kernel_rfl) (by kernel_rfl),epaxF,epaiD]
 unfold pagV
 rfl
noncomputable def pafP (C : CF) (L : Nat) {β : Type} (x29 x5 x1 x3 : Value) (h : H) (kn : Kv2 β) : Option β :=
 pasV C L x29 x5 x1 x3 h (fun x37 x5 x1 x3 h => pagV C L x37 x5 x1 x3 h kn)
theorem epafP (x29 x5 x1 x3 : Value) :
  execK prog C L 0 62 [2] cafP [1,3] [(0,[1,3])] (fs [(29,x29),(5,x5),(1,x1),(3,x3)]) h K =
   pafP C L x29 x5 x1 x3 h (fun x1 x3 h => K .normal (fs [(1,x1),(3,x3)]) h) := by
 rw [execK_seq (a := casV) (b := cagV) (by kernel_rfl) (show live [2] cagV [1,3] [(0,[1,3])] = [37,5,1,3] by kernel_rfl),epasV]
 unfold pafP
 exact (congrArg (pasV C L x29 x5 x1 x3 h) (funext fun x37=>funext fun x5=>funext fun x1=>funext fun x3=>funext fun h => (seqK_n _ _ _).trans (epagV C L h K x37 x5 x1 x3)))
noncomputable def paeR (C : CF) (L : Nat) {β : Type} (x29 x5 x1 x3 : Value) (h : H) (kn : Kv2 β) : Option β :=
 condV x29 (papX C L x29 x5 x1 x3 h kn) (pafP C L x29 x5 x1 x3 h kn)
theorem epaeR (x29 x5 x1 x3 : Value) :
  execK prog C L 0 62 [2] caeR [1,3] [(0,[1,3])] (fs [(29,x29),(5,x5),(1,x1),(3,x3)]) h K =
   paeR C L x29 x5 x1 x3 h (fun x1 x3 h => K .normal (fs [(1,x1),(3,x3)]) h) := by
 rw [execK_cond (a := capX) (b := cafP) (x := (.tmp 29)) (v := x29) (by kernel_rfl) (by kernel_rfl),epapX,epafP]
 unfold paeR
 rfl
noncomputable def padB (C : CF) (L : Nat) {β : Type} (x25 x5 x1 x3 : Value) (h : H) (kn : Kv2 β) : Option β :=
 paiU C L x25 x5 x1 x3 h (fun x29 x5 x1 x3 h => paeR C L x29 x5 x1 x3 h kn)
theorem epadB (x25 x5 x1 x3 : Value) :
  execK prog C L 0 62 [2] cadB [1,3] [(0,[1,3])] (fs [(25,x25),(5,x5),(1,x1),(3,x3)]) h K =
   padB C L x25 x5 x1 x3 h (fun x1 x3 h => K .normal (fs [(1,x1),(3,x3)]) h) := by
 rw [execK_seq (a := caiU) (b := caeR) (by kernel_rfl) (show live [2] caeR [1,3] [(0,[1,3])] = [29,5,1,3] by kernel_rfl),epaiU]
 unfold padB
 exact (congrArg (paiU C L x25 x5 x1 x3 h) (funext fun x29=>funext fun x5=>funext fun x1=>funext fun x3=>funext fun h => (seqK_n _ _ _).trans (epaeR C L h K x29 x5 x1 x3)))
noncomputable def pacT (C : CF) (L : Nat) {β : Type} (x25 x5 x1 x3 : Value) (h : H) (kn : Kv2 β) : Option β :=
 condV x25 (payD C L x25 x5 x1 x3 h kn) (padB C L x25 x5 x1 x3 h kn)
theorem epacT (x25 x5 x1 x3 : Value) :
  execK prog C L 0 62 [2] cacT [1,3] [(0,[1,3])] (fs [(25,x25),(5,x5),(1,x1),(3,x3)]) h K =
   pacT C L x25 x5 x1 x3 h (fun x1 x3 h => K .normal (fs [(1,x1),(3,x3)]) h) := by
 rw [execK_cond (a := cayD) (b := cadB) (x := (.tmp 25)) (v := x25) (by kernel_rfl) (by kernel_rfl),epayD,epadB]
 unfold pacT
 rfl
noncomputable def pacI (C : CF) (L : Nat) {β : Type} (x10 x5 x1 x3 : Value) (h : H) (kn : Kv2 β) : Option β :=
 paoR C L x10 x5 x1 x3 h (fun x25 x5 x1 x3 h => pacT C L x25 x5 x1 x3 h kn)
theorem epacI (x10 x5 x1 x3 : Value) :
  execK prog C L 0 62 [2] cacI [1,3] [(0,[1,3])] (fs [(10,x10),(5,x5),(1,x1),(3,x3)]) h K =
   pacI C L x10 x5 x1 x3 h (fun x1 x3 h => K .normal (fs [(1,x1),(3,x3)]) h) := by
 rw [execK_seq (a := caoR) (b := cacT) (by kernel_rfl) (show live [2] cacT [1,3] [(0,[1,3])] = [25,5,1,3] by kernel_rfl),epaoR]
 unfold pacI
 exact (congrArg (paoR C L x10 x5 x1 x3 h) (funext fun x25=>funext fun x5=>funext fun x1=>funext fun x3=>funext fun h => (seqK_n _ _ _).trans (epacT C L h K x25 x5 x1 x3)))
noncomputable def pabW (C : CF) (L : Nat) {β : Type} (x10 x5 x1 x3 : Value) (h : H) (kn : Kv2 β) : Option β :=
 condV x10 (pamA C L x10 x5 x1 x3 h kn) (pacI C L x10 x5 x1 x3 h kn)
theorem epabW (x10 x5 x1 x3 : Value) :
  execK prog C L 0 62 [2] cabW [1,3] [(0,[1,3])] (fs [(10,x10),(5,x5),(1,x1),(3,x3)]) h K =
   pabW C L x10 x5 x1 x3 h (fun x1 x3 h => K .normal (fs [(1,x1),(3,x3)]) h) := by
 rw [execK_cond (a := camA) (b := cacI) (x := (.tmp 10)) (v := x10) (by kernel_rfl) (by kernel_rfl),epamA,epacI]
 unfold pabW
 rfl
noncomputable def pabO (C : CF) (L : Nat) {β : Type} (x6 x5 x1 x3 : Value) (h : H) (kn : Kv2 β) : Option β :=
 paoQ C L x6 x5 x1 x3 h (fun x10 x5 x1 x3 h => pabW C L x10 x5 x1 x3 h kn)
theorem epabO (x6 x5 x1 x3 : Value) :
  execK prog C L 0 62 [2] cabO [1,3] [(0,[1,3])] (fs [(6,x6),(5,x5),(1,x1),(3,x3)]) h K =
   pabO C L x6 x5 x1 x3 h (fun x1 x3 h => K .normal (fs [(1,x1),(3,x3)]) h) := by
 rw [execK_seq (a := caoQ) (b := cabW) (by kernel_rfl) (show live [2] cabW [1,3] [(0,[1,3])] = [10,5,1,3] by kernel_rfl),epaoQ]
 unfold pabO
 exact (congrArg (paoQ C L x6 x5 x1 x3 h) (funext fun x10=>funext fun x5=>funext fun x1=>funext fun x3=>funext fun h => (seqK_n _ _ _).trans (epabW C L h K x10 x5 x1 x3)))
noncomputable def pabL (C : CF) (L : Nat) {β : Type} (x6 x5 x1 x3 : Value) (h : H) (kn : Kv2 β) : Option β :=
 condV x6 (payG C L x6 x5 x1 x3 h kn) (pabO C L x6 x5 x1 x3 h kn)
theorem epabL (x6 x5 x1 x3 : Value) :
  execK prog C L 0 62 [2] cabL [1,3] [(0,[1,3])] (fs [(6,x6),(5,x5),(1,x1),(3,x3)]) h K =
   pabL C L x6 x5 x1 x3 h (fun x1 x3 h => K .normal (fs [(1,x1),(3,x3)]) h) := by
 rw [execK_cond (a := cayG) (b := cabO) (x := (.tmp 6)) (v := x6) (by kernel_rfl) (by kernel_rfl),epayG,epabO]
 unfold pabL
 rfl
noncomputable def pabH (C : CF) (L : Nat) {β : Type} (x5 x1 x3 : Value) (h : H) (kn : Kv2 β) : Option β :=
 panJ C L x5 x1 x3 h (fun x6 x5 x1 x3 h => pabL C L x6 x5 x1 x3 h kn)
theorem epabH (x5 x1 x3 : Value) :
  execK prog C L 0 62 [2] cabH [1,3] [(0,[1,3])] (fs [(5,x5),(1,x1),(3,x3)]) h K =
   pabH C L x5 x1 x3 h (fun x1 x3 h => K .normal (fs [(1,x1),(3,x3)]) h) := by
 rw [execK_seq (a := canJ) (b := cabL) (by kernel_rfl) (show live [2] cabL [1,3] [(0,[1,3])] = [6,5,1,3] by kernel_rfl),epanJ]
 unfold pabH
 exact (congrArg (panJ C L x5 x1 x3 h) (funext fun x6=>funext fun x5=>funext fun x1=>funext fun x3=>funext fun h => (seqK_n _ _ _).trans (epabL C L h K x6 x5 x1 x3)))
noncomputable def pabG (C : CF) (L : Nat) {β : Type} (x5 x1 x3 : Value) (h : H) (kn : Kv2 β) : Option β :=
 pabH C L x5 x1 x3 h kn
theorem epabG (x5 x1 x3 : Value) :
  execK prog C L 0 62 [2] cabG [1,3] [] (fs [(5,x5),(1,x1),(3,x3)]) h K =
   pabG C L x5 x1 x3 h (fun x1 x3 h => K .normal (fs [(1,x1),(3,x3)]) h) := by
 rw [execK_block (b := cabH) (id := 0) (by kernel_rfl),epabH]
 unfold pabG
 rfl
noncomputable def paaZ (C : CF) (L : Nat) {β : Type} (x1 x3 : Value) (h : H) (kn : Kv2 β) : Option β :=
 panI C L x1 x3 h (fun x5 x1 x3 h => pabG C L x5 x1 x3 h kn)
theorem epaaZ (x1 x3 : Value) :
  execK prog C L 0 62 [2] caaZ [1,3] [] (fs [(1,x1),(3,x3)]) h K =
   paaZ C L x1 x3 h (fun x1 x3 h => K .normal (fs [(1,x1),(3,x3)]) h) := by
 rw [execK_seq (a := canI) (b := cabG) (by kernel_rfl) (show live [2] cabG [1,3] [] = [5,1,3] by kernel_rfl),epanI]
 unfold paaZ
 exact (congrArg (panI C L x1 x3 h) (funext fun x5=>funext fun x1=>funext fun x3=>funext fun h => (seqK_n _ _ _).trans (epabG C L h K x5 x1 x3)))
noncomputable def casW : Code := cR caaV
noncomputable def pasW (C : CF) (L : Nat) {β : Type} (x1 x3 : Value) (h : H) (kr : Kv1 β) : Option β :=
 bnd (A.bin prog .lss 3 x3 (.int .i64 0)) fun t51 =>
 toBK t51 fun b =>
 (bif b then
 kr (.int .i64 (-1)) h
 else
 bnd (A.bin prog .gtr 3 x3 (.int .i64 268435455)) fun t54 =>
 toBK t54 fun bq1 =>
 (bif bq1 then
 kr (.int .i64 (-1)) h
 else
 bnd (A.load true 24 x1 h) fun t57 =>
 bnd2 (C 111 [t57] h) fun t58 hq1 =>
 toBK t58 fun bq2 =>
 bnd (A.un prog .not (.bool bq2)) fun t59 =>
 toBK t59 fun bq3 =>
 (bif bq3 then
 kr (.int .i64 (-1)) hq1
 else
 kr x3 hq1)))
theorem epasW (x1 x3 : Value) :
  execK prog C L 0 62 [2] casW [2] [] (fs [(1,x1),(3,x3)]) h K =
   pasW C L x1 x3 h (fun x2 h => K .ret (fs [(2,x2)]) h) := by
 kernel_rfl
noncomputable def p85a (C : CF) (L : Nat) {β : Type} (x0 : Value) (h : H) (kr : Kv1 β) : Option β :=
 paxD C L x0 h (fun x1 h => paxE C L x1 h (fun x1 x3 h => paaZ C L x1 x3 h (fun x1 x3 h => pasW C L x1 x3 h kr)))
theorem ep85a (x0 : Value) :
  execK prog C L 0 62 [2] c85a [2] [] (fs [(0,x0)]) h K =
   p85a C L x0 h (fun x2 h => K .ret (fs [(2,x2)]) h) := by
 rw [execK_seq (a := caxD) (b := caaS) (by kernel_rfl) (show live [2] caaS [2] [] = [1] by kernel_rfl),epaxD]
 unfold p85a
 exact (congrArg (paxD C L x0 h) (funext fun x1=>funext fun h => (seqK_n _ _ _).trans (by rw [execK_seq (a := caxE) (b := caaV) (by kernel_rfl) (show live [2] caaV [2] [] = [1,3] by kernel_rfl),epaxE]; exact (congrArg (paxE C L x1 h) (funext fun x1=>funext fun x3=>funext fun h => (seqK_n _ _ _).trans (by rw [execK_seq (a := caaZ) (b := casW) (by kernel_rfl) (show live [2] casW [2] [] = [1,3] by kernel_rfl),epaaZ]; exact (congrArg (paaZ C L x1 x3 h) (funext fun x1=>funext fun x3=>funext fun h => (seqK_n _ _ _).trans (epasW C L h K x1 x3)))))))))
noncomputable def F85 (C : CF) (L : Nat) (x0 : Value) (h : H) : Option (Value × H) :=
 p85a C L x0 h
  (fun x2 h => some (x2,h))
theorem F85eq (Q : Orc) (n : Nat) (x0 : Value) (h : H) (hQ : Q 85 [x0] = none) : callO prog 0 Q (n + 1) 85 [x0] h = F85 (callO prog 0 Q n) n x0 h := by
 rw [callO_eq hQ (c := c85a) (nt := 62) (RR := [2]) (fr := (fs [(0,x0)])) Tryz.func85 (by kernel_rfl) (by kernel_rfl) (by kernel_rfl) (by kernel_rfl) (by kernel_rfl),ep85a]
 kernel_rfl
noncomputable def c106a : Code := (Tryz.f106.body).getD .skip
noncomputable def caqB : Code := cL c106a
noncomputable def paqB (C : CF) (L : Nat) {β : Type} (x0 : Value) (h : H) (kn : Kv1 β) : Option β :=
 bnd2 (A.box 24 x0 h) fun t1 hq1 =>
 kn t1 hq1
theorem epaqB (x0 : Value) :
  execK prog C L 0 90 [2] caqB [1] [] (fs [(0,x0)]) h K =
   paqB C L x0 h (fun x1 h => K .normal (fs [(1,x1)]) h) := by
 kernel_rfl
noncomputable def cacX : Code := cR c106a
noncomputable def caqC : Code := cL cacX
noncomputable def paqC (C : CF) (L : Nat) {β : Type} (x1 : Value) (h : H) (kr : Kv1 β) (kn : Kv1 β) : Option β :=
 bnd (A.fieldAddr 7 x1) fun t4 =>
 bnd (A.load false 1 t4 h) fun t5 =>
 bnd (A.bin prog .neq 5 t5 (.int .u8 4)) fun t6 =>
 toBK t6 fun b =>
 (bif b then
 kr (.int .i64 (-1)) h
 else
 bnd (A.fieldAddr 10 x1) fun t8 =>
 bnd (A.load false 1 t8 h) fun t9 =>
 bnd2 (C 140 [t9] h) fun t10 hq1 =>
 toBK t10 fun bq1 =>
 bnd (A.un prog .not (.bool bq1)) fun t11 =>
 toBK t11 fun bq2 =>
 (bif bq2 then
 kr (.int .i64 (-1)) hq1
 else
 kn x1 hq1))
theorem epaqC (x1 : Value) :
  execK prog C L 0 90 [2] caqC [1] [] (fs [(1,x1)]) h K =
   paqC C L x1 h (fun x2 h => K .ret (fs [(2,x2)]) h) (fun x1 h => K .normal (fs [(1,x1)]) h) := by
 kernel_rfl
noncomputable def cadE : Code := cR cacX
noncomputable def caqD : Code := cL cadE
noncomputable def paqD (C : CF) (L : Nat) {β : Type} (x1 : Value) (h : H) (kn : Kv2 β) : Option β :=
 bnd (A.fieldAddr 10 x1) fun t13 =>
 bnd (A.load false 1 t13 h) fun t14 =>
 bnd (A.lenStr t14) fun t15 =>
 bnd (A.bin prog .add 3 (.int .i64 12) t15) fun t16 =>
 kn x1 t16 h
theorem epaqD (x1 : Value) :
  execK prog C L 0 90 [2] caqD [1,3] [] (fs [(1,x1)]) h K =
   paqD C L x1 h (fun x1 x3 h => K .normal (fs [(1,x1),(3,x3)]) h) := by
 kernel_rfl
noncomputable def cadH : Code := cR cadE
noncomputable def cagH : Code := cL cadH
noncomputable def caqE : Code := cL cagH
noncomputable def paqE (C : CF) (L : Nat) {β : Type} (x1 x3 : Value) (h : H) (kn : Kv3 β) : Option β :=
 bnd (A.fieldAddr 11 x1) fun t17 =>
 bnd (A.load false 1 t17 h) fun t18 =>
 toBK t18 fun b =>
 kn (.bool b) x1 x3 h
theorem epaqE (x1 x3 : Value) :
  execK prog C L 0 90 [2] caqE [18,1,3] [] (fs [(1,x1),(3,x3)]) h K =
   paqE C L x1 x3 h (fun x18 x1 x3 h => K .normal (fs [(18,x18),(1,x1),(3,x3)]) h) := by
 kernel_rfl
noncomputable def cahR : Code := cR cagH
noncomputable def cajE : Code := cL cahR
noncomputable def calK : Code := cL cajE
noncomputable def casZ : Code := cL calK
noncomputable def pasZ (C : CF) (L : Nat) {β : Type} (x18 x1 x3 : Value) (h : H) (kn : Kv3 β) : Option β :=
 bnd (A.fieldAddr 12 x1) fun t19 =>
 bnd (A.fieldAddr 0 t19) fun t20 =>
 bnd (A.load false 1 t20 h) fun t21 =>
 bnd2 (C 141 [t21] h) fun t22 hq1 =>
 toBK t22 fun b =>
 bnd (A.un prog .not (.bool b)) fun t23 =>
 toBK t23 fun bq1 =>
 (bif bq1 then
 kn (.bool true) x3 x1 hq1
 else
 bnd (A.fieldAddr 12 x1) fun t25 =>
 bnd (A.fieldAddr 1 t25) fun t26 =>
 bnd (A.load false 1 t26 hq1) fun t27 =>
 bnd (A.lenStr t27) fun t28 =>
 bnd (A.bin prog .gtr 3 t28 (.int .i64 65535)) fun t29 =>
 toBK t29 fun bq2 =>
 (bif bq2 then
 kn (.bool true) x3 x1 hq1
 else
 bnd (A.fieldAddr 12 x1) fun t32 =>
 bnd (A.fieldAddr 2 t32) fun t33 =>
 bnd (A.load false 1 t33 hq1) fun t34 =>
 bnd (A.bin prog .gtr 5 t34 (.int .u8 2)) fun t35 =>
 toBK t35 fun bq3 =>
 kn (.bool bq3) x3 x1 hq1))
theorem epasZ (x18 x1 x3 : Value) :
  execK prog C L 0 90 [2] casZ [36,3,1] [] (fs [(18,x18),(1,x1),(3,x3)]) h K =
   pasZ C L x18 x1 x3 h (fun x36 x3 x1 h => K .normal (fs [(36,x36),(3,x3),(1,x1)]) h) := by
 kernel_rfl
noncomputable def catA : Code := cR calK
noncomputable def patA (C : CF) (L : Nat) {β : Type} (x36 x3 x1 : Value) (h : H) (kr : Kv1 β) (kn : Kv2 β) : Option β :=
 condV x36 (
 kr (.int .i64 (-1)) h) (
 kn x3 x1 h)
theorem epatA (x36 x3 x1 : Value) :
  execK prog C L 0 90 [2] catA [3,1] [] (fs [(36,x36),(3,x3),(1,x1)]) h K =
   patA C L x36 x3 x1 h (fun x2 h => K .ret (fs [(2,x2)]) h) (fun x3 x1 h => K .normal (fs [(3,x3),(1,x1)]) h) := by
 kernel_rfl
noncomputable def palK (C : CF) (L : Nat) {β : Type} (x18 x1 x3 : Value) (h : H) (kr : Kv1 β) (kn : Kv2 β) : Option β :=
 pasZ C L x18 x1 x3 h (fun x36 x3 x1 h => patA C L x36 x3 x1 h kr kn)
theorem epalK (x18 x1 x3 : Value) :
  execK prog C L 0 90 [2] calK [3,1] [] (fs [(18,x18),(1,x1),(3,x3)]) h K =
   palK C L x18 x1 x3 h (fun x2 h => K .ret (fs [(2,x2)]) h) (fun x3 x1 h => K .normal (fs [(3,x3),(1,x1)]) h) := by
 rw [execK_seq (a := casZ) (b := catA) (by kernel_rfl) (show live [2] catA [3,1] [] = [36,3,1] by kernel_rfl),epasZ]
 unfold palK
 exact (congrArg (pasZ C L x18 x1 x3 h) (funext fun x36=>funext fun x3=>funext fun x1=>funext fun h => (seqK_n _ _ _).trans (epatA C L h K x36 x3 x1)))
noncomputable def catB : Code := cR cajE
noncomputable def patB (C : CF) (L : Nat) {β : Type} (x3 x1 : Value) (h : H) (kn : Kv2 β) : Option β :=
 bnd (A.fieldAddr 12 x1) fun t38 =>
 bnd (A.fieldAddr 0 t38) fun t39 =>
 bnd (A.load false 1 t39 h) fun t40 =>
 bnd (A.lenStr t40) fun t41 =>
 bnd (A.bin prog .add 3 (.int .i64 4) t41) fun t42 =>
 bnd (A.fieldAddr 12 x1) fun t43 =>
 bnd (A.fieldAddr 1 t43) fun t44 =>
 bnd (A.load false 1 t44 h) fun t45 =>
 bnd (A.lenStr t45) fun t46 =>
 bnd (A.bin prog .add 3 t42 t46) fun t47 =>
 bnd (A.bin prog .add 3 x3 t47) fun t48 =>
 kn x1 t48 h
theorem epatB (x3 x1 : Value) :
  execK prog C L 0 90 [2] catB [1,3] [] (fs [(3,x3),(1,x1)]) h K =
   patB C L x3 x1 h (fun x1 x3 h => K .normal (fs [(1,x1),(3,x3)]) h) := by
 kernel_rfl
noncomputable def pajE (C : CF) (L : Nat) {β : Type} (x18 x1 x3 : Value) (h : H) (kn : Kv2 β) (kr : Kv1 β) : Option β :=
 palK C L x18 x1 x3 h kr (fun x3 x1 h => patB C L x3 x1 h kn)
theorem epajE (x18 x1 x3 : Value) :
  execK prog C L 0 90 [2] cajE [1,3] [] (fs [(18,x18),(1,x1),(3,x3)]) h K =
   pajE C L x18 x1 x3 h (fun x1 x3 h => K .normal (fs [(1,x1),(3,x3)]) h) (fun x2 h => K .ret (fs [(2,x2)]) h) := by
 rw [execK_seq (a := calK) (b := catB) (by kernel_rfl) (show live [2] catB [1,3] [] = [3,1] by kernel_rfl),epalK]
 unfold pajE
 exact (congr (congrArg (palK C L x18 x1 x3 h) (funext fun x2=>funext fun h => seqK_r _ _ _)) (funext fun x3=>funext fun x1=>funext fun h => (seqK_n _ _ _).trans (epatB C L h K x3 x1)))
noncomputable def caxK : Code := cR cahR
noncomputable def paxK (C : CF) (L : Nat) {β : Type} (x18 x1 x3 : Value) (h : H) (kr : Kv1 β) (kn : Kv2 β) : Option β :=
 bnd (A.fieldAddr 12 x1) fun t49 =>
 bnd (A.load true 4 t49 h) fun t50 =>
 bnd (A.build Z74L []) fun t51 =>
 bnd (A.bin prog .neq 74 t50 t51) fun t52 =>
 toBK t52 fun b =>
 (bif b then
 kr (.int .i64 (-1)) h
 else
 kn x1 x3 h)
theorem epaxK (x18 x1 x3 : Value) :
  execK prog C L 0 90 [2] caxK [1,3] [] (fs [(18,x18),(1,x1),(3,x3)]) h K =
   paxK C L x18 x1 x3 h (fun x2 h => K .ret (fs [(2,x2)]) h) (fun x1 x3 h => K .normal (fs [(1,x1),(3,x3)]) h) := by
 kernel_rfl
noncomputable def pahR (C : CF) (L : Nat) {β : Type} (x18 x1 x3 : Value) (h : H) (kn : Kv2 β) (kr : Kv1 β) : Option β :=
 condV x18 (pajE C L x18 x1 x3 h kn kr) (paxK C L x18 x1 x3 h kr kn)
theorem epahR (x18 x1 x3 : Value) :
  execK prog C L 0 90 [2] cahR [1,3] [] (fs [(18,x18),(1,x1),(3,x3)]) h K =
   pahR C L x18 x1 x3 h (fun x1 x3 h => K .normal (fs [(1,x1),(3,x3)]) h) (fun x2 h => K .ret (fs [(2,x2)]) h) := by
 rw [execK_cond (a := cajE) (b := caxK) (x := (.tmp 18)) (v := x18) (by kernel_rfl) (by kernel_rfl),epajE,epaxK]
 unfold pahR
 rfl
noncomputable def pagH (C : CF) (L : Nat) {β : Type} (x1 x3 : Value) (h : H) (kn : Kv2 β) (kr : Kv1 β) : Option β :=
 paqE C L x1 x3 h (fun x18 x1 x3 h => pahR C L x18 x1 x3 h kn kr)
theorem epagH (x1 x3 : Value) :
  execK prog C L 0 90 [2] cagH [1,3] [] (fs [(1,x1),(3,x3)]) h K =
   pagH C L x1 x3 h (fun x1 x3 h => K .normal (fs [(1,x1),(3,x3)]) h) (fun x2 h => K .ret (fs [(2,x2)]) h) := by
 rw [execK_seq (a := caqE) (b := cahR) (by kernel_rfl) (show live [2] cahR [1,3] [] = [18,1,3] by kernel_rfl),epaqE]
 unfold pagH
 exact (congrArg (paqE C L x1 x3 h) (funext fun x18=>funext fun x1=>funext fun x3=>funext fun h => (seqK_n _ _ _).trans (epahR C L h K x18 x1 x3)))
noncomputable def cahA : Code := cR cadH
noncomputable def cajC : Code := cL cahA
noncomputable def caqF : Code := cL cajC
noncomputable def paqF (C : CF) (L : Nat) {β : Type} (x1 x3 : Value) (h : H) (kn : Kv3 β) : Option β :=
 bnd (A.fieldAddr 16 x1) fun t53 =>
 bnd (A.load false 1 t53 h) fun t54 =>
 toBK t54 fun b =>
 kn (.bool b) x1 x3 h
theorem epaqF (x1 x3 : Value) :
  execK prog C L 0 90 [2] caqF [54,1,3] [] (fs [(1,x1),(3,x3)]) h K =
   paqF C L x1 x3 h (fun x54 x1 x3 h => K .normal (fs [(54,x54),(1,x1),(3,x3)]) h) := by
 kernel_rfl
noncomputable def calR : Code := cR cajC
noncomputable def cayJ : Code := cL calR
noncomputable def payJ (C : CF) (L : Nat) {β : Type} (x54 x1 x3 : Value) (h : H) (kn : Kv2 β) : Option β :=
 bnd (A.fieldAddr 18 x1) fun t56 =>
 bnd (A.load false 1 t56 h) fun t57 =>
 bnd (A.lenStr t57) fun t58 =>
 bnd (A.bin prog .add 3 (.int .i64 2) t58) fun t59 =>
 bnd (A.bin prog .add 3 x3 t59) fun t60 =>
 kn x1 t60 h
theorem epayJ (x54 x1 x3 : Value) :
  execK prog C L 0 90 [2] cayJ [1,3] [] (fs [(54,x54),(1,x1),(3,x3)]) h K =
   payJ C L x54 x1 x3 h (fun x1 x3 h => K .normal (fs [(1,x1),(3,x3)]) h) := by
 kernel_rfl
noncomputable def catC : Code := cR calR
noncomputable def patC (C : CF) (L : Nat) {β : Type} (x54 x1 x3 : Value) (h : H) (kr : Kv1 β) (kn : Kv2 β) : Option β :=
 bnd (A.fieldAddr 18 x1) fun t61 =>
 bnd (A.load false 1 t61 h) fun t62 =>
 bnd (A.bin prog .neq 9 t62 (.string ⟨⟨[]⟩⟩)) fun t63 =>
 toBK t63 fun b =>
 (bif b then
 kr (.int .i64 (-1)) h
 else
 bnd (A.fieldAddr 17 x1) fun t65 =>
 bnd (A.load false 1 t65 h) fun t66 =>
 toBK t66 fun bq1 =>
 (bif bq1 then
 kr (.int .i64 (-1)) h
 else
 kn x1 x3 h))
theorem epatC (x54 x1 x3 : Value) :
  execK prog C L 0 90 [2] catC [1,3] [] (fs [(54,x54),(1,x1),(3,x3)]) h K =
   patC C L x54 x1 x3 h (fun x2 h => K .ret (fs [(2,x2)]) h) (fun x1 x3 h => K .normal (fs [(1,x1),(3,x3)]) h) := by
 kernel_rfl
noncomputable def palR (C : CF) (L : Nat) {β : Type} (x54 x1 x3 : Value) (h : H) (kn : Kv2 β) (kr : Kv1 β) : Option β :=
 condV x54 (payJ C L x54 x1 x3 h kn) (patC C L x54 x1 x3 h kr kn)
theorem epalR (x54 x1 x3 : Value) :
  execK prog C L 0 90 [2] calR [1,3] [] (fs [(54,x54),(1,x1),(3,x3)]) h K =
   palR C L x54 x1 x3 h (fun x1 x3 h => K .normal (fs [(1,x1),(3,x3)]) h) (fun x2 h => K .ret (fs [(2,x2)]) h) := by
 rw [execK_cond (a := cayJ) (b := catC) (x := (.tmp 54)) (v := x54) (by kernel_rfl) (by kernel_rfl),epayJ,epatC]
 unfold palR
 rfl
noncomputable def pajC (C : CF) (L : Nat) {β : Type} (x1 x3 : Value) (h : H) (kn : Kv2 β) (kr : Kv1 β) : Option β :=
 paqF C L x1 x3 h (fun x54 x1 x3 h => palR C L x54 x1 x3 h kn kr)
theorem epajC (x1 x3 : Value) :
  execK prog C L 0 90 [2] cajC [1,3] [] (fs [(1,x1),(3,x3)]) h K =
   pajC C L x1 x3 h (fun x1 x3 h => K .normal (fs [(1,x1),(3,x3)]) h) (fun x2 h => K .ret (fs [(2,x2)]) h) := by
 rw [execK_seq (a := caqF) (b := calR) (by kernel_rfl) (show live [2] calR [1,3] [] = [54,1,3] by kernel_rfl),epaqF]
 unfold pajC
 exact (congrArg (paqF C L x1 x3 h) (funext fun x54=>funext fun x1=>funext fun x3=>funext fun h => (seqK_n _ _ _).trans (epalR C L h K x54 x1 x3)))
noncomputable def camC : Code := cR cahA
noncomputable def caqG : Code := cL camC
noncomputable def paqG (C : CF) (L : Nat) {β : Type} (x1 x3 : Value) (h : H) (kn : Kv2 β) (kr : Kv1 β) : Option β :=
 bnd (A.fieldAddr 17 x1) fun t68 =>
 bnd (A.load false 1 t68 h) fun t69 =>
 toBK t69 fun b =>
 (bif b then
 bnd (A.fieldAddr 19 x1) fun t71 =>
 bnd (A.load false 1 t71 h) fun t72 =>
 bnd (A.lenStr t72) fun t73 =>
 bnd (A.bin prog .add 3 (.int .i64 2) t73) fun t74 =>
 bnd (A.bin prog .add 3 x3 t74) fun t75 =>
 kn x1 t75 h
 else
 bnd (A.fieldAddr 19 x1) fun t76 =>
 bnd (A.load false 1 t76 h) fun t77 =>
 bnd (A.bin prog .neq 9 t77 (.string ⟨⟨[]⟩⟩)) fun t78 =>
 toBK t78 fun bq1 =>
 (bif bq1 then
 kr (.int .i64 (-1)) h
 else
 kn x1 x3 h))
theorem epaqG (x1 x3 : Value) :
  execK prog C L 0 90 [2] caqG [1,3] [] (fs [(1,x1),(3,x3)]) h K =
   paqG C L x1 x3 h (fun x1 x3 h => K .normal (fs [(1,x1),(3,x3)]) h) (fun x2 h => K .ret (fs [(2,x2)]) h) := by
 kernel_rfl
noncomputable def caqH : Code := cR camC
noncomputable def paqH (C : CF) (L : Nat) {β : Type} (x1 x3 : Value) (h : H) (kr : Kv1 β) : Option β :=
 bnd (A.fieldAddr 18 x1) fun t79 =>
 bnd (A.load false 1 t79 h) fun t80 =>
 bnd2 (C 140 [t80] h) fun t81 hq1 =>
 toBK t81 fun b =>
 bnd (A.un prog .not (.bool b)) fun t82 =>
 toBK t82 fun bq1 =>
 (bif bq1 then
 kr (.int .i64 (-1)) hq1
 else
 bnd (A.fieldAddr 19 x1) fun t84 =>
 bnd (A.load false 1 t84 hq1) fun t85 =>
 bnd (A.lenStr t85) fun t86 =>
 bnd (A.bin prog .gtr 3 t86 (.int .i64 65535)) fun t87 =>
 toBK t87 fun bq2 =>
 (bif bq2 then
 kr (.int .i64 (-1)) hq1
 else
 kr x3 hq1))
theorem epaqH (x1 x3 : Value) :
  execK prog C L 0 90 [2] caqH [2] [] (fs [(1,x1),(3,x3)]) h K =
   paqH C L x1 x3 h (fun x2 h => K .ret (fs [(2,x2)]) h) := by
 kernel_rfl
noncomputable def p106a (C : CF) (L : Nat) {β : Type} (x0 : Value) (h : H) (kr : Kv1 β) : Option β :=
 paqB C L x0 h (fun x1 h => paqC C L x1 h kr (fun x1 h => paqD C L x1 h (fun x1 x3 h => pagH C L x1 x3 h (fun x1 x3 h => pajC C L x1 x3 h (fun x1 x3 h => paqG C L x1 x3 h (fun x1 x3 h => paqH C L x1 x3 h kr) kr) kr) kr)))
theorem ep106a (x0 : Value) :
  execK prog C L 0 90 [2] c106a [2] [] (fs [(0,x0)]) h K =
   p106a C L x0 h (fun x2 h => K .ret (fs [(2,x2)]) h) := by
 rw [execK_seq (a := caqB) (b := cacX) (by kernel_rfl) (show live [2] cacX [2] [] = [1] by kernel_rfl),epaqB]
 unfold p106a
 exact (congrArg (paqB C L x0 h) (funext fun x1=>funext fun h => (seqK_n _ _ _).trans (by rw [execK_seq (a := caqC) (b := cadE) (by kernel_rfl) (show live [2] cadE [2] [] = [1] by kernel_rfl),epaqC]; exact (congr (congrArg (paqC C L x1 h) (funext fun x2=>funext fun h => seqK_r _ _ _)) (funext fun x1=>funext fun h => (seqK_n _ _ _).trans (by rw [execK_seq (a := caqD) (b := cadH) (by kernel_rfl) (show live [2] cadH [2] [] = [1,3] by kernel_rfl),epaqD]; exact (congrArg (paqD C L x1 h) (funext fun x1=>funext fun x3=>funext fun h => (seqK_n _ _ _).trans (by rw [execK_seq (a := cagH) (b := cahA) (by kernel_rfl) (show live [2] cahA [2] [] = [1,3] by kernel_rfl),epagH]; exact (congr (congrArg (pagH C L x1 x3 h) (funext fun x1=>funext fun x3=>funext fun h => (seqK_n _ _ _).trans (by rw [execK_seq (a := cajC) (b := camC) (by kernel_rfl) (show live [2] camC [2] [] = [1,3] by kernel_rfl),epajC]; exact (congr (congrArg (pajC C L x1 x3 h) (funext fun x1=>funext fun x3=>funext fun h => (seqK_n _ _ _).trans (by rw [execK_seq (a := caqG) (b := caqH) (by kernel_rfl) (show live [2] caqH [2] [] = [1,3] by kernel_rfl),epaqG]; exact (congr (congrArg (paqG C L x1 x3 h) (funext fun x1=>funext fun x3=>funext fun h => (seqK_n _ _ _).trans (epaqH C L h K x1 x3))) (funext fun x2=>funext fun h => seqK_r _ _ _))))) (funext fun x2=>funext fun h => seqK_r _ _ _))))) (funext fun x2=>funext fun h => seqK_r _ _ _)))))))))))
noncomputable def F106 (C : CF) (L : Nat) (x0 : Value) (h : H) : Option (Value × H) :=
 p106a C L x0 h
  (fun x2 h => some (x2,h))
theorem F106eq (Q : Orc) (n : Nat) (x0 : Value) (h : H) (hQ : Q 106 [x0] = none) : callO prog 0 Q (n + 1) 106 [x0] h = F106 (callO prog 0 Q n) n x0 h := by
 rw [callO_eq hQ (c := c106a) (nt := 90) (RR := [2]) (fr := (fs [(0,x0)])) Tryz.func106 (by kernel_rfl) (by kernel_rfl) (by kernel_rfl) (by kernel_rfl) (by kernel_rfl),ep106a]
 kernel_rfl
noncomputable def c107a : Code := (Tryz.f107.body).getD .skip
noncomputable def caqI : Code := cL c107a
noncomputable def paqI (C : CF) (L : Nat) {β : Type} (x0 : Value) (h : H) (kn : Kv1 β) : Option β :=
 bnd2 (A.box 24 x0 h) fun t1 hq1 =>
 kn t1 hq1
theorem epaqI (x0 : Value) :
  execK prog C L 0 46 [2] caqI [1] [] (fs [(0,x0)]) h K =
   paqI C L x0 h (fun x1 h => K .normal (fs [(1,x1)]) h) := by
 kernel_rfl
noncomputable def caeX : Code := cR c107a
noncomputable def caqJ : Code := cL caeX
noncomputable def paqJ (C : CF) (L : Nat) {β : Type} (x1 : Value) (h : H) (kr : Kv1 β) (kn : Kv1 β) : Option β :=
 bnd (A.fieldAddr 5 x1) fun t4 =>
 bnd (A.load false 1 t4 h) fun t5 =>
 bnd2 (C 141 [t5] h) fun t6 hq1 =>
 toBK t6 fun b =>
 bnd (A.un prog .not (.bool b)) fun t7 =>
 toBK t7 fun bq1 =>
 (bif bq1 then
 kr (.int .i64 (-1)) hq1
 else
 bnd (A.fieldAddr 2 x1) fun t9 =>
 bnd (A.load false 1 t9 hq1) fun t10 =>
 bnd (A.bin prog .gtr 5 t10 (.int .u8 2)) fun t11 =>
 toBK t11 fun bq2 =>
 (bif bq2 then
 kr (.int .i64 (-1)) hq1
 else
 kn x1 hq1))
theorem epaqJ (x1 : Value) :
  execK prog C L 0 46 [2] caqJ [1] [] (fs [(1,x1)]) h K =
   paqJ C L x1 h (fun x2 h => K .ret (fs [(2,x2)]) h) (fun x1 h => K .normal (fs [(1,x1)]) h) := by
 kernel_rfl
noncomputable def cafL : Code := cR caeX
noncomputable def caqK : Code := cL cafL
noncomputable def paqK (C : CF) (L : Nat) {β : Type} (x1 : Value) (h : H) (kn : Kv2 β) : Option β :=
 bnd (A.fieldAddr 5 x1) fun t13 =>
 bnd (A.load false 1 t13 h) fun t14 =>
 bnd (A.lenStr t14) fun t15 =>
 bnd (A.bin prog .add 3 (.int .i64 2) t15) fun t16 =>
 bnd (A.fieldAddr 6 x1) fun t17 =>
 bnd (A.load false 1 t17 h) fun t18 =>
 bnd (A.lenStr t18) fun t19 =>
 bnd (A.bin prog .add 3 t16 t19) fun t20 =>
 kn x1 t20 h
theorem epaqK (x1 : Value) :
  execK prog C L 0 46 [2] caqK [1,3] [] (fs [(1,x1)]) h K =
   paqK C L x1 h (fun x1 x3 h => K .normal (fs [(1,x1),(3,x3)]) h) := by
 kernel_rfl
noncomputable def cagB : Code := cR cafL
noncomputable def cagW : Code := cL cagB
noncomputable def cahN : Code := cL cagW
noncomputable def caqL : Code := cL cahN
noncomputable def paqL (C : CF) (L : Nat) {β : Type} (x1 x3 : Value) (h : H) (kn : Kv3 β) : Option β :=
 bnd (A.fieldAddr 2 x1) fun t22 =>
 bnd (A.load false 1 t22 h) fun t23 =>
 bnd (A.bin prog .gtr 5 t23 (.int .u8 0)) fun t24 =>
 toBK t24 fun b =>
 (bif b then
 bnd (A.fieldAddr 4 x1) fun t26 =>
 bnd (A.load false 1 t26 h) fun t27 =>
 bnd (A.bin prog .gtr 72 t27 (.int .u16 0)) fun t28 =>
 toBK t28 fun bq1 =>
 kn (.bool bq1) x1 x3 h
 else
 kn (.bool false) x1 x3 h)
theorem epaqL (x1 x3 : Value) :
  execK prog C L 0 46 [2] caqL [21,1,3] [(0,[3])] (fs [(1,x1),(3,x3)]) h K =
   paqL C L x1 x3 h (fun x21 x1 x3 h => K .normal (fs [(21,x21),(1,x1),(3,x3)]) h) := by
 kernel_rfl
noncomputable def cajF : Code := cR cahN
noncomputable def caxL : Code := cL cajF
noncomputable def paxL (C : CF) (L : Nat) {β : Type} (x21 x1 x3 : Value) (h : H) (kr : Kv1 β) : Option β :=
 bnd (A.bin prog .add 3 x3 (.int .i64 2)) fun t31 =>
 kr t31 h
theorem epaxL (x21 x1 x3 : Value) :
  execK prog C L 0 46 [2] caxL [3] [(0,[3])] (fs [(21,x21),(1,x1),(3,x3)]) h K =
   paxL C L x21 x1 x3 h (fun x2 h => K .ret (fs [(2,x2)]) h) := by
 kernel_rfl
noncomputable def calS : Code := cR cajF
noncomputable def catD : Code := cL calS
noncomputable def patD (C : CF) (L : Nat) {β : Type} (x21 x1 x3 : Value) (h : H) (kn : Kv2 β) : Option β :=
 bnd (A.fieldAddr 2 x1) fun t33 =>
 bnd (A.load false 1 t33 h) fun t34 =>
 bnd (A.bin prog .gtr 5 t34 (.int .u8 0)) fun t35 =>
 toBK t35 fun b =>
 (bif b then
 kn (.bool true) x3 h
 else
 bnd (A.fieldAddr 4 x1) fun t37 =>
 bnd (A.load false 1 t37 h) fun t38 =>
 bnd (A.bin prog .gtr 72 t38 (.int .u16 0)) fun t39 =>
 toBK t39 fun bq1 =>
 (bif bq1 then
 kn (.bool true) x3 h
 else
 bnd (A.fieldAddr 1 x1) fun t42 =>
 bnd (A.load false 1 t42 h) fun t43 =>
 toBK t43 fun bq2 =>
 kn (.bool bq2) x3 h))
theorem epatD (x21 x1 x3 : Value) :
  execK prog C L 0 46 [2] catD [32,3] [(0,[3])] (fs [(21,x21),(1,x1),(3,x3)]) h K =
   patD C L x21 x1 x3 h (fun x32 x3 h => K .normal (fs [(32,x32),(3,x3)]) h) := by
 kernel_rfl
noncomputable def catE : Code := cR calS
noncomputable def patE (C : CF) (L : Nat) {β : Type} (x32 x3 : Value) (h : H) (kr : Kv1 β) (kn : Kv1 β) : Option β :=
 condV x32 (
 kr (.int .i64 (-1)) h) (
 kn x3 h)
theorem epatE (x32 x3 : Value) :
  execK prog C L 0 46 [2] catE [3] [(0,[3])] (fs [(32,x32),(3,x3)]) h K =
   patE C L x32 x3 h (fun x2 h => K .ret (fs [(2,x2)]) h) (fun x3 h => K .normal (fs [(3,x3)]) h) := by
 kernel_rfl
noncomputable def palS (C : CF) (L : Nat) {β : Type} (x21 x1 x3 : Value) (h : H) (kr : Kv1 β) (kn : Kv1 β) : Option β :=
 patD C L x21 x1 x3 h (fun x32 x3 h => patE C L x32 x3 h kr kn)
theorem epalS (x21 x1 x3 : Value) :
  execK prog C L 0 46 [2] calS [3] [(0,[3])] (fs [(21,x21),(1,x1),(3,x3)]) h K =
   palS C L x21 x1 x3 h (fun x2 h => K .ret (fs [(2,x2)]) h) (fun x3 h => K .normal (fs [(3,x3)]) h) := by
 rw [execK_seq (a := catD) (b := catE) (by kernel_rfl) (show live [2] catE [3] [(0,[3])] = [32,3] by kernel_rfl),epatD]
 unfold palS
 exact (congrArg (patD C L x21 x1 x3 h) (funext fun x32=>funext fun x3=>funext fun h => (seqK_n _ _ _).trans (epatE C L h K x32 x3)))
noncomputable def pajF (C : CF) (L : Nat) {β : Type} (x21 x1 x3 : Value) (h : H) (kr : Kv1 β) (kn : Kv1 β) : Option β :=
 condV x21 (paxL C L x21 x1 x3 h kr) (palS C L x21 x1 x3 h kr kn)
theorem epajF (x21 x1 x3 : Value) :
  execK prog C L 0 46 [2] cajF [3] [(0,[3])] (fs [(21,x21),(1,x1),(3,x3)]) h K =
   pajF C L x21 x1 x3 h (fun x2 h => K .ret (fs [(2,x2)]) h) (fun x3 h => K .normal (fs [(3,x3)]) h) := by
 rw [execK_cond (a := caxL) (b := calS) (x := (.tmp 21)) (v := x21) (by kernel_rfl) (by kernel_rfl),epaxL,epalS]
 unfold pajF
 rfl
noncomputable def pahN (C : CF) (L : Nat) {β : Type} (x1 x3 : Value) (h : H) (kr : Kv1 β) (kn : Kv1 β) : Option β :=
 paqL C L x1 x3 h (fun x21 x1 x3 h => pajF C L x21 x1 x3 h kr kn)
theorem epahN (x1 x3 : Value) :
  execK prog C L 0 46 [2] cahN [3] [(0,[3])] (fs [(1,x1),(3,x3)]) h K =
   pahN C L x1 x3 h (fun x2 h => K .ret (fs [(2,x2)]) h) (fun x3 h => K .normal (fs [(3,x3)]) h) := by
 rw [execK_seq (a := caqL) (b := cajF) (by kernel_rfl) (show live [2] cajF [3] [(0,[3])] = [21,1,3] by kernel_rfl),epaqL]
 unfold pahN
 exact (congrArg (paqL C L x1 x3 h) (funext fun x21=>funext fun x1=>funext fun x3=>funext fun h => (seqK_n _ _ _).trans (epajF C L h K x21 x1 x3)))
noncomputable def pagW (C : CF) (L : Nat) {β : Type} (x1 x3 : Value) (h : H) (kr : Kv1 β) (kn : Kv1 β) : Option β :=
 pahN C L x1 x3 h kr kn
theorem epagW (x1 x3 : Value) :
  execK prog C L 0 46 [2] cagW [3] [] (fs [(1,x1),(3,x3)]) h K =
   pagW C L x1 x3 h (fun x2 h => K .ret (fs [(2,x2)]) h) (fun x3 h => K .normal (fs [(3,x3)]) h) := by
 rw [execK_block (b := cahN) (id := 0) (by kernel_rfl),epahN]
 unfold pagW
 rfl
noncomputable def catF : Code := cR cagB
noncomputable def patF (C : CF) (L : Nat) {β : Type} (x3 : Value) (h : H) (kr : Kv1 β) : Option β :=
 kr x3 h
theorem epatF (x3 : Value) :
  execK prog C L 0 46 [2] catF [2] [] (fs [(3,x3)]) h K =
   patF C L x3 h (fun x2 h => K .ret (fs [(2,x2)]) h) := by
 kernel_rfl
noncomputable def p107a (C : CF) (L : Nat) {β : Type} (x0 : Value) (h : H) (kr : Kv1 β) : Option β :=
 paqI C L x0 h (fun x1 h => paqJ C L x1 h kr (fun x1 h => paqK C L x1 h (fun x1 x3 h => pagW C L x1 x3 h kr (fun x3 h => patF C L x3 h kr))))
theorem ep107a (x0 : Value) :
  execK prog C L 0 46 [2] c107a [2] [] (fs [(0,x0)]) h K =
   p107a C L x0 h (fun x2 h => K .ret (fs [(2,x2)]) h) := by
 rw [execK_seq (a := caqI) (b := caeX) (by kernel_rfl) (show live [2] caeX [2] [] = [1] by kernel_rfl),epaqI]
 unfold p107a
 exact (congrArg (paqI C L x0 h) (funext fun x1=>funext fun h => (seqK_n _ _ _).trans (by rw [execK_seq (a := caqJ) (b := cafL) (by kernel_rfl) (show live [2] cafL [2] [] = [1] by kernel_rfl),epaqJ]; exact (congr (congrArg (paqJ C L x1 h) (funext fun x2=>funext fun h => seqK_r _ _ _)) (funext fun x1=>funext fun h => (seqK_n _ _ _).trans (by rw [execK_seq (a := caqK) (b := cagB) (by kernel_rfl) (show live [2] cagB [2] [] = [1,3] by kernel_rfl),epaqK]; exact (congrArg (paqK C L x1 h) (funext fun x1=>funext fun x3=>funext fun h => (seqK_n _ _ _).trans (by rw [execK_seq (a := cagW) (b := catF) (by kernel_rfl) (show live [2] catF [2] [] = [3] by kernel_rfl),epagW]; exact (congr (congrArg (pagW C L x1 x3 h) (funext fun x2=>funext fun h => seqK_r _ _ _)) (funext fun x3=>funext fun h => (seqK_n _ _ _).trans (epatF C L h K x3))))))))))))
noncomputable def F107 (C : CF) (L : Nat) (x0 : Value) (h : H) : Option (Value × H) :=
 p107a C L x0 h
  (fun x2 h => some (x2,h))
theorem F107eq (Q : Orc) (n : Nat) (x0 : Value) (h : H) (hQ : Q 107 [x0] = none) : callO prog 0 Q (n + 1) 107 [x0] h = F107 (callO prog 0 Q n) n x0 h := by
 rw [callO_eq hQ (c := c107a) (nt := 46) (RR := [2]) (fr := (fs [(0,x0)])) Tryz.func107 (by kernel_rfl) (by kernel_rfl) (by kernel_rfl) (by kernel_rfl) (by kernel_rfl),ep107a]
 kernel_rfl
noncomputable def c108a : Code := (Tryz.f108.body).getD .skip
noncomputable def p108a (C : CF) (L : Nat) {β : Type} (x0 : Value) (h : H) (kr : Kv1 β) : Option β :=
 bnd2 (A.box 24 x0 h) fun t1 hq1 =>
 bnd (A.fieldAddr 4 t1) fun t3 =>
 bnd (A.load false 1 t3 hq1) fun t4 =>
 bnd (A.bin prog .eql 72 t4 (.int .u16 0)) fun t5 =>
 toBK t5 fun b =>
 (bif b then
 kr (.int .i64 (-1)) hq1
 else
 kr (.int .i64 2) hq1)
theorem ep108a (x0 : Value) :
  execK prog C L 0 6 [2] c108a [2] [] (fs [(0,x0)]) h K =
   p108a C L x0 h (fun x2 h => K .ret (fs [(2,x2)]) h) := by
 kernel_rfl
noncomputable def F108 (C : CF) (L : Nat) (x0 : Value) (h : H) : Option (Value × H) :=
 p108a C L x0 h
  (fun x2 h => some (x2,h))
theorem F108eq (Q : Orc) (n : Nat) (x0 : Value) (h : H) (hQ : Q 108 [x0] = none) : callO prog 0 Q (n + 1) 108 [x0] h = F108 (callO prog 0 Q n) n x0 h := by
 rw [callO_eq hQ (c := c108a) (nt := 6) (RR := [2]) (fr := (fs [(0,x0)])) Tryz.func108 (by kernel_rfl) (by kernel_rfl) (by kernel_rfl) (by kernel_rfl) (by kernel_rfl),ep108a]
 kernel_rfl
noncomputable def c109a : Code := (Tryz.f109.body).getD .skip
noncomputable def catG : Code := cL c109a
noncomputable def patG (C : CF) (L : Nat) {β : Type} (x0 : Value) (h : H) (kn : Kv1 β) : Option β :=
 bnd2 (A.box 24 x0 h) fun t1 hq1 =>
 kn t1 hq1
theorem epatG (x0 : Value) :
  execK prog C L 0 48 [2] catG [1] [] (fs [(0,x0)]) h K =
   patG C L x0 h (fun x1 h => K .normal (fs [(1,x1)]) h) := by
 kernel_rfl
noncomputable def cadK : Code := cR c109a
noncomputable def catH : Code := cL cadK
noncomputable def patH (C : CF) (L : Nat) {β : Type} (x1 : Value) (h : H) (kn : Kv4 β) : Option β :=
 bnd (A.load true 24 x1 h) fun t8 =>
 bnd2 (C 108 [t8] h) fun t9 hq1 =>
 kn x1 (.int .i64 1) (.int .u8 2) t9 hq1
theorem epatH (x1 : Value) :
  execK prog C L 0 48 [2] catH [1,5,4,3] [] (fs [(1,x1)]) h K =
   patH C L x1 h (fun x1 x5 x4 x3 h => K .normal (fs [(1,x1),(5,x5),(4,x4),(3,x3)]) h) := by
 kernel_rfl
noncomputable def cadX : Code := cR cadK
noncomputable def caoV : Code := cL cadX
noncomputable def paoV (C : CF) (L : Nat) {β : Type} (x1 x5 x4 x3 : Value) (h : H) (kn : Kv4 β) : Option β :=
 bnd (A.fieldAddr 0 x1) fun t10 =>
 bnd (A.load false 1 t10 h) fun t11 =>
 bnd (A.bin prog .eql 5 t11 (.int .u8 10)) fun t12 =>
 toBK t12 fun b =>
 (bif b then
 kn x1 (.int .i64 0) (.int .u8 0) x3 h
 else
 kn x1 x5 x4 x3 h)
theorem epaoV (x1 x5 x4 x3 : Value) :
  execK prog C L 0 48 [2] caoV [1,5,4,3] [] (fs [(1,x1),(5,x5),(4,x4),(3,x3)]) h K =
   paoV C L x1 x5 x4 x3 h (fun x1 x5 x4 x3 h => K .normal (fs [(1,x1),(5,x5),(4,x4),(3,x3)]) h) := by
 kernel_rfl
noncomputable def caeC : Code := cR cadX
noncomputable def catI : Code := cL caeC
noncomputable def patI (C : CF) (L : Nat) {β : Type} (x1 x5 x4 x3 : Value) (h : H) (kr : Kv1 β) (kn : Kv4 β) : Option β :=
 bnd (A.bin prog .lss 3 x3 (.int .i64 0)) fun t14 =>
 toBK t14 fun b =>
 (bif b then
 kr (.int .i64 (-1)) h
 else
 bnd (A.fieldAddr 22 x1) fun t16 =>
 bnd (A.load false 1 t16 h) fun t17 =>
 bnd (A.lenS t17) fun t18 =>
 bnd (A.bin prog .eql 3 t18 (.int .i64 0)) fun t19 =>
 toBK t19 fun bq1 =>
 (bif bq1 then
 kr (.int .i64 (-1)) h
 else
 kn x1 x5 x4 x3 h))
theorem epatI (x1 x5 x4 x3 : Value) :
  execK prog C L 0 48 [2] catI [1,5,4,3] [] (fs [(1,x1),(5,x5),(4,x4),(3,x3)]) h K =
   patI C L x1 x5 x4 x3 h (fun x2 h => K .ret (fs [(2,x2)]) h) (fun x1 x5 x4 x3 h => K .normal (fs [(1,x1),(5,x5),(4,x4),(3,x3)]) h) := by
 kernel_rfl
noncomputable def caeO : Code := cR caeC
noncomputable def caeZ : Code := cL caeO
noncomputable def catJ : Code := cL caeZ
noncomputable def patJ (C : CF) (L : Nat) {β : Type} (x1 x5 x4 x3 : Value) (h : H) (kn : Kv6 β) : Option β :=
 bnd (A.fieldAddr 22 x1) fun t21 =>
 bnd (A.load false 1 t21 h) fun t22 =>
 bnd (A.lenS t22) fun t23 =>
 kn t23 (.int .i64 0) x5 x4 t22 x3 h
theorem epatJ (x1 x5 x4 x3 : Value) :
  execK prog C L 0 48 [2] catJ [23,24,5,4,22,3] [] (fs [(1,x1),(5,x5),(4,x4),(3,x3)]) h K =
   patJ C L x1 x5 x4 x3 h (fun x23 x24 x5 x4 x22 x3 h => K .normal (fs [(23,x23),(24,x24),(5,x5),(4,x4),(22,x22),(3,x3)]) h) := by
 kernel_rfl
noncomputable def cafY : Code := cR caeZ
noncomputable def cagL : Code := cL cafY
noncomputable def cahS : Code := cL cagL
noncomputable def caqM : Code := cL cahS
noncomputable def paqM (C : CF) (L : Nat) {β : Type} (x23 x24 x5 x4 x22 x3 : Value) (h : H) (kn : Kv7 β) : Option β :=
 bnd (A.bin prog .lss 3 x24 x23) fun t25 =>
 kn t25 x22 x4 x5 x23 x24 x3 h
theorem epaqM (x23 x24 x5 x4 x22 x3 : Value) :
  execK prog C L 0 48 [2] caqM [25,22,4,5,23,24,3] [(0,[3])] (fs [(23,x23),(24,x24),(5,x5),(4,x4),(22,x22),(3,x3)]) h K =
   paqM C L x23 x24 x5 x4 x22 x3 h (fun x25 x22 x4 x5 x23 x24 x3 h => K .normal (fs [(25,x25),(22,x22),(4,x4),(5,x5),(23,x23),(24,x24),(3,x3)]) h) := by
 kernel_rfl
noncomputable def cajJ : Code := cR cahS
noncomputable def caqN : Code := cL cajJ
noncomputable def paqN (C : CF) (L : Nat) {β : Type} (x25 x22 x4 x5 x23 x24 x3 : Value) (h : H) (kn : Kv6 β) (kx0 : Kv1 β) : Option β :=
 condV x25 (
 kn x3 x24 x23 x5 x4 x22 h) (
 kx0 x3 h)
theorem epaqN (x25 x22 x4 x5 x23 x24 x3 : Value) :
  execK prog C L 0 48 [2] caqN [3,24,23,5,4,22] [(0,[3])] (fs [(25,x25),(22,x22),(4,x4),(5,x5),(23,x23),(24,x24),(3,x3)]) h K =
   paqN C L x25 x22 x4 x5 x23 x24 x3 h (fun x3 x24 x23 x5 x4 x22 h => K .normal (fs [(3,x3),(24,x24),(23,x23),(5,x5),(4,x4),(22,x22)]) h) (fun x3 h => K (.exit 0) (fs [(3,x3)]) h) := by
 kernel_rfl
noncomputable def cakS : Code := cR cajJ
noncomputable def camJ : Code := cL cakS
noncomputable def caxM : Code := cL camJ
noncomputable def paxM (C : CF) (L : Nat) {β : Type} (x3 x24 x23 x5 x4 x22 : Value) (h : H) (kr : Kv1 β) (kn : Kv6 β) : Option β :=
 bnd (A.idxS 2 x22 x24) fun t26 =>
 bnd (A.load true 2 t26 h) fun t27 =>
 bnd2 (A.box 2 Z110 h) fun t7 hq1 =>
 bnd (A.store 2 t7 t27 hq1) fun hq2 =>
 bnd (A.fieldAddr 0 t7) fun t28 =>
 bnd (A.load false 1 t28 hq2) fun t29 =>
 bnd2 (C 142 [t29] hq2) fun t30 hq3 =>
 toBK t30 fun b =>
 bnd (A.un prog .not (.bool b)) fun t31 =>
 toBK t31 fun bq1 =>
 (bif bq1 then
 kr (.int .i64 (-1)) hq3
 else
 bnd (A.fieldAddr 1 t7) fun t33 =>
 bnd (A.load false 1 t33 hq3) fun t34 =>
 bnd (A.bin prog .gtr 5 t34 x4) fun t36 =>
 toBK t36 fun bq2 =>
 (bif bq2 then
 kr (.int .i64 (-1)) hq3
 else
 bnd (A.fieldAddr 0 t7) fun t39 =>
 bnd (A.load false 1 t39 hq3) fun t40 =>
 bnd (A.lenStr t40) fun t41 =>
 bnd (A.bin prog .add 3 (.int .i64 2) t41) fun t42 =>
 bnd (A.bin prog .add 3 t42 x5) fun t44 =>
 bnd (A.bin prog .add 3 x3 t44) fun t45 =>
 kn x24 x23 x5 x4 x22 t45 hq3))
theorem epaxM (x3 x24 x23 x5 x4 x22 : Value) :
  execK prog C L 0 48 [2] caxM [24,23,5,4,22,3] [(1,[24,23,5,4,22,3]),(0,[3])] (fs [(3,x3),(24,x24),(23,x23),(5,x5),(4,x4),(22,x22)]) h K =
   paxM C L x3 x24 x23 x5 x4 x22 h (fun x2 h => K .ret (fs [(2,x2)]) h) (fun x24 x23 x5 x4 x22 x3 h => K .normal (fs [(24,x24),(23,x23),(5,x5),(4,x4),(22,x22),(3,x3)]) h) := by
 kernel_rfl
noncomputable def pamJ (C : CF) (L : Nat) {β : Type} (x3 x24 x23 x5 x4 x22 : Value) (h : H) (kr : Kv1 β) (kn : Kv6 β) : Option β :=
 paxM C L x3 x24 x23 x5 x4 x22 h kr kn
theorem epamJ (x3 x24 x23 x5 x4 x22 : Value) :
  execK prog C L 0 48 [2] camJ [24,23,5,4,22,3] [(0,[3])] (fs [(3,x3),(24,x24),(23,x23),(5,x5),(4,x4),(22,x22)]) h K =
   pamJ C L x3 x24 x23 x5 x4 x22 h (fun x2 h => K .ret (fs [(2,x2)]) h) (fun x24 x23 x5 x4 x22 x3 h => K .normal (fs [(24,x24),(23,x23),(5,x5),(4,x4),(22,x22),(3,x3)]) h) := by
 rw [execK_block (b := caxM) (id := 1) (by kernel_rfl),epaxM]
 unfold pamJ
 rfl
noncomputable def catK : Code := cR cakS
noncomputable def patK (C : CF) (L : Nat) {β : Type} (x24 x23 x5 x4 x22 x3 : Value) (h : H) (kn : Kv6 β) : Option β :=
 bnd (A.bin prog .add 3 x24 (.int .i64 1)) fun t46 =>
 kn x23 t46 x5 x4 x22 x3 h
theorem epatK (x24 x23 x5 x4 x22 x3 : Value) :
  execK prog C L 0 48 [2] catK [23,24,5,4,22,3] [(0,[3])] (fs [(24,x24),(23,x23),(5,x5),(4,x4),(22,x22),(3,x3)]) h K =
   patK C L x24 x23 x5 x4 x22 x3 h (fun x23 x24 x5 x4 x22 x3 h => K .normal (fs [(23,x23),(24,x24),(5,x5),(4,x4),(22,x22),(3,x3)]) h) := by
 kernel_rfl
noncomputable def pahS (C : CF) (L : Nat) {β : Type} (x23 x24 x5 x4 x22 x3 : Value) (h : H) (kn : Kv6 β) (kr : Kv1 β) (kx0 : Kv1 β) : Option β :=
 paqM C L x23 x24 x5 x4 x22 x3 h (fun x25 x22 x4 x5 x23 x24 x3 h => paqN C L x25 x22 x4 x5 x23 x24 x3 h (fun x3 x24 x23 x5 x4 x22 h => pamJ C L x3 x24 x23 x5 x4 x22 h kr (fun x24 x23 x5 x4 x22 x3 h => patK C L x24 x23 x5 x4 x22 x3 h kn)) kx0)
theorem epahS (x23 x24 x5 x4 x22 x3 : Value) :
  execK prog C L 0 48 [2] cahS [23,24,5,4,22,3] [(0,[3])] (fs [(23,x23),(24,x24),(5,x5),(4,x4),(22,x22),(3,x3)]) h K =
   pahS C L x23 x24 x5 x4 x22 x3 h (fun x23 x24 x5 x4 x22 x3 h => K .normal (fs [(23,x23),(24,x24),(5,x5),(4,x4),(22,x22),(3,x3)]) h) (fun x2 h => K .ret (fs [(2,x2)]) h) (fun x3 h => K (.exit 0) (fs [(3,x3)]) h) := by
 rw [execK_seq (a := caqM) (b := cajJ) (by kernel_rfl) (show live [2] cajJ [23,24,5,4,22,3] [(0,[3])] = [25,22,4,5,23,24,3] by kernel_rfl),epaqM]
 unfold pahS
 exact (congrArg (paqM C L x23 x24 x5 x4 x22 x3 h) (funext fun x25=>funext fun x22=>funext fun x4=>funext fun x5=>funext fun x23=>funext fun x24=>funext fun x3=>funext fun h => (seqK_n _ _ _).trans (by rw [execK_seq (a := caqN) (b := cakS) (by kernel_rfl) (show live [2] cakS [23,24,5,4,22,3] [(0,[3])] = [3,24,23,5,4,22] by kernel_rfl),epaqN]; exact (congr (congrArg (paqN C L x25 x22 x4 x5 x23 x24 x3 h) (funext fun x3=>funext fun x24=>funext fun x23=>funext fun x5=>funext fun x4=>funext fun x22=>funext fun h => (seqK_n _ _ _).trans (by rw [execK_seq (a := camJ) (b := catK) (by kernel_rfl) (show live [2] catK [23,24,5,4,22,3] [(0,[3])] = [24,23,5,4,22,3] by kernel_rfl),epamJ]; exact (congr (congrArg (pamJ C L x3 x24 x23 x5 x4 x22 h) (funext fun x2=>funext fun h => seqK_r _ _ _)) (funext fun x24=>funext fun x23=>funext fun x5=>funext fun x4=>funext fun x22=>funext fun x3=>funext fun h => (seqK_n _ _ _).trans (epatK C L h K x24 x23 x5 x4 x22 x3)))))) (funext fun x3=>funext fun h => seqK_x _ _ _ _)))))
noncomputable def paxN (C : CF) (L : Nat) {β : Type} (kr : Kv1 β) (kx0 : Kv1 β) : Nat → Kv6 β
 | 0,_,_,_,_,_,_,_ => none
 | n + 1,x23,x24,x5,x4,x22,x3,h => pahS C L x23 x24 x5 x4 x22 x3 h (fun x23 x24 x5 x4 x22 x3 h => paxN C L kr kx0 n x23 x24 x5 x4 x22 x3 h) kr kx0
theorem epaxN (C : CF) (L : Nat) {β : Type} (K : Ex → T Value → Kv0 β) : ∀ (n : Nat) (x23 x24 x5 x4 x22 x3 : Value) (h : H),
  loopK (fun fr h K => execK prog C L 0 48 [2] cahS [23,24,5,4,22,3] [(0,[3])] fr h K) n (fs [(23,x23),(24,x24),(5,x5),(4,x4),(22,x22),(3,x3)]) h K =
   paxN C L (fun x2 h => K .ret (fs [(2,x2)]) h) (fun x3 h => K (.exit 0) (fs [(3,x3)]) h) n x23 x24 x5 x4 x22 x3 h := by
 intro n
 induction n with
 | zero => intros; rfl
 | succ n ih =>
  intros
  simp only [loopK]
  rw [epahS]
  simp only [seqK_n,seqK_x,seqK_r,ih]
  rfl
noncomputable def pagL (C : CF) (L : Nat) {β : Type} (x23 x24 x5 x4 x22 x3 : Value) (h : H) (kr : Kv1 β) (kx0 : Kv1 β) : Option β :=
 paxN C L kr kx0 L x23 x24 x5 x4 x22 x3 h
theorem epagL (x23 x24 x5 x4 x22 x3 : Value) :
  execK prog C L 0 48 [2] cagL [3] [(0,[3])] (fs [(23,x23),(24,x24),(5,x5),(4,x4),(22,x22),(3,x3)]) h K =
   pagL C L x23 x24 x5 x4 x22 x3 h (fun x2 h => K .ret (fs [(2,x2)]) h) (fun x3 h => K (.exit 0) (fs [(3,x3)]) h) := by
 rw [execK_loop (b := cahS) (fr1 := (fs [(23,x23),(24,x24),(5,x5),(4,x4),(22,x22),(3,x3)])) (by kernel_rfl) (show live [2] cahS [] [(0,[3])] = [23,24,5,4,22,3] by kernel_rfl) (by kernel_rfl),epaxN]
 unfold pagL
 rfl
noncomputable def pafY (C : CF) (L : Nat) {β : Type} (x23 x24 x5 x4 x22 x3 : Value) (h : H) (kr : Kv1 β) (kn : Kv1 β) : Option β :=
 pagL C L x23 x24 x5 x4 x22 x3 h kr kn
theorem epafY (x23 x24 x5 x4 x22 x3 : Value) :
  execK prog C L 0 48 [2] cafY [3] [] (fs [(23,x23),(24,x24),(5,x5),(4,x4),(22,x22),(3,x3)]) h K =
   pafY C L x23 x24 x5 x4 x22 x3 h (fun x2 h => K .ret (fs [(2,x2)]) h) (fun x3 h => K .normal (fs [(3,x3)]) h) := by
 rw [execK_block (b := cagL) (id := 0) (by kernel_rfl),epagL]
 unfold pafY
 rfl
noncomputable def paeZ (C : CF) (L : Nat) {β : Type} (x1 x5 x4 x3 : Value) (h : H) (kr : Kv1 β) (kn : Kv1 β) : Option β :=
 patJ C L x1 x5 x4 x3 h (fun x23 x24 x5 x4 x22 x3 h => pafY C L x23 x24 x5 x4 x22 x3 h kr kn)
theorem epaeZ (x1 x5 x4 x3 : Value) :
  execK prog C L 0 48 [2] caeZ [3] [] (fs [(1,x1),(5,x5),(4,x4),(3,x3)]) h K =
   paeZ C L x1 x5 x4 x3 h (fun x2 h => K .ret (fs [(2,x2)]) h) (fun x3 h => K .normal (fs [(3,x3)]) h) := by
 rw [execK_seq (a := catJ) (b := cafY) (by kernel_rfl) (show live [2] cafY [3] [] = [23,24,5,4,22,3] by kernel_rfl),epatJ]
 unfold paeZ
 exact (congrArg (patJ C L x1 x5 x4 x3 h) (funext fun x23=>funext fun x24=>funext fun x5=>funext fun x4=>funext fun x22=>funext fun x3=>funext fun h => (seqK_n _ _ _).trans (epafY C L h K x23 x24 x5 x4 x22 x3)))
noncomputable def catL : Code := cR caeO
noncomputable def patL (C : CF) (L : Nat) {β : Type} (x3 : Value) (h : H) (kr : Kv1 β) : Option β :=
 kr x3 h
theorem epatL (x3 : Value) :
  execK prog C L 0 48 [2] catL [2] [] (fs [(3,x3)]) h K =
   patL C L x3 h (fun x2 h => K .ret (fs [(2,x2)]) h) := by
 kernel_rfl
noncomputable def p109a (C : CF) (L : Nat) {β : Type} (x0 : Value) (h : H) (kr : Kv1 β) : Option β :=
 patG C L x0 h (fun x1 h => patH C L x1 h (fun x1 x5 x4 x3 h => paoV C L x1 x5 x4 x3 h (fun x1 x5 x4 x3 h => patI C L x1 x5 x4 x3 h kr (fun x1 x5 x4 x3 h => paeZ C L x1 x5 x4 x3 h kr (fun x3 h => patL C L x3 h kr)))))
theorem ep109a (x0 : Value) :
  execK prog C L 0 48 [2] c109a [2] [] (fs [(0,x0)]) h K =
   p109a C L x0 h (fun x2 h => K .ret (fs [(2,x2)]) h) := by
 rw [execK_seq (a := catG) (b := cadK) (by kernel_rfl) (show live [2] cadK [2] [] = [1] by kernel_rfl),epatG]
 unfold p109a
 exact (congrArg (patG C L x0 h) (funext fun x1=>funext fun h => (seqK_n _ _ _).trans (by rw [execK_seq (a := catH) (b := cadX) (by kernel_rfl) (show live [2] cadX [2] [] = [1,5,4,3] by kernel_rfl),epatH]; exact (congrArg (patH C L x1 h) (funext fun x1=>funext fun x5=>funext fun x4=>funext fun x3=>funext fun h => (seqK_n _ _ _).trans (by rw [execK_seq (a := caoV) (b := caeC) (by kernel_rfl) (show live [2] caeC [2] [] = [1,5,4,3] by kernel_rfl),epaoV]; exact (congrArg (paoV C L x1 x5 x4 x3 h) (funext fun x1=>funext fun x5=>funext fun x4=>funext fun x3=>funext fun h => (seqK_n _ _ _).trans (by rw [execK_seq (a := catI) (b := caeO) (by kernel_rfl) (show live [2] caeO [2] [] = [1,5,4,3] by kernel_rfl),epatI]; exact (congr (congrArg (patI C L x1 x5 x4 x3 h) (funext fun x2=>funext fun h => seqK_r _ _ _)) (funext fun x1=>funext fun x5=>funext fun x4=>funext fun x3=>funext fun h => (seqK_n _ _ _).trans (by rw [execK_seq (a := caeZ) (b := catL) (by kernel_rfl) (show live [2] catL [2] [] = [3] by kernel_rfl),epaeZ]; exact (congr (congrArg (paeZ C L x1 x5 x4 x3 h) (funext fun x2=>funext fun h => seqK_r _ _ _)) (funext fun x3=>funext fun h => (seqK_n _ _ _).trans (epatL C L h K x3)))))))))))))))
noncomputable def F109 (C : CF) (L : Nat) (x0 : Value) (h : H) : Option (Value × H) :=
 p109a C L x0 h
  (fun x2 h => some (x2,h))
theorem F109eq (Q : Orc) (n : Nat) (x0 : Value) (h : H) (hQ : Q 109 [x0] = none) : callO prog 0 Q (n + 1) 109 [x0] h = F109 (callO prog 0 Q n) n x0 h := by
 rw [callO_eq hQ (c := c109a) (nt := 48) (RR := [2]) (fr := (fs [(0,x0)])) Tryz.func109 (by kernel_rfl) (by kernel_rfl) (by kernel_rfl) (by kernel_rfl) (by kernel_rfl),ep109a]
 kernel_rfl
noncomputable def c111a : Code := (Tryz.f111.body).getD .skip
noncomputable def catM : Code := cL c111a
noncomputable def patM (C : CF) (L : Nat) {β : Type} (x0 : Value) (h : H) (kn : Kv1 β) : Option β :=
 bnd2 (A.box 24 x0 h) fun t1 hq1 =>
 kn t1 hq1
theorem epatM (x0 : Value) :
  execK prog C L 0 87 [2] catM [1] [] (fs [(0,x0)]) h K =
   patM C L x0 h (fun x1 h => K .normal (fs [(1,x1)]) h) := by
 kernel_rfl
noncomputable def cabM : Code := cR c111a
noncomputable def cakI : Code := cL cabM
noncomputable def caoW : Code := cL cakI
noncomputable def paoW (C : CF) (L : Nat) {β : Type} (x1 : Value) (h : H) (kn : Kv2 β) : Option β :=
 bnd (A.fieldAddr 22 x1) fun t4 =>
 bnd (A.load false 1 t4 h) fun t5 =>
 bnd (A.lenS t5) fun t6 =>
 bnd (A.bin prog .gtr 3 t6 (.int .i64 0)) fun t7 =>
 toBK t7 fun b =>
 (bif b then
 bnd (A.fieldAddr 0 x1) fun t9 =>
 bnd (A.load false 1 t9 h) fun t10 =>
 bnd (A.bin prog .neq 5 t10 (.int .u8 8)) fun t11 =>
 toBK t11 fun bq1 =>
 (bif bq1 then
 bnd (A.fieldAddr 0 x1) fun t14 =>
 bnd (A.load false 1 t14 h) fun t15 =>
 bnd (A.bin prog .neq 5 t15 (.int .u8 10)) fun t16 =>
 toBK t16 fun bq2 =>
 kn (.bool bq2) x1 h
 else
 kn (.bool false) x1 h)
 else
 kn (.bool false) x1 h)
theorem epaoW (x1 : Value) :
  execK prog C L 0 87 [2] caoW [17,1] [] (fs [(1,x1)]) h K =
   paoW C L x1 h (fun x17 x1 h => K .normal (fs [(17,x17),(1,x1)]) h) := by
 kernel_rfl
noncomputable def caoX : Code := cR cakI
noncomputable def paoX (C : CF) (L : Nat) {β : Type} (x17 x1 : Value) (h : H) (kr : Kv1 β) (kn : Kv1 β) : Option β :=
 condV x17 (
 kr (.bool false) h) (
 kn x1 h)
theorem epaoX (x17 x1 : Value) :
  execK prog C L 0 87 [2] caoX [1] [] (fs [(17,x17),(1,x1)]) h K =
   paoX C L x17 x1 h (fun x2 h => K .ret (fs [(2,x2)]) h) (fun x1 h => K .normal (fs [(1,x1)]) h) := by
 kernel_rfl
noncomputable def pakI (C : CF) (L : Nat) {β : Type} (x1 : Value) (h : H) (kr : Kv1 β) (kn : Kv1 β) : Option β :=
 paoW C L x1 h (fun x17 x1 h => paoX C L x17 x1 h kr kn)
theorem epakI (x1 : Value) :
  execK prog C L 0 87 [2] cakI [1] [] (fs [(1,x1)]) h K =
   pakI C L x1 h (fun x2 h => K .ret (fs [(2,x2)]) h) (fun x1 h => K .normal (fs [(1,x1)]) h) := by
 rw [execK_seq (a := caoW) (b := caoX) (by kernel_rfl) (show live [2] caoX [1] [] = [17,1] by kernel_rfl),epaoW]
 unfold pakI
 exact (congrArg (paoW C L x1 h) (funext fun x17=>funext fun x1=>funext fun h => (seqK_n _ _ _).trans (epaoX C L h K x17 x1)))
noncomputable def cabU : Code := cR cabM
noncomputable def catN : Code := cL cabU
noncomputable def patN (C : CF) (L : Nat) {β : Type} (x1 : Value) (h : H) (kn : Kv2 β) : Option β :=
 bnd2 (A.box 24 Z77 h) fun t3 hq1 =>
 kn x1 t3 hq1
theorem epatN (x1 : Value) :
  execK prog C L 0 87 [2] catN [1,3] [] (fs [(1,x1)]) h K =
   patN C L x1 h (fun x1 x3 h => K .normal (fs [(1,x1),(3,x3)]) h) := by
 kernel_rfl
noncomputable def cabY : Code := cR cabU
noncomputable def cacB : Code := cL cabY
noncomputable def canN : Code := cL cacB
noncomputable def panN (C : CF) (L : Nat) {β : Type} (x1 x3 : Value) (h : H) (kn : Kv3 β) : Option β :=
 bnd (A.fieldAddr 0 x1) fun t18 =>
 bnd (A.load false 1 t18 h) fun t19 =>
 kn t19 x1 x3 h
theorem epanN (x1 x3 : Value) :
  execK prog C L 0 87 [2] canN [19,1,3] [] (fs [(1,x1),(3,x3)]) h K =
   panN C L x1 x3 h (fun x19 x1 x3 h => K .normal (fs [(19,x19),(1,x1),(3,x3)]) h) := by
 kernel_rfl
noncomputable def cacN : Code := cR cacB
noncomputable def cacS : Code := cL cacN
noncomputable def canO : Code := cL cacS
noncomputable def panO (C : CF) (L : Nat) {β : Type} (x19 x1 x3 : Value) (h : H) (kn : Kv4 β) : Option β :=
 bnd (A.bin prog .eql 5 x19 (.int .u8 1)) fun t24 =>
 toBK t24 fun b =>
 kn (.bool b) x19 x1 x3 h
theorem epanO (x19 x1 x3 : Value) :
  execK prog C L 0 87 [2] canO [23,19,1,3] [(0,[1,3])] (fs [(19,x19),(1,x1),(3,x3)]) h K =
   panO C L x19 x1 x3 h (fun x23 x19 x1 x3 h => K .normal (fs [(23,x23),(19,x19),(1,x1),(3,x3)]) h) := by
 kernel_rfl
noncomputable def cadD : Code := cR cacS
noncomputable def caxP : Code := cL cadD
noncomputable def paxP (C : CF) (L : Nat) {β : Type} (x23 x19 x1 x3 : Value) (h : H) (kn : Kv2 β) : Option β :=
 bnd (A.fieldAddr 7 x1) fun t25 =>
 bnd (A.load false 1 t25 h) fun t26 =>
 bnd (A.fieldAddr 8 x1) fun t27 =>
 bnd (A.load false 1 t27 h) fun t28 =>
 toBK t28 fun b =>
 bnd (A.fieldAddr 9 x1) fun t29 =>
 bnd (A.load false 1 t29 h) fun t30 =>
 bnd (A.fieldAddr 10 x1) fun t31 =>
 bnd (A.load false 1 t31 h) fun t32 =>
 bnd (A.fieldAddr 11 x1) fun t33 =>
 bnd (A.load false 1 t33 h) fun t34 =>
 toBK t34 fun bq1 =>
 bnd (A.fieldAddr 12 x1) fun t35 =>
 bnd (A.load true 4 t35 h) fun t36 =>
 bnd (A.fieldAddr 16 x1) fun t37 =>
 bnd (A.load false 1 t37 h) fun t38 =>
 toBK t38 fun bq2 =>
 bnd (A.fieldAddr 17 x1) fun t39 =>
 bnd (A.load false 1 t39 h) fun t40 =>
 toBK t40 fun bq3 =>
 bnd (A.fieldAddr 18 x1) fun t41 =>
 bnd (A.load false 1 t41 h) fun t42 =>
 bnd (A.fieldAddr 19 x1) fun t43 =>
 bnd (A.load false 1 t43 h) fun t44 =>
 bnd (A.build Z77L [(7,1,t26),(8,1,(.bool b)),(9,1,t30),(10,1,t32),(11,1,(.bool bq1)),(12,4,t36),(16,1,(.bool bq2)),(17,1,(.bool bq3)),(18,1,t42),(19,1,t44)]) fun t45 =>
 bnd (A.store 24 x3 t45 h) fun hq1 =>
 kn x1 x3 hq1
theorem epaxP (x23 x19 x1 x3 : Value) :
  execK prog C L 0 87 [2] caxP [1,3] [(0,[1,3])] (fs [(23,x23),(19,x19),(1,x1),(3,x3)]) h K =
   paxP C L x23 x19 x1 x3 h (fun x1 x3 h => K .normal (fs [(1,x1),(3,x3)]) h) := by
 kernel_rfl
noncomputable def cadP : Code := cR cadD
noncomputable def canY : Code := cL cadP
noncomputable def panY (C : CF) (L : Nat) {β : Type} (x23 x19 x1 x3 : Value) (h : H) (kn : Kv4 β) : Option β :=
 bnd (A.bin prog .eql 5 x19 (.int .u8 2)) fun t47 =>
 toBK t47 fun b =>
 kn (.bool b) x19 x1 x3 h
theorem epanY (x23 x19 x1 x3 : Value) :
  execK prog C L 0 87 [2] canY [46,19,1,3] [(0,[1,3])] (fs [(23,x23),(19,x19),(1,x1),(3,x3)]) h K =
   panY C L x23 x19 x1 x3 h (fun x46 x19 x1 x3 h => K .normal (fs [(46,x46),(19,x19),(1,x1),(3,x3)]) h) := by
 kernel_rfl
noncomputable def caeA : Code := cR cadP
noncomputable def cayL : Code := cL caeA
noncomputable def payL (C : CF) (L : Nat) {β : Type} (x46 x19 x1 x3 : Value) (h : H) (kn : Kv2 β) : Option β :=
 bnd (A.fieldAddr 20 x1) fun t48 =>
 bnd (A.load false 1 t48 h) fun t49 =>
 toBK t49 fun b =>
 bnd (A.fieldAddr 21 x1) fun t50 =>
 bnd (A.load false 1 t50 h) fun t51 =>
 bnd (A.build Z77L [(20,1,(.bool b)),(21,1,t51)]) fun t52 =>
 bnd (A.store 24 x3 t52 h) fun hq1 =>
 kn x1 x3 hq1
theorem epayL (x46 x19 x1 x3 : Value) :
  execK prog C L 0 87 [2] cayL [1,3] [(0,[1,3])] (fs [(46,x46),(19,x19),(1,x1),(3,x3)]) h K =
   payL C L x46 x19 x1 x3 h (fun x1 x3 h => K .normal (fs [(1,x1),(3,x3)]) h) := by
 kernel_rfl
noncomputable def caeW : Code := cR caeA
noncomputable def canZ : Code := cL caeW
noncomputable def panZ (C : CF) (L : Nat) {β : Type} (x46 x19 x1 x3 : Value) (h : H) (kn : Kv4 β) : Option β :=
 bnd (A.bin prog .eql 5 x19 (.int .u8 3)) fun t54 =>
 toBK t54 fun b =>
 kn (.bool b) x19 x1 x3 h
theorem epanZ (x46 x19 x1 x3 : Value) :
  execK prog C L 0 87 [2] canZ [53,19,1,3] [(0,[1,3])] (fs [(46,x46),(19,x19),(1,x1),(3,x3)]) h K =
   panZ C L x46 x19 x1 x3 h (fun x53 x19 x1 x3 h => K .normal (fs [(53,x53),(19,x19),(1,x1),(3,x3)]) h) := by
 kernel_rfl
noncomputable def cafV : Code := cR caeW
noncomputable def caxO : Code := cL cafV
noncomputable def paxO (C : CF) (L : Nat) {β : Type} (x53 x19 x1 x3 : Value) (h : H) (kn : Kv2 β) : Option β :=
 bnd (A.fieldAddr 1 x1) fun t55 =>
 bnd (A.load false 1 t55 h) fun t56 =>
 toBK t56 fun b =>
 bnd (A.fieldAddr 2 x1) fun t57 =>
 bnd (A.load false 1 t57 h) fun t58 =>
 bnd (A.fieldAddr 3 x1) fun t59 =>
 bnd (A.load false 1 t59 h) fun t60 =>
 toBK t60 fun bq1 =>
 bnd (A.fieldAddr 4 x1) fun t61 =>
 bnd (A.load false 1 t61 h) fun t62 =>
 bnd (A.fieldAddr 5 x1) fun t63 =>
 bnd (A.load false 1 t63 h) fun t64 =>
 bnd (A.fieldAddr 6 x1) fun t65 =>
 bnd (A.load false 1 t65 h) fun t66 =>
 bnd (A.build Z77L [(1,1,(.bool b)),(2,1,t58),(3,1,(.bool bq1)),(4,1,t62),(5,1,t64),(6,1,t66)]) fun t67 =>
 bnd (A.store 24 x3 t67 h) fun hq1 =>
 kn x1 x3 hq1
theorem epaxO (x53 x19 x1 x3 : Value) :
  execK prog C L 0 87 [2] caxO [1,3] [(0,[1,3])] (fs [(53,x53),(19,x19),(1,x1),(3,x3)]) h K =
   paxO C L x53 x19 x1 x3 h (fun x1 x3 h => K .normal (fs [(1,x1),(3,x3)]) h) := by
 kernel_rfl
noncomputable def cahE : Code := cR cafV
noncomputable def caoY : Code := cL cahE
noncomputable def paoY (C : CF) (L : Nat) {β : Type} (x53 x19 x1 x3 : Value) (h : H) (kn : Kv4 β) : Option β :=
 bnd (A.bin prog .eql 5 x19 (.int .u8 9)) fun t69 =>
 toBK t69 fun b =>
 kn (.bool b) x19 x1 x3 h
theorem epaoY (x53 x19 x1 x3 : Value) :
  execK prog C L 0 87 [2] caoY [68,19,1,3] [(0,[1,3])] (fs [(53,x53),(19,x19),(1,x1),(3,x3)]) h K =
   paoY C L x53 x19 x1 x3 h (fun x68 x19 x1 x3 h => K .normal (fs [(68,x68),(19,x19),(1,x1),(3,x3)]) h) := by
 kernel_rfl
noncomputable def caiV : Code := cR cahE
noncomputable def cayK : Code := cL caiV
noncomputable def payK (C : CF) (L : Nat) {β : Type} (x68 x19 x1 x3 : Value) (h : H) (kn : Kv2 β) : Option β :=
 bnd (A.fieldAddr 4 x1) fun t70 =>
 bnd (A.load false 1 t70 h) fun t71 =>
 bnd (A.fieldAddr 23 x1) fun t72 =>
 bnd (A.load false 1 t72 h) fun t73 =>
 bnd (A.build Z77L [(4,1,t71),(23,1,t73)]) fun t74 =>
 bnd (A.store 24 x3 t74 h) fun hq1 =>
 kn x1 x3 hq1
theorem epayK (x68 x19 x1 x3 : Value) :
  execK prog C L 0 87 [2] cayK [1,3] [(0,[1,3])] (fs [(68,x68),(19,x19),(1,x1),(3,x3)]) h K =
   payK C L x68 x19 x1 x3 h (fun x1 x3 h => K .normal (fs [(1,x1),(3,x3)]) h) := by
 kernel_rfl
noncomputable def cakK : Code := cR caiV
noncomputable def caoZ : Code := cL cakK
noncomputable def paoZ (C : CF) (L : Nat) {β : Type} (x68 x19 x1 x3 : Value) (h : H) (kn : Kv3 β) : Option β :=
 bnd (A.bin prog .eql 5 x19 (.int .u8 12)) fun t76 =>
 toBK t76 fun b =>
 (bif b then
 kn (.bool b) x1 x3 h
 else
 bnd (A.bin prog .eql 5 x19 (.int .u8 13)) fun t77 =>
 toBK t77 fun bq1 =>
 (bif bq1 then
 kn (.bool bq1) x1 x3 h
 else
 bnd (A.bin prog .eql 5 x19 (.int .u8 14)) fun t78 =>
 toBK t78 fun bq2 =>
 kn (.bool bq2) x1 x3 h))
theorem epaoZ (x68 x19 x1 x3 : Value) :
  execK prog C L 0 87 [2] caoZ [75,1,3] [(0,[1,3])] (fs [(68,x68),(19,x19),(1,x1),(3,x3)]) h K =
   paoZ C L x68 x19 x1 x3 h (fun x75 x1 x3 h => K .normal (fs [(75,x75),(1,x1),(3,x3)]) h) := by
 kernel_rfl
noncomputable def capA : Code := cR cakK
noncomputable def papA (C : CF) (L : Nat) {β : Type} (x75 x1 x3 : Value) (h : H) (kn : Kv2 β) : Option β :=
 condV x75 (
 kn x1 x3 h) (
 bnd (A.fieldAddr 4 x1) fun t20 =>
 bnd (A.load false 1 t20 h) fun t21 =>
 bnd (A.build Z77L [(4,1,t21)]) fun t22 =>
 bnd (A.store 24 x3 t22 h) fun hq1 =>
 kn x1 x3 hq1)
theorem epapA (x75 x1 x3 : Value) :
  execK prog C L 0 87 [2] capA [1,3] [(0,[1,3])] (fs [(75,x75),(1,x1),(3,x3)]) h K =
   papA C L x75 x1 x3 h (fun x1 x3 h => K .normal (fs [(1,x1),(3,x3)]) h) := by
 kernel_rfl
noncomputable def pakK (C : CF) (L : Nat) {β : Type} (x68 x19 x1 x3 : Value) (h : H) (kn : Kv2 β) : Option β :=
 paoZ C L x68 x19 x1 x3 h (fun x75 x1 x3 h => papA C L x75 x1 x3 h kn)
theorem epakK (x68 x19 x1 x3 : Value) :
  execK prog C L 0 87 [2] cakK [1,3] [(0,[1,3])] (fs [(68,x68),(19,x19),(1,x1),(3,x3)]) h K =
   pakK C L x68 x19 x1 x3 h (fun x1 x3 h => K .normal (fs [(1,x1),(3,x3)]) h) := by
 rw [execK_seq (a := caoZ) (b := capA) (by kernel_rfl) (show live [2] capA [1,3] [(0,[1,3])] = [75,1,3] by kernel_rfl),epaoZ]
 unfold pakK
 exact (congrArg (paoZ C L x68 x19 x1 x3 h) (funext fun x75=>funext fun x1=>funext fun x3=>funext fun h => (seqK_n _ _ _).trans (epapA C L h K x75 x1 x3)))
noncomputable def paiV (C : CF) (L : Nat) {β : Type} (x68 x19 x1 x3 : Value) (h : H) (kn : Kv2 β) : Option β :=
 condV x68 (payK C L x68 x19 x1 x3 h kn) (pakK C L x68 x19 x1 x3 h kn)
theorem epaiV (x68 x19 x1 x3 : Value) :
  execK prog C L 0 87 [2] caiV [1,3] [(0,[1,3])] (fs [(68,x68),(19,x19),(1,x1),(3,x3)]) h K =
   paiV C L x68 x19 x1 x3 h (fun x1 x3 h => K .normal (fs [(1,x1),(3,x3)]) h) := by
 rw [execK_cond (a := cayK) (b := cakK) (x := (.tmp 68)) (v := x68) (by kernel_rfl) (by kernel_rfl),epayK,epakK]
 unfold paiV
 rfl
noncomputable def pahE (C : CF) (L : Nat) {β : Type} (x53 x19 x1 x3 : Value) (h : H) (kn : Kv2 β) : Option β :=
 paoY C L x53 x19 x1 x3 h (fun x68 x19 x1 x3 h => paiV C L x68 x19 x1 x3 h kn)
theorem epahE (x53 x19 x1 x3 : Value) :
  execK prog C L 0 87 [2] cahE [1,3] [(0,[1,3])] (fs [(53,x53),(19,x19),(1,x1),(3,x3)]) h K =
   pahE C L x53 x19 x1 x3 h (fun x1 x3 h => K .normal (fs [(1,x1),(3,x3)]) h) := by
 rw [execK_seq (a := caoY) (b := caiV) (by kernel_rfl) (show live [2] caiV [1,3] [(0,[1,3])] = [68,19,1,3] by kernel_rfl),epaoY]
 unfold pahE
 exact (congrArg (paoY C L x53 x19 x1 x3 h) (funext fun x68=>funext fun x19=>funext fun x1=>funext fun x3=>funext fun h => (seqK_n _ _ _).trans (epaiV C L h K x68 x19 x1 x3)))
noncomputable def pafV (C : CF) (L : Nat) {β : Type} (x53 x19 x1 x3 : Value) (h : H) (kn : Kv2 β) : Option β :=
 condV x53 (paxO C L x53 x19 x1 x3 h kn) (pahE C L x53 x19 x1 x3 h kn)
theorem epafV (x53 x19 x1 x3 : Value) :
  execK prog C L 0 87 [2] cafV [1,3] [(0,[1,3])] (fs [(53,x53),(19,x19),(1,x1),(3,x3)]) h K =
   pafV C L x53 x19 x1 x3 h (fun x1 x3 h => K .normal (fs [(1,x1),(3,x3)]) h) := by
 rw [execK_cond (a := caxO) (b := cahE) (x := (.tmp 53)) (v := x53) (by kernel_rfl) (by kernel_rfl),epaxO,epahE]
 unfold pafV
 rfl
noncomputable def paeW (C : CF) (L : Nat) {β : Type} (x46 x19 x1 x3 : Value) (h : H) (kn : Kv2 β) : Option β :=
 panZ C L x46 x19 x1 x3 h (fun x53 x19 x1 x3 h => pafV C L x53 x19 x1 x3 h kn)
theorem epaeW (x46 x19 x1 x3 : Value) :
  execK prog C L 0 87 [2] caeW [1,3] [(0,[1,3])] (fs [(46,x46),(19,x19),(1,x1),(3,x3)]) h K =
   paeW C L x46 x19 x1 x3 h (fun x1 x3 h => K .normal (fs [(1,x1),(3,x3)]) h) := by
 rw [execK_seq (a := canZ) (b := cafV) (by kernel_rfl) (show live [2] cafV [1,3] [(0,[1,3])] = [53,19,1,3] by kernel_rfl),epanZ]
 unfold paeW
 exact (congrArg (panZ C L x46 x19 x1 x3 h) (funext fun x53=>funext fun x19=>funext fun x1=>funext fun x3=>funext fun h => (seqK_n _ _ _).trans (epafV C L h K x53 x19 x1 x3)))
noncomputable def paeA (C : CF) (L : Nat) {β : Type} (x46 x19 x1 x3 : Value) (h : H) (kn : Kv2 β) : Option β :=
 condV x46 (payL C L x46 x19 x1 x3 h kn) (paeW C L x46 x19 x1 x3 h kn)
theorem epaeA (x46 x19 x1 x3 : Value) :
  execK prog C L 0 87 [2] caeA [1,3] [(0,[1,3])] (fs [(46,x46),(19,x19),(1,x1),(3,x3)]) h K =
   paeA C L x46 x19 x1 x3 h (fun x1 x3 h => K .normal (fs [(1,x1),(3,x3)]) h) := by
 rw [execK_cond (a := cayL) (b := caeW) (x := (.tmp 46)) (v := x46) (by kernel_rfl) (by kernel_rfl),epayL,epaeW]
 unfold paeA
 rfl
noncomputable def padP (C : CF) (L : Nat) {β : Type} (x23 x19 x1 x3 : Value) (h : H) (kn : Kv2 β) : Option β :=
 panY C L x23 x19 x1 x3 h (fun x46 x19 x1 x3 h => paeA C L x46 x19 x1 x3 h kn)
theorem epadP (x23 x19 x1 x3 : Value) :
  execK prog C L 0 87 [2] cadP [1,3] [(0,[1,3])] (fs [(23,x23),(19,x19),(1,x1),(3,x3)]) h K =
   padP C L x23 x19 x1 x3 h (fun x1 x3 h => K .normal (fs [(1,x1),(3,x3)]) h) := by
 rw [execK_seq (a := canY) (b := caeA) (by kernel_rfl) (show live [2] caeA [1,3] [(0,[1,3])] = [46,19,1,3] by kernel_rfl),epanY]
 unfold padP
 exact (congrArg (panY C L x23 x19 x1 x3 h) (funext fun x46=>funext fun x19=>funext fun x1=>funext fun x3=>funext fun h => (seqK_n _ _ _).trans (epaeA C L h K x46 x19 x1 x3)))
noncomputable def padD (C : CF) (L : Nat) {β : Type} (x23 x19 x1 x3 : Value) (h : H) (kn : Kv2 β) : Option β :=
 condV x23 (paxP C L x23 x19 x1 x3 h kn) (padP C L x23 x19 x1 x3 h kn)
theorem epadD (x23 x19 x1 x3 : Value) :
  execK prog C L 0 87 [2] cadD [1,3] [(0,[1,3])] (fs [(23,x23),(19,x19),(1,x1),(3,x3)]) h K =
   padD C L x23 x19 x1 x3 h (fun x1 x3 h => K .normal (fs [(1,x1),(3,x3)]) h) := by
 rw [execK_cond (a := caxP) (b := cadP) (x := (.tmp 23)) (v := x23) (by kernel_rfl) (by kernel_rfl),epaxP,epadP]
 unfold padD
 rfl
noncomputable def pacS (C : CF) (L : Nat) {β : Type} (x19 x1 x3 : Value) (h : H) (kn : Kv2 β) : Option β :=
 panO C L x19 x1 x3 h (fun x23 x19 x1 x3 h => padD C L x23 x19 x1 x3 h kn)
theorem epacS (x19 x1 x3 : Value) :
  execK prog C L 0 87 [2] cacS [1,3] [(0,[1,3])] (fs [(19,x19),(1,x1),(3,x3)]) h K =
   pacS C L x19 x1 x3 h (fun x1 x3 h => K .normal (fs [(1,x1),(3,x3)]) h) := by
 rw [execK_seq (a := canO) (b := cadD) (by kernel_rfl) (show live [2] cadD [1,3] [(0,[1,3])] = [23,19,1,3] by kernel_rfl),epanO]
 unfold pacS
 exact (congrArg (panO C L x19 x1 x3 h) (funext fun x23=>funext fun x19=>funext fun x1=>funext fun x3=>funext fun h => (seqK_n _ _ _).trans (epadD C L h K x23 x19 x1 x3)))
noncomputable def pacN (C : CF) (L : Nat) {β : Type} (x19 x1 x3 : Value) (h : H) (kn : Kv2 β) : Option β :=
 pacS C L x19 x1 x3 h kn
theorem epacN (x19 x1 x3 : Value) :
  execK prog C L 0 87 [2] cacN [1,3] [] (fs [(19,x19),(1,x1),(3,x3)]) h K =
   pacN C L x19 x1 x3 h (fun x1 x3 h => K .normal (fs [(1,x1),(3,x3)]) h) := by
 rw [execK_block (b := cacS) (id := 0) (by kernel_rfl),epacS]
 unfold pacN
 rfl
noncomputable def pacB (C : CF) (L : Nat) {β : Type} (x1 x3 : Value) (h : H) (kn : Kv2 β) : Option β :=
 panN C L x1 x3 h (fun x19 x1 x3 h => pacN C L x19 x1 x3 h kn)
theorem epacB (x1 x3 : Value) :
  execK prog C L 0 87 [2] cacB [1,3] [] (fs [(1,x1),(3,x3)]) h K =
   pacB C L x1 x3 h (fun x1 x3 h => K .normal (fs [(1,x1),(3,x3)]) h) := by
 rw [execK_seq (a := canN) (b := cacN) (by kernel_rfl) (show live [2] cacN [1,3] [] = [19,1,3] by kernel_rfl),epanN]
 unfold pacB
 exact (congrArg (panN C L x1 x3 h) (funext fun x19=>funext fun x1=>funext fun x3=>funext fun h => (seqK_n _ _ _).trans (epacN C L h K x19 x1 x3)))
noncomputable def caqO : Code := cR cabY
noncomputable def paqO (C : CF) (L : Nat) {β : Type} (x1 x3 : Value) (h : H) (kr : Kv1 β) : Option β :=
 bnd (A.fieldAddr 0 x1) fun t79 =>
 bnd (A.load false 1 t79 h) fun t80 =>
 bnd (A.fieldAddr 0 x3) fun t81 =>
 bnd (A.store 1 t81 t80 h) fun hq1 =>
 bnd (A.load true 24 x1 hq1) fun t82 =>
 bnd2 (C 143 [t82] hq1) fun t83 hq2 =>
 bnd (A.load true 24 x3 hq2) fun t84 =>
 bif (chk (bnd (A.load true 24 x3 hq1) fun v => some v) t84 && true) then
 bnd2 (C 143 [t84] hq2) fun t85 hq3 =>
 bnd (A.bin prog .eql 230 t83 t85) fun t86 =>
 toBK t86 fun b =>
 kr (.bool b) hq3
 else none
theorem epaqO (x1 x3 : Value) :
  execK prog C L 0 87 [2] caqO [2] [] (fs [(1,x1),(3,x3)]) h K =
   paqO C L x1 x3 h (fun x2 h => K .ret (fs [(2,x2)]) h) := by
 kernel_rfl
noncomputable def p111a (C : CF) (L : Nat) {β : Type} (x0 : Value) (h : H) (kr : Kv1 β) : Option β :=
 patM C L x0 h (fun x1 h => pakI C L x1 h kr (fun x1 h => patN C L x1 h (fun x1 x3 h => pacB C L x1 x3 h (fun x1 x3 h => paqO C L x1 x3 h kr))))
theorem ep111a (x0 : Value) :
  execK prog C L 0 87 [2] c111a [2] [] (fs [(0,x0)]) h K =
   p111a C L x0 h (fun x2 h => K .ret (fs [(2,x2)]) h) := by
 rw [execK_seq (a := catM) (b := cabM) (by kernel_rfl) (show live [2] cabM [2] [] = [1] by kernel_rfl),epatM]
 unfold p111a
 exact (congrArg (patM C L x0 h) (funext fun x1=>funext fun h => (seqK_n _ _ _).trans (by rw [execK_seq (a := cakI) (b := cabU) (by kernel_rfl) (show live [2] cabU [2] [] = [1] by kernel_rfl),epakI]; exact (congr (congrArg (pakI C L x1 h) (funext fun x2=>funext fun h => seqK_r _ _ _)) (funext fun x1=>funext fun h => (seqK_n _ _ _).trans (by rw [execK_seq (a := catN) (b := cabY) (by kernel_rfl) (show live [2] cabY [2] [] = [1,3] by kernel_rfl),epatN]; exact (congrArg (patN C L x1 h) (funext fun x1=>funext fun x3=>funext fun h => (seqK_n _ _ _).trans (by rw [execK_seq (a := cacB) (b := caqO) (by kernel_rfl) (show live [2] caqO [2] [] = [1,3] by kernel_rfl),epacB]; exact (congrArg (pacB C L x1 x3 h) (funext fun x1=>funext fun x3=>funext fun h => (seqK_n _ _ _).trans (epaqO C L h K x1 x3))))))))))))
noncomputable def F111 (C : CF) (L : Nat) (x0 : Value) (h : H) : Option (Value × H) :=
 p111a C L x0 h
  (fun x2 h => some (x2,h))
theorem F111eq (Q : Orc) (n : Nat) (x0 : Value) (h : H) (hQ : Q 111 [x0] = none) : callO prog 0 Q (n + 1) 111 [x0] h = F111 (callO prog 0 Q n) n x0 h := by
 rw [callO_eq hQ (c := c111a) (nt := 87) (RR := [2]) (fr := (fs [(0,x0)])) Tryz.func111 (by kernel_rfl) (by kernel_rfl) (by kernel_rfl) (by kernel_rfl) (by kernel_rfl),ep111a]
 kernel_rfl
noncomputable def c143a : Code := (Tryz.f143.body).getD .skip
noncomputable def catU : Code := cL c143a
noncomputable def patU (C : CF) (L : Nat) {β : Type} (x0 : Value) (h : H) (kn : Kv2 β) : Option β :=
 bnd2 (A.box 24 x0 h) fun t1 hq1 =>
 bnd2 (A.box 23 Z230 hq1) fun t2 hq2 =>
 kn t1 t2 hq2
theorem epatU (x0 : Value) :
  execK prog C L 0 44 [2] catU [1,2] [] (fs [(0,x0)]) h K =
   patU C L x0 h (fun x1 x2 h => K .normal (fs [(1,x1),(2,x2)]) h) := by
 kernel_rfl
noncomputable def camH : Code := cR c143a
noncomputable def catV : Code := cL camH
noncomputable def patV (C : CF) (L : Nat) {β : Type} (x1 x2 : Value) (h : H) (kn : Kv1 β) : Option β :=
 bnd (A.fieldAddr 0 x1) fun t3 =>
 bnd (A.load false 1 t3 h) fun t4 =>
 bnd (A.fieldAddr 2 x1) fun t5 =>
 bnd (A.load false 1 t5 h) fun t6 =>
 bnd (A.fieldAddr 7 x1) fun t7 =>
 bnd (A.load false 1 t7 h) fun t8 =>
 bnd (A.fieldAddr 21 x1) fun t9 =>
 bnd (A.load false 1 t9 h) fun t10 =>
 bnd (A.fieldAddr 1 x1) fun t11 =>
 bnd (A.load false 1 t11 h) fun t12 =>
 toBK t12 fun b =>
 bnd (A.fieldAddr 3 x1) fun t13 =>
 bnd (A.load false 1 t13 h) fun t14 =>
 toBK t14 fun bq1 =>
 bnd (A.fieldAddr 8 x1) fun t15 =>
 bnd (A.load false 1 t15 h) fun t16 =>
 toBK t16 fun bq2 =>
 bnd (A.fieldAddr 11 x1) fun t17 =>
 bnd (A.load false 1 t17 h) fun t18 =>
 toBK t18 fun bq3 =>
 bnd (A.fieldAddr 16 x1) fun t19 =>
 bnd (A.load false 1 t19 h) fun t20 =>
 toBK t20 fun bq4 =>
 bnd (A.fieldAddr 17 x1) fun t21 =>
 bnd (A.load false 1 t21 h) fun t22 =>
 toBK t22 fun bq5 =>
 bnd (A.fieldAddr 20 x1) fun t23 =>
 bnd (A.load false 1 t23 h) fun t24 =>
 toBK t24 fun bq6 =>
 bnd (A.fieldAddr 4 x1) fun t25 =>
 bnd (A.load false 1 t25 h) fun t26 =>
 bnd (A.fieldAddr 9 x1) fun t27 =>
 bnd (A.load false 1 t27 h) fun t28 =>
 bnd (A.fieldAddr 5 x1) fun t29 =>
 bnd (A.load false 1 t29 h) fun t30 =>
 bnd (A.fieldAddr 6 x1) fun t31 =>
 bnd (A.load false 1 t31 h) fun t32 =>
 bnd (A.fieldAddr 10 x1) fun t33 =>
 bnd (A.load false 1 t33 h) fun t34 =>
 bnd (A.fieldAddr 18 x1) fun t35 =>
 bnd (A.load false 1 t35 h) fun t36 =>
 bnd (A.fieldAddr 19 x1) fun t37 =>
 bnd (A.load false 1 t37 h) fun t38 =>
 bnd (A.fieldAddr 23 x1) fun t39 =>
 bnd (A.load false 1 t39 h) fun t40 =>
 bnd (A.fieldAddr 12 x1) fun t41 =>
 bnd (A.load true 4 t41 h) fun t42 =>
 bnd (A.build Z230L [(0,1,t4),(1,1,t6),(2,1,t8),(3,1,t10),(4,1,(.bool b)),(5,1,(.bool bq1)),(6,1,(.bool bq2)),(7,1,(.bool bq3)),(8,1,(.bool bq4)),(9,1,(.bool bq5)),(10,1,(.bool bq6)),(11,1,t26),(12,1,t28),(13,1,t30),(14,1,t32),(15,1,t34),(16,1,t36),(17,1,t38),(18,1,t40),(19,4,t42)]) fun t43 =>
 bnd (A.store 23 x2 t43 h) fun hq1 =>
 kn x2 hq1
theorem epatV (x1 x2 : Value) :
  execK prog C L 0 44 [2] catV [2] [] (fs [(1,x1),(2,x2)]) h K =
   patV C L x1 x2 h (fun x2 h => K .normal (fs [(2,x2)]) h) := by
 kernel_rfl
noncomputable def catW : Code := cR camH
noncomputable def patW (C : CF) (L : Nat) {β : Type} (x2 : Value) (h : H) (kr : Kv1 β) : Option β :=
 kr x2 h
theorem epatW (x2 : Value) :
  execK prog C L 0 44 [2] catW [2] [] (fs [(2,x2)]) h K =
   patW C L x2 h (fun x2 h => K .ret (fs [(2,x2)]) h) := by
 kernel_rfl
noncomputable def p143a (C : CF) (L : Nat) {β : Type} (x0 : Value) (h : H) (kr : Kv1 β) : Option β :=
 patU C L x0 h (fun x1 x2 h => patV C L x1 x2 h (fun x2 h => patW C L x2 h kr))
theorem ep143a (x0 : Value) :
  execK prog C L 0 44 [2] c143a [2] [] (fs [(0,x0)]) h K =
   p143a C L x0 h (fun x2 h => K .ret (fs [(2,x2)]) h) := by
 rw [execK_seq (a := catU) (b := camH) (by kernel_rfl) (show live [2] camH [2] [] = [1,2] by kernel_rfl),epatU]
 unfold p143a
 exact (congrArg (patU C L x0 h) (funext fun x1=>funext fun x2=>funext fun h => (seqK_n _ _ _).trans (by rw [execK_seq (a := catV) (b := catW) (by kernel_rfl) (show live [2] catW [2] [] = [2] by kernel_rfl),epatV]; exact (congrArg (patV C L x1 x2 h) (funext fun x2=>funext fun h => (seqK_n _ _ _).trans (epatW C L h K x2))))))
noncomputable def F143 (C : CF) (L : Nat) (x0 : Value) (h : H) : Option (Value × H) :=
 p143a C L x0 h
  (fun x2 h => bnd (resC (A.load true 23 x2 h) (some [])) fun vs => some (packA vs,h))
theorem F143eq (Q : Orc) (n : Nat) (x0 : Value) (h : H) (hQ : Q 143 [x0] = none) : callO prog 0 Q (n + 1) 143 [x0] h = F143 (callO prog 0 Q n) n x0 h := by
 rw [callO_eq hQ (c := c143a) (nt := 44) (RR := [2]) (fr := (fs [(0,x0)])) Tryz.func143 (by kernel_rfl) (by kernel_rfl) (by kernel_rfl) (by kernel_rfl) (by kernel_rfl),ep143a]
 kernel_rfl
end Go.Proofs.YtdljlmpleibkiaaGreatDoor.ScB
