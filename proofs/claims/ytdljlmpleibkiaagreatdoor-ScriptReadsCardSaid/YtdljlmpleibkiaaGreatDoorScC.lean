import Derived.Test.YtdljlmpleibkiaaGreatDoorProg
import Derived.Test.YtdljlmpleibkiaaGreatDoorRq
set_option linter.unusedVariables false
set_option maxRecDepth 100000
namespace Go.Proofs.YtdljlmpleibkiaaGreatDoor.ScC
open Tryz (prog)
open Go Go.AM
variable (C : CF) (L : Nat) {β : Type} (h : H) (K : Ex → T Value → Kv0 β)
noncomputable def Z25 : Value := (.agg ⟨[(.int .i64 0),(.int .i64 0),(.int .i64 0),(.int .i64 0),(.int .i64 0)]⟩)
noncomputable def Z25L : List Value := [(.int .i64 0),(.int .i64 0),(.int .i64 0),(.int .i64 0),(.int .i64 0)]
noncomputable def Z54L : List Value := [(.slice none 0 0),(.int .i64 0)]
noncomputable def Z36 : Value := (.agg ⟨[(.int .u8 0),(.int .i64 0),(.int .i64 0),(.int .i64 0),(.int .i64 0),(.int .i64 0),(.string ⟨⟨[]⟩⟩)]⟩)
noncomputable def Z36L : List Value := [(.int .u8 0),(.int .i64 0),(.int .i64 0),(.int .i64 0),(.int .i64 0),(.int .i64 0),(.string ⟨⟨[]⟩⟩)]
noncomputable def Z5L : List Value := [(.int .u8 0)]
noncomputable def Z77 : Value := (.agg ⟨[(.int .u8 0),(.bool false),(.int .u8 0),(.bool false),(.int .u16 0),(.string ⟨⟨[]⟩⟩),(.string ⟨⟨[]⟩⟩),(.int .u8 0),(.bool false),(.int .u16 0),(.string ⟨⟨[]⟩⟩),(.bool false),(.string ⟨⟨[]⟩⟩),(.string ⟨⟨[]⟩⟩),(.int .u8 0),(.bool false),(.bool false),(.bool false),(.string ⟨⟨[]⟩⟩),(.string ⟨⟨[]⟩⟩),(.bool false),(.int .u8 0),(.slice none 0 0),(.string ⟨⟨[]⟩⟩)]⟩)
noncomputable def Z77L : List Value := [(.int .u8 0),(.bool false),(.int .u8 0),(.bool false),(.int .u16 0),(.string ⟨⟨[]⟩⟩),(.string ⟨⟨[]⟩⟩),(.int .u8 0),(.bool false),(.int .u16 0),(.string ⟨⟨[]⟩⟩),(.bool false),(.string ⟨⟨[]⟩⟩),(.string ⟨⟨[]⟩⟩),(.int .u8 0),(.bool false),(.bool false),(.bool false),(.string ⟨⟨[]⟩⟩),(.string ⟨⟨[]⟩⟩),(.bool false),(.int .u8 0),(.slice none 0 0),(.string ⟨⟨[]⟩⟩)]
noncomputable def Z9L : List Value := [(.string ⟨⟨[]⟩⟩)]
noncomputable def Z110 : Value := (.agg ⟨[(.string ⟨⟨[]⟩⟩),(.int .u8 0)]⟩)
noncomputable def Z110L : List Value := [(.string ⟨⟨[]⟩⟩),(.int .u8 0)]
noncomputable def Z3L : List Value := [(.int .i64 0)]
noncomputable def Z74L : List Value := [(.string ⟨⟨[]⟩⟩),(.string ⟨⟨[]⟩⟩),(.int .u8 0),(.bool false)]
noncomputable def c6a : Code := (Tryz.f6.body).getD .skip
noncomputable def cajG : Code := cL c6a
noncomputable def pajG (C : CF) (L : Nat) {β : Type} (x0 : Value) (h : H) (kn : Kv2 β) : Option β :=
 bnd2 (A.box 5 Z25 h) fun t2 hq1 =>
 kn x0 t2 hq1
theorem epajG (x0 : Value) :
  execK prog C L 0 58 [2,3] cajG [0,2] [] (fs [(0,x0)]) h K =
   pajG C L x0 h (fun x0 x2 h => K .normal (fs [(0,x0),(2,x2)]) h) := by
 kernel_rfl
noncomputable def caaA : Code := cR c6a
noncomputable def cadT : Code := cL caaA
noncomputable def padT (C : CF) (L : Nat) {β : Type} (x0 x2 : Value) (h : H) (kn : Kv2 β) : Option β :=
 bnd (A.build Z54L [(0,1,x0)]) fun t9 =>
 bnd2 (A.box 2 t9 h) fun t10 hq1 =>
 kn t10 x2 hq1
theorem epadT (x0 x2 : Value) :
  execK prog C L 0 58 [2,3] cadT [4,2] [] (fs [(0,x0),(2,x2)]) h K =
   padT C L x0 x2 h (fun x4 x2 h => K .normal (fs [(4,x4),(2,x2)]) h) := by
 kernel_rfl
noncomputable def caaC : Code := cR caaA
noncomputable def cagQ : Code := cL caaC
noncomputable def pagQ (C : CF) (L : Nat) {β : Type} (x4 x2 : Value) (h : H) (kn : Kv3 β) : Option β :=
 bnd2 (A.box 5 Z25 h) fun t5 hq1 =>
 kn x4 t5 x2 hq1
theorem epagQ (x4 x2 : Value) :
  execK prog C L 0 58 [2,3] cagQ [4,5,2] [] (fs [(4,x4),(2,x2)]) h K =
   pagQ C L x4 x2 h (fun x4 x5 x2 h => K .normal (fs [(4,x4),(5,x5),(2,x2)]) h) := by
 kernel_rfl
noncomputable def caaG : Code := cR caaC
noncomputable def cadO : Code := cL caaG
noncomputable def padO (C : CF) (L : Nat) {β : Type} (x4 x5 x2 : Value) (h : H) (kn : Kv3 β) : Option β :=
 bnd2 (C 12 [x4] h) fun t12 hq1 =>
 bnd (A.bin prog .rem 3 t12 (.int .i64 4)) fun t13 =>
 bnd (A.bin prog .add 3 t13 (.int .i64 1)) fun t14 =>
 bnd (A.fieldAddr 0 x5) fun t15 =>
 bnd (A.store 1 t15 t14 hq1) fun hq2 =>
 kn x4 x5 x2 hq2
theorem epadO (x4 x5 x2 : Value) :
  execK prog C L 0 58 [2,3] cadO [4,5,2] [] (fs [(4,x4),(5,x5),(2,x2)]) h K =
   padO C L x4 x5 x2 h (fun x4 x5 x2 h => K .normal (fs [(4,x4),(5,x5),(2,x2)]) h) := by
 kernel_rfl
noncomputable def cabC : Code := cR caaG
noncomputable def cacW : Code := cL cabC
noncomputable def pacW (C : CF) (L : Nat) {β : Type} (x4 x5 x2 : Value) (h : H) (kn : Kv3 β) : Option β :=
 bnd2 (C 12 [x4] h) fun t17 hq1 =>
 bnd (A.bin prog .rem 3 t17 (.int .i64 2)) fun t18 =>
 bnd (A.bin prog .add 3 t18 (.int .i64 1)) fun t19 =>
 bnd (A.fieldAddr 1 x5) fun t20 =>
 bnd (A.store 1 t20 t19 hq1) fun hq2 =>
 kn x4 x5 x2 hq2
theorem epacW (x4 x5 x2 : Value) :
  execK prog C L 0 58 [2,3] cacW [4,5,2] [] (fs [(4,x4),(5,x5),(2,x2)]) h K =
   pacW C L x4 x5 x2 h (fun x4 x5 x2 h => K .normal (fs [(4,x4),(5,x5),(2,x2)]) h) := by
 kernel_rfl
noncomputable def cadS : Code := cR cabC
noncomputable def camR : Code := cL cadS
noncomputable def pamR (C : CF) (L : Nat) {β : Type} (x4 x5 x2 : Value) (h : H) (kn : Kv3 β) : Option β :=
 bnd2 (C 12 [x4] h) fun t22 hq1 =>
 bnd (A.bin prog .add 3 t22 (.int .i64 16)) fun t23 =>
 bnd (A.fieldAddr 2 x5) fun t24 =>
 bnd (A.store 1 t24 t23 hq1) fun hq2 =>
 kn x4 x5 x2 hq2
theorem epamR (x4 x5 x2 : Value) :
  execK prog C L 0 58 [2,3] camR [4,5,2] [] (fs [(4,x4),(5,x5),(2,x2)]) h K =
   pamR C L x4 x5 x2 h (fun x4 x5 x2 h => K .normal (fs [(4,x4),(5,x5),(2,x2)]) h) := by
 kernel_rfl
noncomputable def caeS : Code := cR cadS
noncomputable def cawY : Code := cL caeS
noncomputable def pawY (C : CF) (L : Nat) {β : Type} (x4 x5 x2 : Value) (h : H) (kn : Kv3 β) : Option β :=
 bnd2 (C 12 [x4] h) fun t26 hq1 =>
 bnd (A.bin prog .rem 3 t26 (.int .i64 5)) fun t27 =>
 bnd (A.bin prog .add 3 t27 (.int .i64 1)) fun t28 =>
 bnd (A.fieldAddr 3 x5) fun t29 =>
 bnd (A.store 1 t29 t28 hq1) fun hq2 =>
 kn x4 x5 x2 hq2
theorem epawY (x4 x5 x2 : Value) :
  execK prog C L 0 58 [2,3] cawY [4,5,2] [] (fs [(4,x4),(5,x5),(2,x2)]) h K =
   pawY C L x4 x5 x2 h (fun x4 x5 x2 h => K .normal (fs [(4,x4),(5,x5),(2,x2)]) h) := by
 kernel_rfl
noncomputable def cafO : Code := cR caeS
noncomputable def cawZ : Code := cL cafO
noncomputable def pawZ (C : CF) (L : Nat) {β : Type} (x4 x5 x2 : Value) (h : H) (kn : Kv3 β) : Option β :=
 bnd2 (C 12 [x4] h) fun t31 hq1 =>
 bnd (A.bin prog .rem 3 t31 (.int .i64 3)) fun t32 =>
 bnd (A.bin prog .add 3 t32 (.int .i64 1)) fun t33 =>
 bnd (A.fieldAddr 4 x5) fun t34 =>
 bnd (A.store 1 t34 t33 hq1) fun hq2 =>
 kn x4 x5 x2 hq2
theorem epawZ (x4 x5 x2 : Value) :
  execK prog C L 0 58 [2,3] cawZ [4,5,2] [] (fs [(4,x4),(5,x5),(2,x2)]) h K =
   pawZ C L x4 x5 x2 h (fun x4 x5 x2 h => K .normal (fs [(4,x4),(5,x5),(2,x2)]) h) := by
 kernel_rfl
noncomputable def cagF : Code := cR cafO
noncomputable def caxA : Code := cL cagF
noncomputable def paxA (C : CF) (L : Nat) {β : Type} (x4 x5 x2 : Value) (h : H) (kn : Kv4 β) : Option β :=
 kn x4 x5 (.slice none 0 0) x2 h
theorem epaxA (x4 x5 x2 : Value) :
  execK prog C L 0 58 [2,3] caxA [4,5,6,2] [] (fs [(4,x4),(5,x5),(2,x2)]) h K =
   paxA C L x4 x5 x2 h (fun x4 x5 x6 x2 h => K .normal (fs [(4,x4),(5,x5),(6,x6),(2,x2)]) h) := by
 kernel_rfl
noncomputable def cagZ : Code := cR cagF
noncomputable def cahX : Code := cL cagZ
noncomputable def caiT : Code := cL cahX
noncomputable def cakJ : Code := cL caiT
noncomputable def caoP : Code := cL cakJ
noncomputable def paoP (C : CF) (L : Nat) {β : Type} (x4 x5 x6 x2 : Value) (h : H) (kn : Kv4 β) (kx0 : Kv3 β) : Option β :=
 bnd (A.nilCheck x4) fun t36 =>
 bnd (A.fieldAddr 1 t36) fun t37 =>
 bnd (A.load false 1 t37 h) fun t38 =>
 bnd (A.nilCheck x4) fun t40 =>
 bnd (A.fieldAddr 0 t40) fun t41 =>
 bnd (A.load false 1 t41 h) fun t42 =>
 bnd (A.lenS t42) fun t43 =>
 bnd (A.bin prog .lss 3 t38 t43) fun t44 =>
 toBK t44 fun b =>
 (bif b then
 bnd (A.lenS x6) fun t47 =>
 bnd (A.bin prog .lss 3 t47 (.int .i64 1000)) fun t48 =>
 toBK t48 fun bq1 =>
 (bif bq1 then
 kn x6 x4 x5 x2 h
 else
 kx0 x5 x6 x2 h)
 else
 kx0 x5 x6 x2 h)
theorem epaoP (x4 x5 x6 x2 : Value) :
  execK prog C L 0 58 [2,3] caoP [6,4,5,2] [(0,[5,6,2])] (fs [(4,x4),(5,x5),(6,x6),(2,x2)]) h K =
   paoP C L x4 x5 x6 x2 h (fun x6 x4 x5 x2 h => K .normal (fs [(6,x6),(4,x4),(5,x5),(2,x2)]) h) (fun x5 x6 x2 h => K (.exit 0) (fs [(5,x5),(6,x6),(2,x2)]) h) := by
 kernel_rfl
noncomputable def caxB : Code := cR cakJ
noncomputable def paxB (C : CF) (L : Nat) {β : Type} (x6 x4 x5 x2 : Value) (h : H) (kn : Kv4 β) : Option β :=
 bnd2 (C 13 [x4] h) fun t51 hq1 =>
 bnd2 (A.box 7 Z36 hq1) fun t7 hq2 =>
 bnd (A.store 7 t7 t51 hq2) fun hq3 =>
 bnd (A.load true 7 t7 hq3) fun t53 =>
 bnd2 (A.buildSlice 7 1 Z36L [(0,7,t53)] hq3) fun t54 hq4 =>
 bnd2 (A.append 7 64 x6 t54 hq4) fun t55 hq5 =>
 kn x4 x5 t55 x2 hq5
theorem epaxB (x6 x4 x5 x2 : Value) :
  execK prog C L 0 58 [2,3] caxB [4,5,6,2] [(0,[5,6,2])] (fs [(6,x6),(4,x4),(5,x5),(2,x2)]) h K =
   paxB C L x6 x4 x5 x2 h (fun x4 x5 x6 x2 h => K .normal (fs [(4,x4),(5,x5),(6,x6),(2,x2)]) h) := by
 kernel_rfl
noncomputable def pakJ (C : CF) (L : Nat) {β : Type} (x4 x5 x6 x2 : Value) (h : H) (kn : Kv4 β) (kx0 : Kv3 β) : Option β :=
 paoP C L x4 x5 x6 x2 h (fun x6 x4 x5 x2 h => paxB C L x6 x4 x5 x2 h kn) kx0
theorem epakJ (x4 x5 x6 x2 : Value) :
  execK prog C L 0 58 [2,3] cakJ [4,5,6,2] [(0,[5,6,2])] (fs [(4,x4),(5,x5),(6,x6),(2,x2)]) h K =
   pakJ C L x4 x5 x6 x2 h (fun x4 x5 x6 x2 h => K .normal (fs [(4,x4),(5,x5),(6,x6),(2,x2)]) h) (fun x5 x6 x2 h => K (.exit 0) (fs [(5,x5),(6,x6),(2,x2)]) h) := by
 rw [execK_seq (a := caoP) (b := caxB) (by kernel_rfl) (show live [2,3] caxB [4,5,6,2] [(0,[5,6,2])] = [6,4,5,2] by kernel_rfl),epaoP]
 unfold pakJ
 exact (congr (congrArg (paoP C L x4 x5 x6 x2 h) (funext fun x6=>funext fun x4=>funext fun x5=>funext fun x2=>funext fun h => (seqK_n _ _ _).trans (epaxB C L h K x6 x4 x5 x2))) (funext fun x5=>funext fun x6=>funext fun x2=>funext fun h => seqK_x _ _ _ _))
noncomputable def papV (C : CF) (L : Nat) {β : Type} (kx0 : Kv3 β) : Nat → Kv4 β
 | 0,_,_,_,_,_ => none
 | n + 1,x4,x5,x6,x2,h => pakJ C L x4 x5 x6 x2 h (fun x4 x5 x6 x2 h => papV C L kx0 n x4 x5 x6 x2 h) kx0
theorem epapV (C : CF) (L : Nat) {β : Type} (K : Ex → T Value → Kv0 β) : ∀ (n : Nat) (x4 x5 x6 x2 : Value) (h : H),
  loopK (fun fr h K => execK prog C L 0 58 [2,3] cakJ [4,5,6,2] [(0,[5,6,2])] fr h K) n (fs [(4,x4),(5,x5),(6,x6),(2,x2)]) h K =
   papV C L (fun x5 x6 x2 h => K (.exit 0) (fs [(5,x5),(6,x6),(2,x2)]) h) n x4 x5 x6 x2 h := by
 intro n
 induction n with
 | zero => intros; rfl
 | succ n ih =>
  intros
  simp only [loopK]
  rw [epakJ]
  simp only [seqK_n,seqK_x,seqK_r,ih]
  rfl
noncomputable def paiT (C : CF) (L : Nat) {β : Type} (x4 x5 x6 x2 : Value) (h : H) (kx0 : Kv3 β) : Option β :=
 papV C L kx0 L x4 x5 x6 x2 h
theorem epaiT (x4 x5 x6 x2 : Value) :
  execK prog C L 0 58 [2,3] caiT [5,6,2] [(0,[5,6,2])] (fs [(4,x4),(5,x5),(6,x6),(2,x2)]) h K =
   paiT C L x4 x5 x6 x2 h (fun x5 x6 x2 h => K (.exit 0) (fs [(5,x5),(6,x6),(2,x2)]) h) := by
 rw [execK_loop (b := cakJ) (fr1 := (fs [(4,x4),(5,x5),(6,x6),(2,x2)])) (by kernel_rfl) (show live [2,3] cakJ [] [(0,[5,6,2])] = [4,5,6,2] by kernel_rfl) (by kernel_rfl),epapV]
 unfold paiT
 rfl
noncomputable def pahX (C : CF) (L : Nat) {β : Type} (x4 x5 x6 x2 : Value) (h : H) (kn : Kv3 β) : Option β :=
 paiT C L x4 x5 x6 x2 h kn
theorem epahX (x4 x5 x6 x2 : Value) :
  execK prog C L 0 58 [2,3] cahX [5,6,2] [] (fs [(4,x4),(5,x5),(6,x6),(2,x2)]) h K =
   pahX C L x4 x5 x6 x2 h (fun x5 x6 x2 h => K .normal (fs [(5,x5),(6,x6),(2,x2)]) h) := by
 rw [execK_block (b := caiT) (id := 0) (by kernel_rfl),epaiT]
 unfold pahX
 rfl
noncomputable def caxC : Code := cR cagZ
noncomputable def paxC (C : CF) (L : Nat) {β : Type} (x5 x6 x2 : Value) (h : H) (kr : Kv2 β) : Option β :=
 bnd (A.load true 5 x5 h) fun t56 =>
 bnd (A.store 5 x2 t56 h) fun hq1 =>
 kr x2 x6 hq1
theorem epaxC (x5 x6 x2 : Value) :
  execK prog C L 0 58 [2,3] caxC [2,3] [] (fs [(5,x5),(6,x6),(2,x2)]) h K =
   paxC C L x5 x6 x2 h (fun x2 x3 h => K .ret (fs [(2,x2),(3,x3)]) h) := by
 kernel_rfl
noncomputable def p6a (C : CF) (L : Nat) {β : Type} (x0 : Value) (h : H) (kr : Kv2 β) : Option β :=
 pajG C L x0 h (fun x0 x2 h => padT C L x0 x2 h (fun x4 x2 h => pagQ C L x4 x2 h (fun x4 x5 x2 h => padO C L x4 x5 x2 h (fun x4 x5 x2 h => pacW C L x4 x5 x2 h (fun x4 x5 x2 h => pamR C L x4 x5 x2 h (fun x4 x5 x2 h => pawY C L x4 x5 x2 h (fun x4 x5 x2 h => pawZ C L x4 x5 x2 h (fun x4 x5 x2 h => paxA C L x4 x5 x2 h (fun x4 x5 x6 x2 h => pahX C L x4 x5 x6 x2 h (fun x5 x6 x2 h => paxC C L x5 x6 x2 h kr))))))))))
theorem ep6a (x0 : Value) :
  execK prog C L 0 58 [2,3] c6a [2,3] [] (fs [(0,x0)]) h K =
   p6a C L x0 h (fun x2 x3 h => K .ret (fs [(2,x2),(3,x3)]) h) := by
 rw [execK_seq (a := cajG) (b := caaA) (by kernel_rfl) (show live [2,3] caaA [2,3] [] = [0,2] by kernel_rfl),epajG]
 unfold p6a
 exact (congrArg (pajG C L x0 h) (funext fun x0=>funext fun x2=>funext fun h => (seqK_n _ _ _).trans (by rw [execK_seq (a := cadT) (b := caaC) (by kernel_rfl) (show live [2,3] caaC [2,3] [] = [4,2] by kernel_rfl),epadT]; exact (congrArg (padT C L x0 x2 h) (funext fun x4=>funext fun x2=>funext fun h => (seqK_n _ _ _).trans (by rw [execK_seq (a := cagQ) (b := caaG) (by kernel_rfl) (show live [2,3] caaG [2,3] [] = [4,5,2] by kernel_rfl),epagQ]; exact (congrArg (pagQ C L x4 x2 h) (funext fun x4=>funext fun x5=>funext fun x2=>funext fun h => (seqK_n _ _ _).trans (by rw [execK_seq (a := cadO) (b := cabC) (by kernel_rfl) (show live [2,3] cabC [2,3] [] = [4,5,2] by kernel_rfl),epadO]; exact (congrArg (padO C L x4 x5 x2 h) (funext fun x4=>funext fun x5=>funext fun x2=>funext fun h => (seqK_n _ _ _).trans (by rw [execK_seq (a := cacW) (b := cadS) (by kernel_rfl) (show live [2,3] cadS [2,3] [] = [4,5,2] by kernel_rfl),epacW]; exact (congrArg (pacW C L x4 x5 x2 h) (funext fun x4=>funext fun x5=>funext fun x2=>funext fun h => (seqK_n _ _ _).trans (by rw [execK_seq (a := camR) (b := caeS) (by kernel_rfl) (show live [2,3] caeS [2,3] [] = [4,5,2] by kernel_rfl),epamR]; exact (congrArg (pamR C L x4 x5 x2 h) (funext fun x4=>funext fun x5=>funext fun x2=>funext fun h => (seqK_n _ _ _).trans (by rw [execK_seq (a := cawY) (b := cafO) (by kernel_rfl) (show live [2,3] cafO [2,3] [] = [4,5,2] by kernel_rfl),epawY]; exact (congrArg (pawY C L x4 x5 x2 h) (funext fun x4=>funext fun x5=>funext fun x2=>funext fun h => (seqK_n _ _ _).trans (by rw [execK_seq (a := cawZ) (b := cagF) (by kernel_rfl) (show live [2,3] cagF [2,3] [] = [4,5,2] by kernel_rfl),epawZ]; exact (congrArg (pawZ C L x4 x5 x2 h) (funext fun x4=>funext fun x5=>funext fun x2=>funext fun h => (seqK_n _ _ _).trans (by rw [execK_seq (a := caxA) (b := cagZ) (by kernel_rfl) (show live [2,3] cagZ [2,3] [] = [4,5,6,2] by kernel_rfl),epaxA]; exact (congrArg (paxA C L x4 x5 x2 h) (funext fun x4=>funext fun x5=>funext fun x6=>funext fun x2=>funext fun h => (seqK_n _ _ _).trans (by rw [execK_seq (a := cahX) (b := caxC) (by kernel_rfl) (show live [2,3] caxC [2,3] [] = [5,6,2] by kernel_rfl),epahX]; exact (congrArg (pahX C L x4 x5 x6 x2 h) (funext fun x5=>funext fun x6=>funext fun x2=>funext fun h => (seqK_n _ _ _).trans (epaxC C L h K x5 x6 x2))))))))))))))))))))))))))))))
noncomputable def F6 (C : CF) (L : Nat) (x0 : Value) (h : H) : Option (Value × H) :=
 p6a C L x0 h
  (fun x2 x3 h => bnd (resC (A.load true 5 x2 h) (resC (some x3) (some []))) fun vs => some (packA vs,h))
theorem F6eq (Q : Orc) (n : Nat) (x0 : Value) (h : H) (hQ : Q 6 [x0] = none) : callO prog 0 Q (n + 1) 6 [x0] h = F6 (callO prog 0 Q n) n x0 h := by
 rw [callO_eq hQ (c := c6a) (nt := 58) (RR := [2,3]) (fr := (fs [(0,x0)])) Tryz.func6 (by kernel_rfl) (by kernel_rfl) (by kernel_rfl) (by kernel_rfl) (by kernel_rfl),ep6a]
 kernel_rfl
noncomputable def c12a : Code := (Tryz.f12.body).getD .skip
noncomputable def caqW : Code := cL c12a
noncomputable def paqW (C : CF) (L : Nat) {β : Type} (x0 : Value) (h : H) (kn : Kv1 β) : Option β :=
 kn x0 h
theorem epaqW (x0 : Value) :
  execK prog C L 0 32 [2] caqW [0] [] (fs [(0,x0)]) h K =
   paqW C L x0 h (fun x0 h => K .normal (fs [(0,x0)]) h) := by
 kernel_rfl
noncomputable def cakG : Code := cR c12a
noncomputable def caqX : Code := cL cakG
noncomputable def paqX (C : CF) (L : Nat) {β : Type} (x0 : Value) (h : H) (kr : Kv1 β) (kn : Kv1 β) : Option β :=
 bnd (A.nilCheck x0) fun t4 =>
 bnd (A.fieldAddr 1 t4) fun t5 =>
 bnd (A.load false 1 t5 h) fun t6 =>
 bnd (A.nilCheck x0) fun t8 =>
 bnd (A.fieldAddr 0 t8) fun t9 =>
 bnd (A.load false 1 t9 h) fun t10 =>
 bnd (A.lenS t10) fun t11 =>
 bnd (A.bin prog .geq 3 t6 t11) fun t12 =>
 toBK t12 fun b =>
 (bif b then
 kr (.int .i64 0) h
 else
 kn x0 h)
theorem epaqX (x0 : Value) :
  execK prog C L 0 32 [2] caqX [0] [] (fs [(0,x0)]) h K =
   paqX C L x0 h (fun x2 h => K .ret (fs [(2,x2)]) h) (fun x0 h => K .normal (fs [(0,x0)]) h) := by
 kernel_rfl
noncomputable def camG : Code := cR cakG
noncomputable def catQ : Code := cL camG
noncomputable def patQ (C : CF) (L : Nat) {β : Type} (x0 : Value) (h : H) (kn : Kv1 β) : Option β :=
 bnd (A.nilCheck x0) fun t14 =>
 bnd (A.fieldAddr 1 t14) fun t15 =>
 bnd (A.load false 1 t15 h) fun t16 =>
 bnd (A.bin prog .add 3 t16 (.int .i64 1)) fun t17 =>
 bnd (A.nilCheck x0) fun t18 =>
 bnd (A.fieldAddr 1 t18) fun t19 =>
 bnd (A.store 1 t19 t17 h) fun hq1 =>
 kn x0 hq1
theorem epatQ (x0 : Value) :
  execK prog C L 0 32 [2] catQ [0] [] (fs [(0,x0)]) h K =
   patQ C L x0 h (fun x0 h => K .normal (fs [(0,x0)]) h) := by
 kernel_rfl
noncomputable def catR : Code := cR camG
noncomputable def patR (C : CF) (L : Nat) {β : Type} (x0 : Value) (h : H) (kr : Kv1 β) : Option β :=
 bnd (A.nilCheck x0) fun t21 =>
 bnd (A.fieldAddr 0 t21) fun t22 =>
 bnd (A.load false 1 t22 h) fun t23 =>
 bnd (A.nilCheck x0) fun t25 =>
 bnd (A.fieldAddr 1 t25) fun t26 =>
 bnd (A.load false 1 t26 h) fun t27 =>
 bnd (A.bin prog .sub 3 t27 (.int .i64 1)) fun t28 =>
 bnd (A.idxS 1 t23 t28) fun t29 =>
 bnd (A.load false 1 t29 h) fun t30 =>
 bnd (A.conv prog 5 3 t30) fun t31 =>
 kr t31 h
theorem epatR (x0 : Value) :
  execK prog C L 0 32 [2] catR [2] [] (fs [(0,x0)]) h K =
   patR C L x0 h (fun x2 h => K .ret (fs [(2,x2)]) h) := by
 kernel_rfl
noncomputable def p12a (C : CF) (L : Nat) {β : Type} (x0 : Value) (h : H) (kr : Kv1 β) : Option β :=
 paqW C L x0 h (fun x0 h => paqX C L x0 h kr (fun x0 h => patQ C L x0 h (fun x0 h => patR C L x0 h kr)))
theorem ep12a (x0 : Value) :
  execK prog C L 0 32 [2] c12a [2] [] (fs [(0,x0)]) h K =
   p12a C L x0 h (fun x2 h => K .ret (fs [(2,x2)]) h) := by
 rw [execK_seq (a := caqW) (b := cakG) (by kernel_rfl) (show live [2] cakG [2] [] = [0] by kernel_rfl),epaqW]
 unfold p12a
 exact (congrArg (paqW C L x0 h) (funext fun x0=>funext fun h => (seqK_n _ _ _).trans (by rw [execK_seq (a := caqX) (b := camG) (by kernel_rfl) (show live [2] camG [2] [] = [0] by kernel_rfl),epaqX]; exact (congr (congrArg (paqX C L x0 h) (funext fun x2=>funext fun h => seqK_r _ _ _)) (funext fun x0=>funext fun h => (seqK_n _ _ _).trans (by rw [execK_seq (a := catQ) (b := catR) (by kernel_rfl) (show live [2] catR [2] [] = [0] by kernel_rfl),epatQ]; exact (congrArg (patQ C L x0 h) (funext fun x0=>funext fun h => (seqK_n _ _ _).trans (epatR C L h K x0)))))))))
noncomputable def F12 (C : CF) (L : Nat) (x0 : Value) (h : H) : Option (Value × H) :=
 p12a C L x0 h
  (fun x2 h => some (x2,h))
theorem F12eq (Q : Orc) (n : Nat) (x0 : Value) (h : H) (hQ : Q 12 [x0] = none) : callO prog 0 Q (n + 1) 12 [x0] h = F12 (callO prog 0 Q n) n x0 h := by
 rw [callO_eq hQ (c := c12a) (nt := 32) (RR := [2]) (fr := (fs [(0,x0)])) Tryz.func12 (by kernel_rfl) (by kernel_rfl) (by kernel_rfl) (by kernel_rfl) (by kernel_rfl),ep12a]
 kernel_rfl
noncomputable def c13a : Code := (Tryz.f13.body).getD .skip
noncomputable def camK : Code := cL c13a
noncomputable def pamK (C : CF) (L : Nat) {β : Type} (x0 : Value) (h : H) (kn : Kv2 β) : Option β :=
 bnd2 (A.box 7 Z36 h) fun t2 hq1 =>
 kn x0 t2 hq1
theorem epamK (x0 : Value) :
  execK prog C L 0 88 [2] camK [0,2] [] (fs [(0,x0)]) h K =
   pamK C L x0 h (fun x0 x2 h => K .normal (fs [(0,x0),(2,x2)]) h) := by
 kernel_rfl
noncomputable def cabR : Code := cR c13a
noncomputable def camL : Code := cL cabR
noncomputable def pamL (C : CF) (L : Nat) {β : Type} (x0 x2 : Value) (h : H) (kn : Kv3 β) : Option β :=
 bnd2 (C 12 [x0] h) fun t8 hq1 =>
 bnd (A.bin prog .rem 3 t8 (.int .i64 16)) fun t9 =>
 kn t9 x0 x2 hq1
theorem epamL (x0 x2 : Value) :
  execK prog C L 0 88 [2] camL [3,0,2] [] (fs [(0,x0),(2,x2)]) h K =
   pamL C L x0 x2 h (fun x3 x0 x2 h => K .normal (fs [(3,x3),(0,x0),(2,x2)]) h) := by
 kernel_rfl
noncomputable def cabZ : Code := cR cabR
noncomputable def camM : Code := cL cabZ
noncomputable def pamM (C : CF) (L : Nat) {β : Type} (x3 x0 x2 : Value) (h : H) (kn : Kv4 β) : Option β :=
 bnd (A.build Z36L []) fun t10 =>
 bnd2 (A.box 7 Z36 h) fun t4 hq1 =>
 bnd (A.store 7 t4 t10 hq1) fun hq2 =>
 kn x3 x0 t4 x2 hq2
theorem epamM (x3 x0 x2 : Value) :
  execK prog C L 0 88 [2] camM [3,0,4,2] [] (fs [(3,x3),(0,x0),(2,x2)]) h K =
   pamM C L x3 x0 x2 h (fun x3 x0 x4 x2 h => K .normal (fs [(3,x3),(0,x0),(4,x4),(2,x2)]) h) := by
 kernel_rfl
noncomputable def cacJ : Code := cR cabZ
noncomputable def cacY : Code := cL cacJ
noncomputable def cadJ : Code := cL cacY
noncomputable def camY : Code := cL cadJ
noncomputable def pamY (C : CF) (L : Nat) {β : Type} (x3 x0 x4 x2 : Value) (h : H) (kn : Kv5 β) : Option β :=
 bnd (A.bin prog .eql 3 x3 (.int .i64 0)) fun t14 =>
 toBK t14 fun b =>
 kn (.bool b) x3 x0 x4 x2 h
theorem epamY (x3 x0 x4 x2 : Value) :
  execK prog C L 0 88 [2] camY [12,3,0,4,2] [(0,[4,2])] (fs [(3,x3),(0,x0),(4,x4),(2,x2)]) h K =
   pamY C L x3 x0 x4 x2 h (fun x12 x3 x0 x4 x2 h => K .normal (fs [(12,x12),(3,x3),(0,x0),(4,x4),(2,x2)]) h) := by
 kernel_rfl
noncomputable def caeE : Code := cR cadJ
noncomputable def caxS : Code := cL caeE
noncomputable def paxS (C : CF) (L : Nat) {β : Type} (x12 x3 x0 x4 x2 : Value) (h : H) (kn : Kv2 β) : Option β :=
 bnd (A.fieldAddr 0 x4) fun t15 =>
 bnd (A.store 1 t15 (.int .u8 1) h) fun hq1 =>
 kn x4 x2 hq1
theorem epaxS (x12 x3 x0 x4 x2 : Value) :
  execK prog C L 0 88 [2] caxS [4,2] [(0,[4,2])] (fs [(12,x12),(3,x3),(0,x0),(4,x4),(2,x2)]) h K =
   paxS C L x12 x3 x0 x4 x2 h (fun x4 x2 h => K .normal (fs [(4,x4),(2,x2)]) h) := by
 kernel_rfl
noncomputable def cafD : Code := cR caeE
noncomputable def canE : Code := cL cafD
noncomputable def panE (C : CF) (L : Nat) {β : Type} (x12 x3 x0 x4 x2 : Value) (h : H) (kn : Kv5 β) : Option β :=
 bnd (A.bin prog .lss 3 x3 (.int .i64 10)) fun t18 =>
 toBK t18 fun b =>
 kn (.bool b) x3 x0 x4 x2 h
theorem epanE (x12 x3 x0 x4 x2 : Value) :
  execK prog C L 0 88 [2] canE [16,3,0,4,2] [(0,[4,2])] (fs [(12,x12),(3,x3),(0,x0),(4,x4),(2,x2)]) h K =
   panE C L x12 x3 x0 x4 x2 h (fun x16 x3 x0 x4 x2 h => K .normal (fs [(16,x16),(3,x3),(0,x0),(4,x4),(2,x2)]) h) := by
 kernel_rfl
noncomputable def cagN : Code := cR cafD
noncomputable def catT : Code := cL cagN
noncomputable def patT (C : CF) (L : Nat) {β : Type} (x16 x3 x0 x4 x2 : Value) (h : H) (kn : Kv2 β) : Option β :=
 bnd (A.fieldAddr 0 x4) fun t19 =>
 bnd (A.store 1 t19 (.int .u8 2) h) fun hq1 =>
 bnd2 (C 12 [x0] hq1) fun t21 hq2 =>
 bnd (A.bin prog .rem 3 t21 (.int .i64 6)) fun t22 =>
 bnd (A.fieldAddr 1 x4) fun t23 =>
 bnd (A.store 1 t23 t22 hq2) fun hq3 =>
 bnd2 (C 12 [x0] hq3) fun t25 hq4 =>
 bnd (A.bin prog .eql 3 x3 (.int .i64 9)) fun t27 =>
 toBK t27 fun b =>
 (bif b then
 bnd (A.bin prog .rem 3 t25 (.int .i64 16)) fun t30 =>
 bnd2 (C 19 [x0,t30] hq4) fun t31 hq5 =>
 bnd (A.fieldAddr 6 x4) fun t32 =>
 bnd (A.store 1 t32 t31 hq5) fun hq6 =>
 kn x4 x2 hq6
 else
 bnd2 (C 21 [x0,x3,t25] hq4) fun t37 hq7 =>
 bnd2 (C 20 [t37] hq7) fun t38 hq8 =>
 bnd (A.extract 0 t38) fun t39 =>
 bnd (A.extract 1 t38) fun t40 =>
 bnd (A.fieldAddr 6 x4) fun t41 =>
 bnd (A.store 1 t41 t39 hq8) fun hq9 =>
 kn x4 x2 hq9)
theorem epatT (x16 x3 x0 x4 x2 : Value) :
  execK prog C L 0 88 [2] catT [4,2] [(0,[4,2])] (fs [(16,x16),(3,x3),(0,x0),(4,x4),(2,x2)]) h K =
   patT C L x16 x3 x0 x4 x2 h (fun x4 x2 h => K .normal (fs [(4,x4),(2,x2)]) h) := by
 kernel_rfl
noncomputable def caiG : Code := cR cagN
noncomputable def canQ : Code := cL caiG
noncomputable def panQ (C : CF) (L : Nat) {β : Type} (x16 x3 x0 x4 x2 : Value) (h : H) (kn : Kv5 β) : Option β :=
 bnd (A.bin prog .eql 3 x3 (.int .i64 10)) fun t44 =>
 toBK t44 fun b =>
 kn (.bool b) x3 x0 x4 x2 h
theorem epanQ (x16 x3 x0 x4 x2 : Value) :
  execK prog C L 0 88 [2] canQ [42,3,0,4,2] [(0,[4,2])] (fs [(16,x16),(3,x3),(0,x0),(4,x4),(2,x2)]) h K =
   panQ C L x16 x3 x0 x4 x2 h (fun x42 x3 x0 x4 x2 h => K .normal (fs [(42,x42),(3,x3),(0,x0),(4,x4),(2,x2)]) h) := by
 kernel_rfl
noncomputable def cakM : Code := cR caiG
noncomputable def catS : Code := cL cakM
noncomputable def patS (C : CF) (L : Nat) {β : Type} (x42 x3 x0 x4 x2 : Value) (h : H) (kn : Kv2 β) : Option β :=
 bnd2 (C 12 [x0] h) fun t46 hq1 =>
 bnd (A.fieldAddr 0 x4) fun t47 =>
 bnd (A.store 1 t47 (.int .u8 3) hq1) fun hq2 =>
 bnd (A.bin prog .rem 3 t46 (.int .i64 2)) fun t49 =>
 bnd (A.bin prog .eql 3 t49 (.int .i64 1)) fun t50 =>
 toBK t50 fun b =>
 (bif b then
 bnd (A.fieldAddr 0 x4) fun t51 =>
 bnd (A.store 1 t51 (.int .u8 4) hq2) fun hq3 =>
 bnd (A.bin prog .quo 3 t46 (.int .i64 2)) fun t53 =>
 bnd (A.bin prog .rem 3 t53 (.int .i64 4)) fun t54 =>
 bnd (A.fieldAddr 2 x4) fun t55 =>
 bnd (A.store 1 t55 t54 hq3) fun hq4 =>
 kn x4 x2 hq4
 else
 bnd2 (C 12 [x0] hq2) fun t57 hq5 =>
 bnd (A.bin prog .rem 3 t57 (.int .i64 6)) fun t58 =>
 bnd (A.fieldAddr 1 x4) fun t59 =>
 bnd (A.store 1 t59 t58 hq5) fun hq6 =>
 kn x4 x2 hq6)
theorem epatS (x42 x3 x0 x4 x2 : Value) :
  execK prog C L 0 88 [2] catS [4,2] [(0,[4,2])] (fs [(42,x42),(3,x3),(0,x0),(4,x4),(2,x2)]) h K =
   patS C L x42 x3 x0 x4 x2 h (fun x4 x2 h => K .normal (fs [(4,x4),(2,x2)]) h) := by
 kernel_rfl
noncomputable def caqY : Code := cR cakM
noncomputable def paqY (C : CF) (L : Nat) {β : Type} (x42 x3 x0 x4 x2 : Value) (h : H) (kn : Kv2 β) : Option β :=
 bnd (A.bin prog .eql 3 x3 (.int .i64 11)) fun t62 =>
 toBK t62 fun b =>
 (bif b then
 bnd (A.fieldAddr 0 x4) fun t63 =>
 bnd (A.store 1 t63 (.int .u8 5) h) fun hq1 =>
 bnd2 (C 12 [x0] hq1) fun t65 hq2 =>
 bnd (A.bin prog .rem 3 t65 (.int .i64 6)) fun t66 =>
 bnd (A.fieldAddr 1 x4) fun t67 =>
 bnd (A.store 1 t67 t66 hq2) fun hq3 =>
 kn x4 x2 hq3
 else
 bnd (A.bin prog .lss 3 x3 (.int .i64 14)) fun t70 =>
 toBK t70 fun bq1 =>
 (bif bq1 then
 bnd (A.fieldAddr 0 x4) fun t71 =>
 bnd (A.store 1 t71 (.int .u8 6) h) fun hq4 =>
 bnd2 (C 12 [x0] hq4) fun t73 hq5 =>
 bnd (A.bin prog .rem 3 t73 (.int .i64 5)) fun t74 =>
 bnd (A.fieldAddr 3 x4) fun t75 =>
 bnd (A.fieldAddr 0 t75) fun t76 =>
 bnd (A.store 1 t76 t74 hq5) fun hq6 =>
 bnd2 (C 12 [x0] hq6) fun t78 hq7 =>
 bnd (A.bin prog .rem 3 t78 (.int .i64 8)) fun t79 =>
 bnd (A.fieldAddr 3 x4) fun t80 =>
 bnd (A.fieldAddr 1 t80) fun t81 =>
 bnd (A.store 1 t81 t79 hq7) fun hq8 =>
 bnd2 (C 12 [x0] hq8) fun t83 hq9 =>
 bnd (A.bin prog .rem 3 t83 (.int .i64 7)) fun t84 =>
 bnd (A.fieldAddr 3 x4) fun t85 =>
 bnd (A.fieldAddr 2 t85) fun t86 =>
 bnd (A.store 1 t86 t84 hq9) fun hq10 =>
 kn x4 x2 hq10
 else
 bnd (A.fieldAddr 0 x4) fun t11 =>
 bnd (A.store 1 t11 (.int .u8 7) h) fun hq11 =>
 kn x4 x2 hq11))
theorem epaqY (x42 x3 x0 x4 x2 : Value) :
  execK prog C L 0 88 [2] caqY [4,2] [(0,[4,2])] (fs [(42,x42),(3,x3),(0,x0),(4,x4),(2,x2)]) h K =
   paqY C L x42 x3 x0 x4 x2 h (fun x4 x2 h => K .normal (fs [(4,x4),(2,x2)]) h) := by
 kernel_rfl
noncomputable def pakM (C : CF) (L : Nat) {β : Type} (x42 x3 x0 x4 x2 : Value) (h : H) (kn : Kv2 β) : Option β :=
 condV x42 (patS C L x42 x3 x0 x4 x2 h kn) (paqY C L x42 x3 x0 x4 x2 h kn)
theorem epakM (x42 x3 x0 x4 x2 : Value) :
  execK prog C L 0 88 [2] cakM [4,2] [(0,[4,2])] (fs [(42,x42),(3,x3),(0,x0),(4,x4),(2,x2)]) h K =
   pakM C L x42 x3 x0 x4 x2 h (fun x4 x2 h => K .normal (fs [(4,x4),(2,x2)]) h) := by
 rw [execK_cond (a := catS) (b := caqY) (x := (.tmp 42)) (v := x42) (by kernel_rfl) (by kernel_rfl),epatS,epaqY]
 unfold pakM
 rfl
noncomputable def paiG (C : CF) (L : Nat) {β : Type} (x16 x3 x0 x4 x2 : Value) (h : H) (kn : Kv2 β) : Option β :=
 panQ C L x16 x3 x0 x4 x2 h (fun x42 x3 x0 x4 x2 h => pakM C L x42 x3 x0 x4 x2 h kn)
theorem epaiG (x16 x3 x0 x4 x2 : Value) :
  execK prog C L 0 88 [2] caiG [4,2] [(0,[4,2])] (fs [(16,x16),(3,x3),(0,x0),(4,x4),(2,x2)]) h K =
   paiG C L x16 x3 x0 x4 x2 h (fun x4 x2 h => K .normal (fs [(4,x4),(2,x2)]) h) := by
 rw [execK_seq (a := canQ) (b := cakM) (by kernel_rfl) (show live [2] cakM [4,2] [(0,[4,2])] = [42,3,0,4,2] by kernel_rfl),epanQ]
 unfold paiG
 exact (congrArg (panQ C L x16 x3 x0 x4 x2 h) (funext fun x42=>funext fun x3=>funext fun x0=>funext fun x4=>funext fun x2=>funext fun h => (seqK_n _ _ _).trans (epakM C L h K x42 x3 x0 x4 x2)))
noncomputable def pagN (C : CF) (L : Nat) {β : Type} (x16 x3 x0 x4 x2 : Value) (h : H) (kn : Kv2 β) : Option β :=
 condV x16 (patT C L x16 x3 x0 x4 x2 h kn) (paiG C L x16 x3 x0 x4 x2 h kn)
theorem epagN (x16 x3 x0 x4 x2 : Value) :
  execK prog C L 0 88 [2] cagN [4,2] [(0,[4,2])] (fs [(16,x16),(3,x3),(0,x0),(4,x4),(2,x2)]) h K =
   pagN C L x16 x3 x0 x4 x2 h (fun x4 x2 h => K .normal (fs [(4,x4),(2,x2)]) h) := by
 rw [execK_cond (a := catT) (b := caiG) (x := (.tmp 16)) (v := x16) (by kernel_rfl) (by kernel_rfl),epatT,epaiG]
 unfold pagN
 rfl
noncomputable def pafD (C : CF) (L : Nat) {β : Type} (x12 x3 x0 x4 x2 : Value) (h : H) (kn : Kv2 β) : Option β :=
 panE C L x12 x3 x0 x4 x2 h (fun x16 x3 x0 x4 x2 h => pagN C L x16 x3 x0 x4 x2 h kn)
theorem epafD (x12 x3 x0 x4 x2 : Value) :
  execK prog C L 0 88 [2] cafD [4,2] [(0,[4,2])] (fs [(12,x12),(3,x3),(0,x0),(4,x4),(2,x2)]) h K =
   pafD C L x12 x3 x0 x4 x2 h (fun x4 x2 h => K .normal (fs [(4,x4),(2,x2)]) h) := by
 rw [execK_seq (a := canE) (b := cagN) (by kernel_rfl) (show live [2] cagN [4,2] [(0,[4,2])] = [16,3,0,4,2] by kernel_rfl),epanE]
 unfold pafD
 exact (congrArg (panE C L x12 x3 x0 x4 x2 h) (funext fun x16=>funext fun x3=>funext fun x0=>funext fun x4=>funext fun x2=>funext fun h => (seqK_n _ _ _).trans (epagN C L h K x16 x3 x0 x4 x2)))
noncomputable def paeE (C : CF) (L : Nat) {β : Type} (x12 x3 x0 x4 x2 : Value) (h : H) (kn : Kv2 β) : Option β :=
 condV x12 (paxS C L x12 x3 x0 x4 x2 h kn) (pafD C L x12 x3 x0 x4 x2 h kn)
theorem epaeE (x12 x3 x0 x4 x2 : Value) :
  execK prog C L 0 88 [2] caeE [4,2] [(0,[4,2])] (fs [(12,x12),(3,x3),(0,x0),(4,x4),(2,x2)]) h K =
   paeE C L x12 x3 x0 x4 x2 h (fun x4 x2 h => K .normal (fs [(4,x4),(2,x2)]) h) := by
 rw [execK_cond (a := caxS) (b := cafD) (x := (.tmp 12)) (v := x12) (by kernel_rfl) (by kernel_rfl),epaxS,epafD]
 unfold paeE
 rfl
noncomputable def padJ (C : CF) (L : Nat) {β : Type} (x3 x0 x4 x2 : Value) (h : H) (kn : Kv2 β) : Option β :=
 pamY C L x3 x0 x4 x2 h (fun x12 x3 x0 x4 x2 h => paeE C L x12 x3 x0 x4 x2 h kn)
theorem epadJ (x3 x0 x4 x2 : Value) :
  execK prog C L 0 88 [2] cadJ [4,2] [(0,[4,2])] (fs [(3,x3),(0,x0),(4,x4),(2,x2)]) h K =
   padJ C L x3 x0 x4 x2 h (fun x4 x2 h => K .normal (fs [(4,x4),(2,x2)]) h) := by
 rw [execK_seq (a := camY) (b := caeE) (by kernel_rfl) (show live [2] caeE [4,2] [(0,[4,2])] = [12,3,0,4,2] by kernel_rfl),epamY]
 unfold padJ
 exact (congrArg (pamY C L x3 x0 x4 x2 h) (funext fun x12=>funext fun x3=>funext fun x0=>funext fun x4=>funext fun x2=>funext fun h => (seqK_n _ _ _).trans (epaeE C L h K x12 x3 x0 x4 x2)))
noncomputable def pacY (C : CF) (L : Nat) {β : Type} (x3 x0 x4 x2 : Value) (h : H) (kn : Kv2 β) : Option β :=
 padJ C L x3 x0 x4 x2 h kn
theorem epacY (x3 x0 x4 x2 : Value) :
  execK prog C L 0 88 [2] cacY [4,2] [] (fs [(3,x3),(0,x0),(4,x4),(2,x2)]) h K =
   pacY C L x3 x0 x4 x2 h (fun x4 x2 h => K .normal (fs [(4,x4),(2,x2)]) h) := by
 rw [execK_block (b := cadJ) (id := 0) (by kernel_rfl),epadJ]
 unfold pacY
 rfl
noncomputable def cakN : Code := cR cacJ
noncomputable def pakN (C : CF) (L : Nat) {β : Type} (x4 x2 : Value) (h : H) (kr : Kv1 β) : Option β :=
 bnd (A.load true 7 x4 h) fun t87 =>
 bnd (A.store 7 x2 t87 h) fun hq1 =>
 kr x2 hq1
theorem epakN (x4 x2 : Value) :
  execK prog C L 0 88 [2] cakN [2] [] (fs [(4,x4),(2,x2)]) h K =
   pakN C L x4 x2 h (fun x2 h => K .ret (fs [(2,x2)]) h) := by
 kernel_rfl
noncomputable def p13a (C : CF) (L : Nat) {β : Type} (x0 : Value) (h : H) (kr : Kv1 β) : Option β :=
 pamK C L x0 h (fun x0 x2 h => pamL C L x0 x2 h (fun x3 x0 x2 h => pamM C L x3 x0 x2 h (fun x3 x0 x4 x2 h => pacY C L x3 x0 x4 x2 h (fun x4 x2 h => pakN C L x4 x2 h kr))))
theorem ep13a (x0 : Value) :
  execK prog C L 0 88 [2] c13a [2] [] (fs [(0,x0)]) h K =
   p13a C L x0 h (fun x2 h => K .ret (fs [(2,x2)]) h) := by
 rw [execK_seq (a := camK) (b := cabR) (by kernel_rfl) (show live [2] cabR [2] [] = [0,2] by kernel_rfl),epamK]
 unfold p13a
 exact (congrArg (pamK C L x0 h) (funext fun x0=>funext fun x2=>funext fun h => (seqK_n _ _ _).trans (by rw [execK_seq (a := camL) (b := cabZ) (by kernel_rfl) (show live [2] cabZ [2] [] = [3,0,2] by kernel_rfl),epamL]; exact (congrArg (pamL C L x0 x2 h) (funext fun x3=>funext fun x0=>funext fun x2=>funext fun h => (seqK_n _ _ _).trans (by rw [execK_seq (a := camM) (b := cacJ) (by kernel_rfl) (show live [2] cacJ [2] [] = [3,0,4,2] by kernel_rfl),epamM]; exact (congrArg (pamM C L x3 x0 x2 h) (funext fun x3=>funext fun x0=>funext fun x4=>funext fun x2=>funext fun h => (seqK_n _ _ _).trans (by rw [execK_seq (a := cacY) (b := cakN) (by kernel_rfl) (show live [2] cakN [2] [] = [4,2] by kernel_rfl),epacY]; exact (congrArg (pacY C L x3 x0 x4 x2 h) (funext fun x4=>funext fun x2=>funext fun h => (seqK_n _ _ _).trans (epakN C L h K x4 x2))))))))))))
noncomputable def F13 (C : CF) (L : Nat) (x0 : Value) (h : H) : Option (Value × H) :=
 p13a C L x0 h
  (fun x2 h => bnd (resC (A.load true 7 x2 h) (some [])) fun vs => some (packA vs,h))
theorem F13eq (Q : Orc) (n : Nat) (x0 : Value) (h : H) (hQ : Q 13 [x0] = none) : callO prog 0 Q (n + 1) 13 [x0] h = F13 (callO prog 0 Q n) n x0 h := by
 rw [callO_eq hQ (c := c13a) (nt := 88) (RR := [2]) (fr := (fs [(0,x0)])) Tryz.func13 (by kernel_rfl) (by kernel_rfl) (by kernel_rfl) (by kernel_rfl) (by kernel_rfl),ep13a]
 kernel_rfl
noncomputable def c19a : Code := (Tryz.f19.body).getD .skip
noncomputable def cauL : Code := cL c19a
noncomputable def pauL (C : CF) (L : Nat) {β : Type} (x0 x1 : Value) (h : H) (kn : Kv2 β) : Option β :=
 kn x1 x0 h
theorem epauL (x0 x1 : Value) :
  execK prog C L 0 20 [4] cauL [1,0] [] (fs [(0,x0),(1,x1)]) h K =
   pauL C L x0 x1 h (fun x1 x0 h => K .normal (fs [(1,x1),(0,x0)]) h) := by
 kernel_rfl
noncomputable def cagM : Code := cR c19a
noncomputable def cauM : Code := cL cagM
noncomputable def pauM (C : CF) (L : Nat) {β : Type} (x1 x0 : Value) (h : H) (kn : Kv3 β) : Option β :=
 kn x1 x0 (.string ⟨⟨[]⟩⟩) h
theorem epauM (x1 x0 : Value) :
  execK prog C L 0 20 [4] cauM [1,0,5] [] (fs [(1,x1),(0,x0)]) h K =
   pauM C L x1 x0 h (fun x1 x0 x5 h => K .normal (fs [(1,x1),(0,x0),(5,x5)]) h) := by
 kernel_rfl
noncomputable def cahJ : Code := cR cagM
noncomputable def caiI : Code := cL cahJ
noncomputable def cauN : Code := cL caiI
noncomputable def pauN (C : CF) (L : Nat) {β : Type} (x1 x0 x5 : Value) (h : H) (kn : Kv4 β) : Option β :=
 kn x1 (.int .i64 0) x0 x5 h
theorem epauN (x1 x0 x5 : Value) :
  execK prog C L 0 20 [4] cauN [1,6,0,5] [] (fs [(1,x1),(0,x0),(5,x5)]) h K =
   pauN C L x1 x0 x5 h (fun x1 x6 x0 x5 h => K .normal (fs [(1,x1),(6,x6),(0,x0),(5,x5)]) h) := by
 kernel_rfl
noncomputable def cajZ : Code := cR caiI
noncomputable def calM : Code := cL cajZ
noncomputable def capE : Code := cL calM
noncomputable def papE (C : CF) (L : Nat) {β : Type} (x1 x6 x0 x5 : Value) (h : H) (kn : Kv4 β) (kx0 : Kv1 β) : Option β :=
 bnd (A.bin prog .lss 3 x6 x1) fun t9 =>
 toBK t9 fun b =>
 (bif b then
 bnd2 (C 12 [x0] h) fun t14 hq1 =>
 bnd (A.conv prog 3 5 t14) fun t15 =>
 bnd2 (A.buildSlice 1 1 Z5L [(0,1,t15)] hq1) fun t16 hq2 =>
 bnd (A.b2s t16 hq2) fun t17 =>
 bnd (A.bin prog .add 9 x5 t17) fun t18 =>
 bnd (A.bin prog .add 3 x6 (.int .i64 1)) fun t11 =>
 kn x1 t11 x0 t18 hq2
 else
 kx0 x5 h)
theorem epapE (x1 x6 x0 x5 : Value) :
  execK prog C L 0 20 [4] capE [1,6,0,5] [(0,[5])] (fs [(1,x1),(6,x6),(0,x0),(5,x5)]) h K =
   papE C L x1 x6 x0 x5 h (fun x1 x6 x0 x5 h => K .normal (fs [(1,x1),(6,x6),(0,x0),(5,x5)]) h) (fun x5 h => K (.exit 0) (fs [(5,x5)]) h) := by
 kernel_rfl
noncomputable def pauO (C : CF) (L : Nat) {β : Type} (kx0 : Kv1 β) : Nat → Kv4 β
 | 0,_,_,_,_,_ => none
 | n + 1,x1,x6,x0,x5,h => papE C L x1 x6 x0 x5 h (fun x1 x6 x0 x5 h => pauO C L kx0 n x1 x6 x0 x5 h) kx0
theorem epauO (C : CF) (L : Nat) {β : Type} (K : Ex → T Value → Kv0 β) : ∀ (n : Nat) (x1 x6 x0 x5 : Value) (h : H),
  loopK (fun fr h K => execK prog C L 0 20 [4] capE [1,6,0,5] [(0,[5])] fr h K) n (fs [(1,x1),(6,x6),(0,x0),(5,x5)]) h K =
   pauO C L (fun x5 h => K (.exit 0) (fs [(5,x5)]) h) n x1 x6 x0 x5 h := by
 intro n
 induction n with
 | zero => intros; rfl
 | succ n ih =>
  intros
  simp only [loopK]
  rw [epapE]
  simp only [seqK_n,seqK_x,seqK_r,ih]
  rfl
noncomputable def palM (C : CF) (L : Nat) {β : Type} (x1 x6 x0 x5 : Value) (h : H) (kx0 : Kv1 β) : Option β :=
 pauO C L kx0 L x1 x6 x0 x5 h
theorem epalM (x1 x6 x0 x5 : Value) :
  execK prog C L 0 20 [4] calM [5] [(0,[5])] (fs [(1,x1),(6,x6),(0,x0),(5,x5)]) h K =
   palM C L x1 x6 x0 x5 h (fun x5 h => K (.exit 0) (fs [(5,x5)]) h) := by
 rw [execK_loop (b := capE) (fr1 := (fs [(1,x1),(6,x6),(0,x0),(5,x5)])) (by kernel_rfl) (show live [4] capE [] [(0,[5])] = [1,6,0,5] by kernel_rfl) (by kernel_rfl),epauO]
 unfold palM
 rfl
noncomputable def pajZ (C : CF) (L : Nat) {β : Type} (x1 x6 x0 x5 : Value) (h : H) (kn : Kv1 β) : Option β :=
 palM C L x1 x6 x0 x5 h kn
theorem epajZ (x1 x6 x0 x5 : Value) :
  execK prog C L 0 20 [4] cajZ [5] [] (fs [(1,x1),(6,x6),(0,x0),(5,x5)]) h K =
   pajZ C L x1 x6 x0 x5 h (fun x5 h => K .normal (fs [(5,x5)]) h) := by
 rw [execK_block (b := calM) (id := 0) (by kernel_rfl),epalM]
 unfold pajZ
 rfl
noncomputable def paiI (C : CF) (L : Nat) {β : Type} (x1 x0 x5 : Value) (h : H) (kn : Kv1 β) : Option β :=
 pauN C L x1 x0 x5 h (fun x1 x6 x0 x5 h => pajZ C L x1 x6 x0 x5 h kn)
theorem epaiI (x1 x0 x5 : Value) :
  execK prog C L 0 20 [4] caiI [5] [] (fs [(1,x1),(0,x0),(5,x5)]) h K =
   paiI C L x1 x0 x5 h (fun x5 h => K .normal (fs [(5,x5)]) h) := by
 rw [execK_seq (a := cauN) (b := cajZ) (by kernel_rfl) (show live [4] cajZ [5] [] = [1,6,0,5] by kernel_rfl),epauN]
 unfold paiI
 exact (congrArg (pauN C L x1 x0 x5 h) (funext fun x1=>funext fun x6=>funext fun x0=>funext fun x5=>funext fun h => (seqK_n _ _ _).trans (epajZ C L h K x1 x6 x0 x5)))
noncomputable def cauP : Code := cR cahJ
noncomputable def pauP (C : CF) (L : Nat) {β : Type} (x5 : Value) (h : H) (kr : Kv1 β) : Option β :=
 kr x5 h
theorem epauP (x5 : Value) :
  execK prog C L 0 20 [4] cauP [4] [] (fs [(5,x5)]) h K =
   pauP C L x5 h (fun x4 h => K .ret (fs [(4,x4)]) h) := by
 kernel_rfl
noncomputable def p19a (C : CF) (L : Nat) {β : Type} (x0 x1 : Value) (h : H) (kr : Kv1 β) : Option β :=
 pauL C L x0 x1 h (fun x1 x0 h => pauM C L x1 x0 h (fun x1 x0 x5 h => paiI C L x1 x0 x5 h (fun x5 h => pauP C L x5 h kr)))
theorem ep19a (x0 x1 : Value) :
  execK prog C L 0 20 [4] c19a [4] [] (fs [(0,x0),(1,x1)]) h K =
   p19a C L x0 x1 h (fun x4 h => K .ret (fs [(4,x4)]) h) := by
 rw [execK_seq (a := cauL) (b := cagM) (by kernel_rfl) (show live [4] cagM [4] [] = [1,0] by kernel_rfl),epauL]
 unfold p19a
 exact (congrArg (pauL C L x0 x1 h) (funext fun x1=>funext fun x0=>funext fun h => (seqK_n _ _ _).trans (by rw [execK_seq (a := cauM) (b := cahJ) (by kernel_rfl) (show live [4] cahJ [4] [] = [1,0,5] by kernel_rfl),epauM]; exact (congrArg (pauM C L x1 x0 h) (funext fun x1=>funext fun x0=>funext fun x5=>funext fun h => (seqK_n _ _ _).trans (by rw [execK_seq (a := caiI) (b := cauP) (by kernel_rfl) (show live [4] cauP [4] [] = [5] by kernel_rfl),epaiI]; exact (congrArg (paiI C L x1 x0 x5 h) (funext fun x5=>funext fun h => (seqK_n _ _ _).trans (epauP C L h K x5)))))))))
noncomputable def F19 (C : CF) (L : Nat) (x0 x1 : Value) (h : H) : Option (Value × H) :=
 p19a C L x0 x1 h
  (fun x4 h => some (x4,h))
theorem F19eq (Q : Orc) (n : Nat) (x0 x1 : Value) (h : H) (hQ : Q 19 [x0,x1] = none) : callO prog 0 Q (n + 1) 19 [x0,x1] h = F19 (callO prog 0 Q n) n x0 x1 h := by
 rw [callO_eq hQ (c := c19a) (nt := 20) (RR := [4]) (fr := (fs [(0,x0),(1,x1)])) Tryz.func19 (by kernel_rfl) (by kernel_rfl) (by kernel_rfl) (by kernel_rfl) (by kernel_rfl),ep19a]
 kernel_rfl
noncomputable def c20a : Code := (Tryz.f20.body).getD .skip
noncomputable def p20a (C : CF) (L : Nat) {β : Type} (x0 : Value) (h : H) (kr : Kv2 β) : Option β :=
 bnd2 (A.box 24 x0 h) fun t1 hq1 =>
 bnd (A.load true 24 t1 hq1) fun t7 =>
 bnd2 (C 39 [t7] hq1) fun t8 hq2 =>
 toBK t8 fun b =>
 bnd (A.un prog .not (.bool b)) fun t9 =>
 toBK t9 fun bq1 =>
 (bif bq1 then
 kr (.string ⟨⟨[]⟩⟩) (.int .i64 4) hq2
 else
 bnd (A.load true 24 t1 hq2) fun t10 =>
 bnd2 (C 40 [t10] hq2) fun t11 hq3 =>
 bnd (A.lenStr t11) fun t14 =>
 bnd2 (C 41 [t14] hq3) fun t15 hq4 =>
 bnd (A.extract 0 t15) fun t16 =>
 bnd (A.extract 1 t15) fun t17 =>
 bnd (A.load true 24 t1 hq4) fun t18 =>
 bnd2 (C 43 [t18] hq4) fun t19 hq5 =>
 bnd2 (C 42 [t19] hq5) fun t20 hq6 =>
 bnd (A.bin prog .add 9 t20 t16) fun t22 =>
 bnd (A.bin prog .add 9 t22 t11) fun t24 =>
 kr t24 (.int .i64 0) hq6)
theorem ep20a (x0 : Value) :
  execK prog C L 0 25 [2,3] c20a [2,3] [] (fs [(0,x0)]) h K =
   p20a C L x0 h (fun x2 x3 h => K .ret (fs [(2,x2),(3,x3)]) h) := by
 kernel_rfl
noncomputable def F20 (C : CF) (L : Nat) (x0 : Value) (h : H) : Option (Value × H) :=
 p20a C L x0 h
  (fun x2 x3 h => some (.tuple ⟨[x2,x3]⟩,h))
theorem F20eq (Q : Orc) (n : Nat) (x0 : Value) (h : H) (hQ : Q 20 [x0] = none) : callO prog 0 Q (n + 1) 20 [x0] h = F20 (callO prog 0 Q n) n x0 h := by
 rw [callO_eq hQ (c := c20a) (nt := 25) (RR := [2,3]) (fr := (fs [(0,x0)])) Tryz.func20 (by kernel_rfl) (by kernel_rfl) (by kernel_rfl) (by kernel_rfl) (by kernel_rfl),ep20a]
 kernel_rfl
noncomputable def c21a : Code := (Tryz.f21.body).getD .skip
noncomputable def cauQ : Code := cL c21a
noncomputable def pauQ (C : CF) (L : Nat) {β : Type} (x0 x1 x2 : Value) (h : H) (kn : Kv4 β) : Option β :=
 bnd2 (A.box 24 Z77 h) fun t6 hq1 =>
 kn x1 x0 x2 t6 hq1
theorem epauQ (x0 x1 x2 : Value) :
  execK prog C L 0 156 [6] cauQ [1,0,2,6] [] (fs [(0,x0),(1,x1),(2,x2)]) h K =
   pauQ C L x0 x1 x2 h (fun x1 x0 x2 x6 h => K .normal (fs [(1,x1),(0,x0),(2,x2),(6,x6)]) h) := by
 kernel_rfl
noncomputable def caaY : Code := cR c21a
noncomputable def cauR : Code := cL caaY
noncomputable def pauR (C : CF) (L : Nat) {β : Type} (x1 x0 x2 x6 : Value) (h : H) (kn : Kv5 β) : Option β :=
 bnd (A.build Z77L []) fun t12 =>
 bnd2 (A.box 24 Z77 h) fun t7 hq1 =>
 bnd (A.store 24 t7 t12 hq1) fun hq2 =>
 kn x1 x0 x2 t7 x6 hq2
theorem epauR (x1 x0 x2 x6 : Value) :
  execK prog C L 0 156 [6] cauR [1,0,2,7,6] [] (fs [(1,x1),(0,x0),(2,x2),(6,x6)]) h K =
   pauR C L x1 x0 x2 x6 h (fun x1 x0 x2 x7 x6 h => K .normal (fs [(1,x1),(0,x0),(2,x2),(7,x7),(6,x6)]) h) := by
 kernel_rfl
noncomputable def cabB : Code := cR caaY
noncomputable def cabE : Code := cL cabB
noncomputable def canA : Code := cL cabE
noncomputable def panA (C : CF) (L : Nat) {β : Type} (x1 x0 x2 x7 x6 : Value) (h : H) (kn : Kv6 β) : Option β :=
 kn x1 x0 x1 x2 x7 x6 h
theorem epanA (x1 x0 x2 x7 x6 : Value) :
  execK prog C L 0 156 [6] canA [1,0,13,2,7,6] [] (fs [(1,x1),(0,x0),(2,x2),(7,x7),(6,x6)]) h K =
   panA C L x1 x0 x2 x7 x6 h (fun x1 x0 x13 x2 x7 x6 h => K .normal (fs [(1,x1),(0,x0),(13,x13),(2,x2),(7,x7),(6,x6)]) h) := by
 kernel_rfl
noncomputable def cabJ : Code := cR cabE
noncomputable def cabK : Code := cL cabJ
noncomputable def canB : Code := cL cabK
noncomputable def panB (C : CF) (L : Nat) {β : Type} (x1 x0 x13 x2 x7 x6 : Value) (h : H) (kn : Kv7 β) : Option β :=
 bnd (A.bin prog .eql 3 x13 (.int .i64 1)) fun t15 =>
 toBK t15 fun b =>
 (bif b then
 kn (.bool b) x1 x0 x13 x2 x7 x6 h
 else
 bnd (A.bin prog .eql 3 x13 (.int .i64 2)) fun t16 =>
 toBK t16 fun bq1 =>
 kn (.bool bq1) x1 x0 x13 x2 x7 x6 h)
theorem epanB (x1 x0 x13 x2 x7 x6 : Value) :
  execK prog C L 0 156 [6] canB [14,1,0,13,2,7,6] [(0,[7,6])] (fs [(1,x1),(0,x0),(13,x13),(2,x2),(7,x7),(6,x6)]) h K =
   panB C L x1 x0 x13 x2 x7 x6 h (fun x14 x1 x0 x13 x2 x7 x6 h => K .normal (fs [(14,x14),(1,x1),(0,x0),(13,x13),(2,x2),(7,x7),(6,x6)]) h) := by
 kernel_rfl
noncomputable def cabQ : Code := cR cabK
noncomputable def cakU : Code := cL cabQ
noncomputable def carD : Code := cL cakU
noncomputable def parD (C : CF) (L : Nat) {β : Type} (x14 x1 x0 x13 x2 x7 x6 : Value) (h : H) (kn : Kv4 β) : Option β :=
 bnd (A.fieldAddr 0 x7) fun t17 =>
 bnd (A.store 1 t17 (.int .u8 1) h) fun hq1 =>
 kn x2 x0 x7 x6 hq1
theorem eparD (x14 x1 x0 x13 x2 x7 x6 : Value) :
  execK prog C L 0 156 [6] carD [2,0,7,6] [(0,[7,6])] (fs [(14,x14),(1,x1),(0,x0),(13,x13),(2,x2),(7,x7),(6,x6)]) h K =
   parD C L x14 x1 x0 x13 x2 x7 x6 h (fun x2 x0 x7 x6 h => K .normal (fs [(2,x2),(0,x0),(7,x7),(6,x6)]) h) := by
 kernel_rfl
noncomputable def carE : Code := cR cakU
noncomputable def parE (C : CF) (L : Nat) {β : Type} (x2 x0 x7 x6 : Value) (h : H) (kn : Kv2 β) : Option β :=
 bnd (A.fieldAddr 7 x7) fun t18 =>
 bnd (A.store 1 t18 (.int .u8 4) h) fun hq1 =>
 bnd2 (A.buildSlice 1 4 Z9L [(0,1,(.string ⟨⟨[120]⟩⟩)),(1,1,(.string ⟨⟨[121]⟩⟩)),(2,1,(.string ⟨⟨[122]⟩⟩)),(3,1,(.string ⟨⟨[]⟩⟩))] hq1) fun t20 hq2 =>
 bnd2 (C 44 [x2,t20] hq2) fun t21 hq3 =>
 bnd (A.fieldAddr 10 x7) fun t22 =>
 bnd (A.store 1 t22 t21 hq3) fun hq4 =>
 bnd (A.bin prog .quo 3 x2 (.int .i64 16)) fun t24 =>
 bnd (A.bin prog .rem 3 t24 (.int .i64 2)) fun t25 =>
 bnd (A.bin prog .eql 3 t25 (.int .i64 1)) fun t26 =>
 toBK t26 fun b =>
 bnd (A.fieldAddr 8 x7) fun t27 =>
 bnd (A.store 1 t27 (.bool b) hq4) fun hq5 =>
 bnd (A.bin prog .quo 3 x2 (.int .i64 32)) fun t29 =>
 bnd (A.bin prog .rem 3 t29 (.int .i64 2)) fun t30 =>
 bnd (A.bin prog .eql 3 t30 (.int .i64 1)) fun t31 =>
 toBK t31 fun bq1 =>
 bnd (A.fieldAddr 11 x7) fun t32 =>
 bnd (A.store 1 t32 (.bool bq1) hq5) fun hq6 =>
 bnd (A.fieldAddr 11 x7) fun t33 =>
 bnd (A.load false 1 t33 hq6) fun t34 =>
 toBK t34 fun bq2 =>
 (bif bq2 then
 bnd (A.fieldAddr 12 x7) fun t35 =>
 bnd (A.fieldAddr 0 t35) fun t36 =>
 bnd (A.store 1 t36 (.string ⟨⟨[97,47,119]⟩⟩) hq6) fun hq7 =>
 bnd (A.fieldAddr 12 x7) fun t37 =>
 bnd (A.fieldAddr 1 t37) fun t38 =>
 bnd (A.store 1 t38 (.string ⟨⟨[119]⟩⟩) hq7) fun hq8 =>
 bnd (A.bin prog .quo 3 x2 (.int .i64 64)) fun t40 =>
 bnd (A.bin prog .rem 3 t40 (.int .i64 3)) fun t41 =>
 bnd (A.conv prog 3 5 t41) fun t42 =>
 bnd (A.fieldAddr 12 x7) fun t43 =>
 bnd (A.fieldAddr 2 t43) fun t44 =>
 bnd (A.store 1 t44 t42 hq8) fun hq9 =>
 bnd2 (C 12 [x0] hq9) fun t46 hq10 =>
 bnd (A.bin prog .rem 3 t46 (.int .i64 4)) fun t47 =>
 bnd (A.conv prog 3 72 t47) fun t48 =>
 bnd (A.fieldAddr 9 x7) fun t49 =>
 bnd (A.store 1 t49 t48 hq10) fun hq11 =>
 kn x7 x6 hq11
 else
 bnd2 (C 12 [x0] hq6) fun t46q1 hq12 =>
 bnd (A.bin prog .rem 3 t46q1 (.int .i64 4)) fun t47q1 =>
 bnd (A.conv prog 3 72 t47q1) fun t48q1 =>
 bnd (A.fieldAddr 9 x7) fun t49q1 =>
 bnd (A.store 1 t49q1 t48q1 hq12) fun hq13 =>
 kn x7 x6 hq13)
theorem eparE (x2 x0 x7 x6 : Value) :
  execK prog C L 0 156 [6] carE [7,6] [(0,[7,6])] (fs [(2,x2),(0,x0),(7,x7),(6,x6)]) h K =
   parE C L x2 x0 x7 x6 h (fun x7 x6 h => K .normal (fs [(7,x7),(6,x6)]) h) := by
 kernel_rfl
noncomputable def pakU (C : CF) (L : Nat) {β : Type} (x14 x1 x0 x13 x2 x7 x6 : Value) (h : H) (kn : Kv2 β) : Option β :=
 parD C L x14 x1 x0 x13 x2 x7 x6 h (fun x2 x0 x7 x6 h => parE C L x2 x0 x7 x6 h kn)
theorem epakU (x14 x1 x0 x13 x2 x7 x6 : Value) :
  execK prog C L 0 156 [6] cakU [7,6] [(0,[7,6])] (fs [(14,x14),(1,x1),(0,x0),(13,x13),(2,x2),(7,x7),(6,x6)]) h K =
   pakU C L x14 x1 x0 x13 x2 x7 x6 h (fun x7 x6 h => K .normal (fs [(7,x7),(6,x6)]) h) := by
 rw [execK_seq (a := carD) (b := carE) (by kernel_rfl) (show live [6] carE [7,6] [(0,[7,6])] = [2,0,7,6] by kernel_rfl),eparD]
 unfold pakU
 exact (congrArg (parD C L x14 x1 x0 x13 x2 x7 x6 h) (funext fun x2=>funext fun x0=>funext fun x7=>funext fun x6=>funext fun h => (seqK_n _ _ _).trans (eparE C L h K x2 x0 x7 x6)))
noncomputable def cacE : Code := cR cabQ
noncomputable def canM : Code := cL cacE
noncomputable def panM (C : CF) (L : Nat) {β : Type} (x14 x1 x0 x13 x2 x7 x6 : Value) (h : H) (kn : Kv7 β) : Option β :=
 bnd (A.bin prog .eql 3 x13 (.int .i64 3)) fun t51 =>
 toBK t51 fun b =>
 (bif b then
 kn (.bool b) x1 x0 x13 x2 x7 x6 h
 else
 bnd (A.bin prog .eql 3 x13 (.int .i64 4)) fun t52 =>
 toBK t52 fun bq1 =>
 kn (.bool bq1) x1 x0 x13 x2 x7 x6 h)
theorem epanM (x14 x1 x0 x13 x2 x7 x6 : Value) :
  execK prog C L 0 156 [6] canM [50,1,0,13,2,7,6] [(0,[7,6])] (fs [(14,x14),(1,x1),(0,x0),(13,x13),(2,x2),(7,x7),(6,x6)]) h K =
   panM C L x14 x1 x0 x13 x2 x7 x6 h (fun x50 x1 x0 x13 x2 x7 x6 h => K .normal (fs [(50,x50),(1,x1),(0,x0),(13,x13),(2,x2),(7,x7),(6,x6)]) h) := by
 kernel_rfl
noncomputable def cacQ : Code := cR cacE
noncomputable def cagI : Code := cL cacQ
noncomputable def cauT : Code := cL cagI
noncomputable def pauT (C : CF) (L : Nat) {β : Type} (x50 x1 x0 x13 x2 x7 x6 : Value) (h : H) (kn : Kv5 β) : Option β :=
 bnd (A.bin prog .sub 3 x1 (.int .i64 3)) fun t54 =>
 bnd (A.bin prog .mul 3 (.int .i64 2) t54) fun t55 =>
 bnd (A.bin prog .add 3 (.int .i64 8) t55) fun t56 =>
 bnd (A.conv prog 3 5 t56) fun t57 =>
 bnd (A.fieldAddr 0 x7) fun t58 =>
 bnd (A.store 1 t58 t57 h) fun hq1 =>
 kn x2 x1 x0 x7 x6 hq1
theorem epauT (x50 x1 x0 x13 x2 x7 x6 : Value) :
  execK prog C L 0 156 [6] cauT [2,1,0,7,6] [(0,[7,6])] (fs [(50,x50),(1,x1),(0,x0),(13,x13),(2,x2),(7,x7),(6,x6)]) h K =
   pauT C L x50 x1 x0 x13 x2 x7 x6 h (fun x2 x1 x0 x7 x6 h => K .normal (fs [(2,x2),(1,x1),(0,x0),(7,x7),(6,x6)]) h) := by
 kernel_rfl
noncomputable def cahO : Code := cR cagI
noncomputable def cauU : Code := cL cahO
noncomputable def pauU (C : CF) (L : Nat) {β : Type} (x2 x1 x0 x7 x6 : Value) (h : H) (kn : Kv5 β) : Option β :=
 bnd (A.bin prog .rem 3 x2 (.int .i64 4)) fun t60 =>
 bnd (A.bin prog .add 3 t60 (.int .i64 1)) fun t61 =>
 bnd (A.conv prog 3 72 t61) fun t62 =>
 bnd (A.fieldAddr 4 x7) fun t63 =>
 bnd (A.store 1 t63 t62 h) fun hq1 =>
 kn x2 x1 x0 x7 x6 hq1
theorem epauU (x2 x1 x0 x7 x6 : Value) :
  execK prog C L 0 156 [6] cauU [2,1,0,7,6] [(0,[7,6])] (fs [(2,x2),(1,x1),(0,x0),(7,x7),(6,x6)]) h K =
   pauU C L x2 x1 x0 x7 x6 h (fun x2 x1 x0 x7 x6 h => K .normal (fs [(2,x2),(1,x1),(0,x0),(7,x7),(6,x6)]) h) := by
 kernel_rfl
noncomputable def caiP : Code := cR cahO
noncomputable def cauV : Code := cL caiP
noncomputable def pauV (C : CF) (L : Nat) {β : Type} (x2 x1 x0 x7 x6 : Value) (h : H) (kn : Kv6 β) : Option β :=
 kn x2 (.int .i64 0) x1 x0 x7 x6 h
theorem epauV (x2 x1 x0 x7 x6 : Value) :
  execK prog C L 0 156 [6] cauV [2,8,1,0,7,6] [(0,[7,6])] (fs [(2,x2),(1,x1),(0,x0),(7,x7),(6,x6)]) h K =
   pauV C L x2 x1 x0 x7 x6 h (fun x2 x8 x1 x0 x7 x6 h => K .normal (fs [(2,x2),(8,x8),(1,x1),(0,x0),(7,x7),(6,x6)]) h) := by
 kernel_rfl
noncomputable def cajO : Code := cR caiP
noncomputable def cakP : Code := cL cajO
noncomputable def caoG : Code := cL cakP
noncomputable def paoG (C : CF) (L : Nat) {β : Type} (x2 x8 x1 x0 x7 x6 : Value) (h : H) (kn : Kv6 β) (kx1 : Kv2 β) : Option β :=
 bnd (A.bin prog .quo 3 x2 (.int .i64 4)) fun t66 =>
 bnd (A.bin prog .rem 3 t66 (.int .i64 2)) fun t67 =>
 bnd (A.bin prog .leq 3 x8 t67) fun t68 =>
 toBK t68 fun b =>
 (bif b then
 bnd2 (C 12 [x0] h) fun t72 hq1 =>
 bnd2 (A.buildSlice 1 8 Z9L [(0,1,(.string ⟨⟨[97]⟩⟩)),(1,1,(.string ⟨⟨[97,47,43]⟩⟩)),(2,1,(.string ⟨⟨[35]⟩⟩)),(3,1,(.string ⟨⟨[43,47,98]⟩⟩)),(4,1,(.string ⟨⟨[97,47,35]⟩⟩)),(5,1,(.string ⟨⟨[98]⟩⟩)),(6,1,(.string ⟨⟨[36,115,47,35]⟩⟩)),(7,1,(.string ⟨⟨[43]⟩⟩))] hq1) fun t74 hq2 =>
 bnd2 (C 44 [t72,t74] hq2) fun t75 hq3 =>
 bnd (A.build Z110L [(0,1,t75)]) fun t76 =>
 bnd2 (A.box 2 Z110 hq3) fun t10 hq4 =>
 bnd (A.store 2 t10 t76 hq4) fun hq5 =>
 bnd (A.bin prog .eql 3 x1 (.int .i64 3)) fun t78 =>
 toBK t78 fun bq1 =>
 (bif bq1 then
 bnd (A.bin prog .quo 3 t72 (.int .i64 8)) fun t80 =>
 bnd (A.bin prog .rem 3 t80 (.int .i64 3)) fun t81 =>
 bnd (A.conv prog 3 5 t81) fun t82 =>
 bnd (A.fieldAddr 1 t10) fun t83 =>
 bnd (A.store 1 t83 t82 hq5) fun hq6 =>
 bnd (A.fieldAddr 22 x7) fun t84 =>
 bnd (A.load false 1 t84 hq6) fun t85 =>
 bnd (A.load true 2 t10 hq6) fun t86 =>
 bnd2 (A.buildSlice 2 1 Z110L [(0,2,t86)] hq6) fun t87 hq7 =>
 bnd2 (A.append 2 24 t85 t87 hq7) fun t88 hq8 =>
 bnd (A.fieldAddr 22 x7) fun t89 =>
 bnd (A.store 1 t89 t88 hq8) fun hq9 =>
 bnd (A.bin prog .add 3 x8 (.int .i64 1)) fun t70 =>
 kn x2 t70 x1 x0 x7 x6 hq9
 else
 bnd (A.fieldAddr 22 x7) fun t84q1 =>
 bnd (A.load false 1 t84q1 hq5) fun t85q1 =>
 bnd (A.load true 2 t10 hq5) fun t86q1 =>
 bnd2 (A.buildSlice 2 1 Z110L [(0,2,t86q1)] hq5) fun t87q1 hq10 =>
 bnd2 (A.append 2 24 t85q1 t87q1 hq10) fun t88q1 hq11 =>
 bnd (A.fieldAddr 22 x7) fun t89q1 =>
 bnd (A.store 1 t89q1 t88q1 hq11) fun hq12 =>
 bnd (A.bin prog .add 3 x8 (.int .i64 1)) fun t70q1 =>
 kn x2 t70q1 x1 x0 x7 x6 hq12)
 else
 kx1 x7 x6 h)
theorem epaoG (x2 x8 x1 x0 x7 x6 : Value) :
  execK prog C L 0 156 [6] caoG [2,8,1,0,7,6] [(1,[7,6]),(0,[7,6])] (fs [(2,x2),(8,x8),(1,x1),(0,x0),(7,x7),(6,x6)]) h K =
   paoG C L x2 x8 x1 x0 x7 x6 h (fun x2 x8 x1 x0 x7 x6 h => K .normal (fs [(2,x2),(8,x8),(1,x1),(0,x0),(7,x7),(6,x6)]) h) (fun x7 x6 h => K (.exit 1) (fs [(7,x7),(6,x6)]) h) := by
 kernel_rfl
noncomputable def paoH (C : CF) (L : Nat) {β : Type} (kx1 : Kv2 β) : Nat → Kv6 β
 | 0,_,_,_,_,_,_,_ => none
 | n + 1,x2,x8,x1,x0,x7,x6,h => paoG C L x2 x8 x1 x0 x7 x6 h (fun x2 x8 x1 x0 x7 x6 h => paoH C L kx1 n x2 x8 x1 x0 x7 x6 h) kx1
theorem epaoH (C : CF) (L : Nat) {β : Type} (K : Ex → T Value → Kv0 β) : ∀ (n : Nat) (x2 x8 x1 x0 x7 x6 : Value) (h : H),
  loopK (fun fr h K => execK prog C L 0 156 [6] caoG [2,8,1,0,7,6] [(1,[7,6]),(0,[7,6])] fr h K) n (fs [(2,x2),(8,x8),(1,x1),(0,x0),(7,x7),(6,x6)]) h K =
   paoH C L (fun x7 x6 h => K (.exit 1) (fs [(7,x7),(6,x6)]) h) n x2 x8 x1 x0 x7 x6 h := by
 intro n
 induction n with
 | zero => intros; rfl
 | succ n ih =>
  intros
  simp only [loopK]
  rw [epaoG]
  simp only [seqK_n,seqK_x,seqK_r,ih]
  rfl
noncomputable def pakP (C : CF) (L : Nat) {β : Type} (x2 x8 x1 x0 x7 x6 : Value) (h : H) (kx1 : Kv2 β) : Option β :=
 paoH C L kx1 L x2 x8 x1 x0 x7 x6 h
theorem epakP (x2 x8 x1 x0 x7 x6 : Value) :
  execK prog C L 0 156 [6] cakP [7,6] [(1,[7,6]),(0,[7,6])] (fs [(2,x2),(8,x8),(1,x1),(0,x0),(7,x7),(6,x6)]) h K =
   pakP C L x2 x8 x1 x0 x7 x6 h (fun x7 x6 h => K (.exit 1) (fs [(7,x7),(6,x6)]) h) := by
 rw [execK_loop (b := caoG) (fr1 := (fs [(2,x2),(8,x8),(1,x1),(0,x0),(7,x7),(6,x6)])) (by kernel_rfl) (show live [6] caoG [] [(1,[7,6]),(0,[7,6])] = [2,8,1,0,7,6] by kernel_rfl) (by kernel_rfl),epaoH]
 unfold pakP
 rfl
noncomputable def pajO (C : CF) (L : Nat) {β : Type} (x2 x8 x1 x0 x7 x6 : Value) (h : H) (kn : Kv2 β) : Option β :=
 pakP C L x2 x8 x1 x0 x7 x6 h kn
theorem epajO (x2 x8 x1 x0 x7 x6 : Value) :
  execK prog C L 0 156 [6] cajO [7,6] [(0,[7,6])] (fs [(2,x2),(8,x8),(1,x1),(0,x0),(7,x7),(6,x6)]) h K =
   pajO C L x2 x8 x1 x0 x7 x6 h (fun x7 x6 h => K .normal (fs [(7,x7),(6,x6)]) h) := by
 rw [execK_block (b := cakP) (id := 1) (by kernel_rfl),epakP]
 unfold pajO
 rfl
noncomputable def pagI (C : CF) (L : Nat) {β : Type} (x50 x1 x0 x13 x2 x7 x6 : Value) (h : H) (kn : Kv2 β) : Option β :=
 pauT C L x50 x1 x0 x13 x2 x7 x6 h (fun x2 x1 x0 x7 x6 h => pauU C L x2 x1 x0 x7 x6 h (fun x2 x1 x0 x7 x6 h => pauV C L x2 x1 x0 x7 x6 h (fun x2 x8 x1 x0 x7 x6 h => pajO C L x2 x8 x1 x0 x7 x6 h kn)))
theorem epagI (x50 x1 x0 x13 x2 x7 x6 : Value) :
  execK prog C L 0 156 [6] cagI [7,6] [(0,[7,6])] (fs [(50,x50),(1,x1),(0,x0),(13,x13),(2,x2),(7,x7),(6,x6)]) h K =
   pagI C L x50 x1 x0 x13 x2 x7 x6 h (fun x7 x6 h => K .normal (fs [(7,x7),(6,x6)]) h) := by
 rw [execK_seq (a := cauT) (b := cahO) (by kernel_rfl) (show live [6] cahO [7,6] [(0,[7,6])] = [2,1,0,7,6] by kernel_rfl),epauT]
 unfold pagI
 exact (congrArg (pauT C L x50 x1 x0 x13 x2 x7 x6 h) (funext fun x2=>funext fun x1=>funext fun x0=>funext fun x7=>funext fun x6=>funext fun h => (seqK_n _ _ _).trans (by rw [execK_seq (a := cauU) (b := caiP) (by kernel_rfl) (show live [6] caiP [7,6] [(0,[7,6])] = [2,1,0,7,6] by kernel_rfl),epauU]; exact (congrArg (pauU C L x2 x1 x0 x7 x6 h) (funext fun x2=>funext fun x1=>funext fun x0=>funext fun x7=>funext fun x6=>funext fun h => (seqK_n _ _ _).trans (by rw [execK_seq (a := cauV) (b := cajO) (by kernel_rfl) (show live [6] cajO [7,6] [(0,[7,6])] = [2,8,1,0,7,6] by kernel_rfl),epauV]; exact (congrArg (pauV C L x2 x1 x0 x7 x6 h) (funext fun x2=>funext fun x8=>funext fun x1=>funext fun x0=>funext fun x7=>funext fun x6=>funext fun h => (seqK_n _ _ _).trans (epajO C L h K x2 x8 x1 x0 x7 x6)))))))))
noncomputable def cafB : Code := cR cacQ
noncomputable def caoB : Code := cL cafB
noncomputable def paoB (C : CF) (L : Nat) {β : Type} (x50 x1 x0 x13 x2 x7 x6 : Value) (h : H) (kn : Kv6 β) : Option β :=
 bnd (A.bin prog .eql 3 x13 (.int .i64 5)) fun t91 =>
 toBK t91 fun b =>
 (bif b then
 kn (.bool b) x0 x13 x2 x7 x6 h
 else
 bnd (A.bin prog .eql 3 x13 (.int .i64 6)) fun t92 =>
 toBK t92 fun bq1 =>
 kn (.bool bq1) x0 x13 x2 x7 x6 h)
theorem epaoB (x50 x1 x0 x13 x2 x7 x6 : Value) :
  execK prog C L 0 156 [6] caoB [90,0,13,2,7,6] [(0,[7,6])] (fs [(50,x50),(1,x1),(0,x0),(13,x13),(2,x2),(7,x7),(6,x6)]) h K =
   paoB C L x50 x1 x0 x13 x2 x7 x6 h (fun x90 x0 x13 x2 x7 x6 h => K .normal (fs [(90,x90),(0,x0),(13,x13),(2,x2),(7,x7),(6,x6)]) h) := by
 kernel_rfl
noncomputable def cagG : Code := cR cafB
noncomputable def cahT : Code := cL cagG
noncomputable def caoC : Code := cL cahT
noncomputable def paoC (C : CF) (L : Nat) {β : Type} (x90 x0 x13 x2 x7 x6 : Value) (h : H) (kn : Kv4 β) : Option β :=
 bnd (A.fieldAddr 0 x7) fun t93 =>
 bnd (A.store 1 t93 (.int .u8 3) h) fun hq1 =>
 kn x0 x2 x7 x6 hq1
theorem epaoC (x90 x0 x13 x2 x7 x6 : Value) :
  execK prog C L 0 156 [6] caoC [0,2,7,6] [(0,[7,6])] (fs [(90,x90),(0,x0),(13,x13),(2,x2),(7,x7),(6,x6)]) h K =
   paoC C L x90 x0 x13 x2 x7 x6 h (fun x0 x2 x7 x6 h => K .normal (fs [(0,x0),(2,x2),(7,x7),(6,x6)]) h) := by
 kernel_rfl
noncomputable def cajN : Code := cR cahT
noncomputable def caoD : Code := cL cajN
noncomputable def paoD (C : CF) (L : Nat) {β : Type} (x0 x2 x7 x6 : Value) (h : H) (kn : Kv4 β) : Option β :=
 bnd2 (A.buildSlice 1 6 Z9L [(0,1,(.string ⟨⟨[97]⟩⟩)),(1,1,(.string ⟨⟨[97,47,98]⟩⟩)),(2,1,(.string ⟨⟨[98]⟩⟩)),(3,1,(.string ⟨⟨[97,47,119]⟩⟩)),(4,1,(.string ⟨⟨[36,115,47,120]⟩⟩)),(5,1,(.string ⟨⟨[99]⟩⟩))] h) fun t95 hq1 =>
 bnd2 (C 44 [x2,t95] hq1) fun t96 hq2 =>
 bnd (A.fieldAddr 5 x7) fun t97 =>
 bnd (A.store 1 t97 t96 hq2) fun hq3 =>
 kn x0 x2 x7 x6 hq3
theorem epaoD (x0 x2 x7 x6 : Value) :
  execK prog C L 0 156 [6] caoD [0,2,7,6] [(0,[7,6])] (fs [(0,x0),(2,x2),(7,x7),(6,x6)]) h K =
   paoD C L x0 x2 x7 x6 h (fun x0 x2 x7 x6 h => K .normal (fs [(0,x0),(2,x2),(7,x7),(6,x6)]) h) := by
 kernel_rfl
noncomputable def calT : Code := cR cajN
noncomputable def caoE : Code := cL calT
noncomputable def paoE (C : CF) (L : Nat) {β : Type} (x0 x2 x7 x6 : Value) (h : H) (kn : Kv4 β) : Option β :=
 bnd (A.bin prog .quo 3 x2 (.int .i64 8)) fun t99 =>
 bnd (A.bin prog .rem 3 t99 (.int .i64 3)) fun t100 =>
 bnd (A.conv prog 3 5 t100) fun t101 =>
 bnd (A.fieldAddr 2 x7) fun t102 =>
 bnd (A.store 1 t102 t101 h) fun hq1 =>
 kn x0 x2 x7 x6 hq1
theorem epaoE (x0 x2 x7 x6 : Value) :
  execK prog C L 0 156 [6] caoE [0,2,7,6] [(0,[7,6])] (fs [(0,x0),(2,x2),(7,x7),(6,x6)]) h K =
   paoE C L x0 x2 x7 x6 h (fun x0 x2 x7 x6 h => K .normal (fs [(0,x0),(2,x2),(7,x7),(6,x6)]) h) := by
 kernel_rfl
noncomputable def caoF : Code := cR calT
noncomputable def paoF (C : CF) (L : Nat) {β : Type} (x0 x2 x7 x6 : Value) (h : H) (kn : Kv2 β) : Option β :=
 bnd (A.bin prog .quo 3 x2 (.int .i64 32)) fun t104 =>
 bnd (A.bin prog .rem 3 t104 (.int .i64 2)) fun t105 =>
 bnd (A.bin prog .eql 3 t105 (.int .i64 1)) fun t106 =>
 toBK t106 fun b =>
 bnd (A.fieldAddr 3 x7) fun t107 =>
 bnd (A.store 1 t107 (.bool b) h) fun hq1 =>
 bnd2 (C 12 [x0] hq1) fun t109 hq2 =>
 bnd (A.bin prog .quo 3 t109 (.int .i64 4)) fun t111 =>
 bnd (A.bin prog .rem 3 t111 (.int .i64 4)) fun t112 =>
 bnd (A.bin prog .neq 3 t112 (.int .i64 0)) fun t113 =>
 toBK t113 fun bq1 =>
 (bif bq1 then
 bnd (A.bin prog .quo 3 t109 (.int .i64 16)) fun t115 =>
 bnd (A.bin prog .quo 3 t109 (.int .i64 16)) fun t117 =>
 bnd (A.bin prog .add 3 t117 (.int .i64 1)) fun t118 =>
 bnd (A.sliceStr (.string ⟨⟨[97,98,99,100,101,102,103,104,105,106,107,108,109,110,111,112]⟩⟩) (some t115) (some t118)) fun t119 =>
 bnd (A.fieldAddr 6 x7) fun t120 =>
 bnd (A.store 1 t120 t119 hq2) fun hq3 =>
 bnd (A.fieldAddr 2 x7) fun t121 =>
 bnd (A.load false 1 t121 hq3) fun t122 =>
 bnd (A.bin prog .gtr 5 t122 (.int .u8 0)) fun t123 =>
 toBK t123 fun bq2 =>
 (bif bq2 then
 bnd (A.bin prog .rem 3 t109 (.int .i64 4)) fun t125 =>
 bnd (A.bin prog .add 3 t125 (.int .i64 1)) fun t126 =>
 bnd (A.conv prog 3 72 t126) fun t127 =>
 bnd (A.fieldAddr 4 x7) fun t128 =>
 bnd (A.store 1 t128 t127 hq3) fun hq4 =>
 bnd (A.bin prog .quo 3 x2 (.int .i64 64)) fun t130 =>
 bnd (A.bin prog .rem 3 t130 (.int .i64 2)) fun t131 =>
 bnd (A.bin prog .eql 3 t131 (.int .i64 1)) fun t132 =>
 toBK t132 fun bq3 =>
 bnd (A.fieldAddr 1 x7) fun t133 =>
 bnd (A.store 1 t133 (.bool bq3) hq4) fun hq5 =>
 kn x7 x6 hq5
 else
 kn x7 x6 hq3)
 else
 bnd (A.fieldAddr 2 x7) fun t121q1 =>
 bnd (A.load false 1 t121q1 hq2) fun t122q1 =>
 bnd (A.bin prog .gtr 5 t122q1 (.int .u8 0)) fun t123q1 =>
 toBK t123q1 fun bq4 =>
 (bif bq4 then
 bnd (A.bin prog .rem 3 t109 (.int .i64 4)) fun t125q1 =>
 bnd (A.bin prog .add 3 t125q1 (.int .i64 1)) fun t126q1 =>
 bnd (A.conv prog 3 72 t126q1) fun t127q1 =>
 bnd (A.fieldAddr 4 x7) fun t128q1 =>
 bnd (A.store 1 t128q1 t127q1 hq2) fun hq6 =>
 bnd (A.bin prog .quo 3 x2 (.int .i64 64)) fun t130q1 =>
 bnd (A.bin prog .rem 3 t130q1 (.int .i64 2)) fun t131q1 =>
 bnd (A.bin prog .eql 3 t131q1 (.int .i64 1)) fun t132q1 =>
 toBK t132q1 fun bq5 =>
 bnd (A.fieldAddr 1 x7) fun t133q1 =>
 bnd (A.store 1 t133q1 (.bool bq5) hq6) fun hq7 =>
 kn x7 x6 hq7
 else
 kn x7 x6 hq2))
theorem epaoF (x0 x2 x7 x6 : Value) :
  execK prog C L 0 156 [6] caoF [7,6] [(0,[7,6])] (fs [(0,x0),(2,x2),(7,x7),(6,x6)]) h K =
   paoF C L x0 x2 x7 x6 h (fun x7 x6 h => K .normal (fs [(7,x7),(6,x6)]) h) := by
 kernel_rfl
noncomputable def pahT (C : CF) (L : Nat) {β : Type} (x90 x0 x13 x2 x7 x6 : Value) (h : H) (kn : Kv2 β) : Option β :=
 paoC C L x90 x0 x13 x2 x7 x6 h (fun x0 x2 x7 x6 h => paoD C L x0 x2 x7 x6 h (fun x0 x2 x7 x6 h => paoE C L x0 x2 x7 x6 h (fun x0 x2 x7 x6 h => paoF C L x0 x2 x7 x6 h kn)))
theorem epahT (x90 x0 x13 x2 x7 x6 : Value) :
  execK prog C L 0 156 [6] cahT [7,6] [(0,[7,6])] (fs [(90,x90),(0,x0),(13,x13),(2,x2),(7,x7),(6,x6)]) h K =
   pahT C L x90 x0 x13 x2 x7 x6 h (fun x7 x6 h => K .normal (fs [(7,x7),(6,x6)]) h) := by
 rw [execK_seq (a := caoC) (b := cajN) (by kernel_rfl) (show live [6] cajN [7,6] [(0,[7,6])] = [0,2,7,6] by kernel_rfl),epaoC]
 unfold pahT
 exact (congrArg (paoC C L x90 x0 x13 x2 x7 x6 h) (funext fun x0=>funext fun x2=>funext fun x7=>funext fun x6=>funext fun h => (seqK_n _ _ _).trans (by rw [execK_seq (a := caoD) (b := calT) (by kernel_rfl) (show live [6] calT [7,6] [(0,[7,6])] = [0,2,7,6] by kernel_rfl),epaoD]; exact (congrArg (paoD C L x0 x2 x7 x6 h) (funext fun x0=>funext fun x2=>funext fun x7=>funext fun x6=>funext fun h => (seqK_n _ _ _).trans (by rw [execK_seq (a := caoE) (b := caoF) (by kernel_rfl) (show live [6] caoF [7,6] [(0,[7,6])] = [0,2,7,6] by kernel_rfl),epaoE]; exact (congrArg (paoE C L x0 x2 x7 x6 h) (funext fun x0=>funext fun x2=>funext fun x7=>funext fun x6=>funext fun h => (seqK_n _ _ _).trans (epaoF C L h K x0 x2 x7 x6)))))))))
noncomputable def cauS : Code := cR cagG
noncomputable def pauS (C : CF) (L : Nat) {β : Type} (x90 x0 x13 x2 x7 x6 : Value) (h : H) (kn : Kv2 β) : Option β :=
 bnd (A.bin prog .eql 3 x13 (.int .i64 7)) fun t135 =>
 toBK t135 fun b =>
 (bif b then
 bnd (A.bin prog .rem 3 x2 (.int .i64 4)) fun t137 =>
 bnd (A.bin prog .add 3 (.int .i64 4) t137) fun t138 =>
 bnd (A.conv prog 3 5 t138) fun t139 =>
 bnd (A.fieldAddr 0 x7) fun t140 =>
 bnd (A.store 1 t140 t139 h) fun hq1 =>
 bnd (A.bin prog .quo 3 x2 (.int .i64 4)) fun t142 =>
 bnd (A.bin prog .rem 3 t142 (.int .i64 4)) fun t143 =>
 bnd (A.bin prog .add 3 t143 (.int .i64 1)) fun t144 =>
 bnd (A.conv prog 3 72 t144) fun t145 =>
 bnd (A.fieldAddr 4 x7) fun t146 =>
 bnd (A.store 1 t146 t145 hq1) fun hq2 =>
 kn x7 x6 hq2
 else
 bnd (A.bin prog .eql 3 x13 (.int .i64 8)) fun t148 =>
 toBK t148 fun bq1 =>
 (bif bq1 then
 bnd (A.bin prog .rem 3 x2 (.int .i64 2)) fun t150 =>
 bnd (A.bin prog .mul 3 (.int .i64 2) t150) fun t151 =>
 bnd (A.bin prog .add 3 (.int .i64 12) t151) fun t152 =>
 bnd (A.conv prog 3 5 t152) fun t153 =>
 bnd (A.fieldAddr 0 x7) fun t154 =>
 bnd (A.store 1 t154 t153 h) fun hq3 =>
 kn x7 x6 hq3
 else
 kn x7 x6 h))
theorem epauS (x90 x0 x13 x2 x7 x6 : Value) :
  execK prog C L 0 156 [6] cauS [7,6] [(0,[7,6])] (fs [(90,x90),(0,x0),(13,x13),(2,x2),(7,x7),(6,x6)]) h K =
   pauS C L x90 x0 x13 x2 x7 x6 h (fun x7 x6 h => K .normal (fs [(7,x7),(6,x6)]) h) := by
 kernel_rfl
noncomputable def pagG (C : CF) (L : Nat) {β : Type} (x90 x0 x13 x2 x7 x6 : Value) (h : H) (kn : Kv2 β) : Option β :=
 condV x90 (pahT C L x90 x0 x13 x2 x7 x6 h kn) (pauS C L x90 x0 x13 x2 x7 x6 h kn)
theorem epagG (x90 x0 x13 x2 x7 x6 : Value) :
  execK prog C L 0 156 [6] cagG [7,6] [(0,[7,6])] (fs [(90,x90),(0,x0),(13,x13),(2,x2),(7,x7),(6,x6)]) h K =
   pagG C L x90 x0 x13 x2 x7 x6 h (fun x7 x6 h => K .normal (fs [(7,x7),(6,x6)]) h) := by
 rw [execK_cond (a := cahT) (b := cauS) (x := (.tmp 90)) (v := x90) (by kernel_rfl) (by kernel_rfl),epahT,epauS]
 unfold pagG
 rfl
noncomputable def pafB (C : CF) (L : Nat) {β : Type} (x50 x1 x0 x13 x2 x7 x6 : Value) (h : H) (kn : Kv2 β) : Option β :=
 paoB C L x50 x1 x0 x13 x2 x7 x6 h (fun x90 x0 x13 x2 x7 x6 h => pagG C L x90 x0 x13 x2 x7 x6 h kn)
theorem epafB (x50 x1 x0 x13 x2 x7 x6 : Value) :
  execK prog C L 0 156 [6] cafB [7,6] [(0,[7,6])] (fs [(50,x50),(1,x1),(0,x0),(13,x13),(2,x2),(7,x7),(6,x6)]) h K =
   pafB C L x50 x1 x0 x13 x2 x7 x6 h (fun x7 x6 h => K .normal (fs [(7,x7),(6,x6)]) h) := by
 rw [execK_seq (a := caoB) (b := cagG) (by kernel_rfl) (show live [6] cagG [7,6] [(0,[7,6])] = [90,0,13,2,7,6] by kernel_rfl),epaoB]
 unfold pafB
 exact (congrArg (paoB C L x50 x1 x0 x13 x2 x7 x6 h) (funext fun x90=>funext fun x0=>funext fun x13=>funext fun x2=>funext fun x7=>funext fun x6=>funext fun h => (seqK_n _ _ _).trans (epagG C L h K x90 x0 x13 x2 x7 x6)))
noncomputable def pacQ (C : CF) (L : Nat) {β : Type} (x50 x1 x0 x13 x2 x7 x6 : Value) (h : H) (kn : Kv2 β) : Option β :=
 condV x50 (pagI C L x50 x1 x0 x13 x2 x7 x6 h kn) (pafB C L x50 x1 x0 x13 x2 x7 x6 h kn)
theorem epacQ (x50 x1 x0 x13 x2 x7 x6 : Value) :
  execK prog C L 0 156 [6] cacQ [7,6] [(0,[7,6])] (fs [(50,x50),(1,x1),(0,x0),(13,x13),(2,x2),(7,x7),(6,x6)]) h K =
   pacQ C L x50 x1 x0 x13 x2 x7 x6 h (fun x7 x6 h => K .normal (fs [(7,x7),(6,x6)]) h) := by
 rw [execK_cond (a := cagI) (b := cafB) (x := (.tmp 50)) (v := x50) (by kernel_rfl) (by kernel_rfl),epagI,epafB]
 unfold pacQ
 rfl
noncomputable def pacE (C : CF) (L : Nat) {β : Type} (x14 x1 x0 x13 x2 x7 x6 : Value) (h : H) (kn : Kv2 β) : Option β :=
 panM C L x14 x1 x0 x13 x2 x7 x6 h (fun x50 x1 x0 x13 x2 x7 x6 h => pacQ C L x50 x1 x0 x13 x2 x7 x6 h kn)
theorem epacE (x14 x1 x0 x13 x2 x7 x6 : Value) :
  execK prog C L 0 156 [6] cacE [7,6] [(0,[7,6])] (fs [(14,x14),(1,x1),(0,x0),(13,x13),(2,x2),(7,x7),(6,x6)]) h K =
   pacE C L x14 x1 x0 x13 x2 x7 x6 h (fun x7 x6 h => K .normal (fs [(7,x7),(6,x6)]) h) := by
 rw [execK_seq (a := canM) (b := cacQ) (by kernel_rfl) (show live [6] cacQ [7,6] [(0,[7,6])] = [50,1,0,13,2,7,6] by kernel_rfl),epanM]
 unfold pacE
 exact (congrArg (panM C L x14 x1 x0 x13 x2 x7 x6 h) (funext fun x50=>funext fun x1=>funext fun x0=>funext fun x13=>funext fun x2=>funext fun x7=>funext fun x6=>funext fun h => (seqK_n _ _ _).trans (epacQ C L h K x50 x1 x0 x13 x2 x7 x6)))
noncomputable def pabQ (C : CF) (L : Nat) {β : Type} (x14 x1 x0 x13 x2 x7 x6 : Value) (h : H) (kn : Kv2 β) : Option β :=
 condV x14 (pakU C L x14 x1 x0 x13 x2 x7 x6 h kn) (pacE C L x14 x1 x0 x13 x2 x7 x6 h kn)
theorem epabQ (x14 x1 x0 x13 x2 x7 x6 : Value) :
  execK prog C L 0 156 [6] cabQ [7,6] [(0,[7,6])] (fs [(14,x14),(1,x1),(0,x0),(13,x13),(2,x2),(7,x7),(6,x6)]) h K =
   pabQ C L x14 x1 x0 x13 x2 x7 x6 h (fun x7 x6 h => K .normal (fs [(7,x7),(6,x6)]) h) := by
 rw [execK_cond (a := cakU) (b := cacE) (x := (.tmp 14)) (v := x14) (by kernel_rfl) (by kernel_rfl),epakU,epacE]
 unfold pabQ
 rfl
noncomputable def pabK (C : CF) (L : Nat) {β : Type} (x1 x0 x13 x2 x7 x6 : Value) (h : H) (kn : Kv2 β) : Option β :=
 panB C L x1 x0 x13 x2 x7 x6 h (fun x14 x1 x0 x13 x2 x7 x6 h => pabQ C L x14 x1 x0 x13 x2 x7 x6 h kn)
theorem epabK (x1 x0 x13 x2 x7 x6 : Value) :
  execK prog C L 0 156 [6] cabK [7,6] [(0,[7,6])] (fs [(1,x1),(0,x0),(13,x13),(2,x2),(7,x7),(6,x6)]) h K =
   pabK C L x1 x0 x13 x2 x7 x6 h (fun x7 x6 h => K .normal (fs [(7,x7),(6,x6)]) h) := by
 rw [execK_seq (a := canB) (b := cabQ) (by kernel_rfl) (show live [6] cabQ [7,6] [(0,[7,6])] = [14,1,0,13,2,7,6] by kernel_rfl),epanB]
 unfold pabK
 exact (congrArg (panB C L x1 x0 x13 x2 x7 x6 h) (funext fun x14=>funext fun x1=>funext fun x0=>funext fun x13=>funext fun x2=>funext fun x7=>funext fun x6=>funext fun h => (seqK_n _ _ _).trans (epabQ C L h K x14 x1 x0 x13 x2 x7 x6)))
noncomputable def pabJ (C : CF) (L : Nat) {β : Type} (x1 x0 x13 x2 x7 x6 : Value) (h : H) (kn : Kv2 β) : Option β :=
 pabK C L x1 x0 x13 x2 x7 x6 h kn
theorem epabJ (x1 x0 x13 x2 x7 x6 : Value) :
  execK prog C L 0 156 [6] cabJ [7,6] [] (fs [(1,x1),(0,x0),(13,x13),(2,x2),(7,x7),(6,x6)]) h K =
   pabJ C L x1 x0 x13 x2 x7 x6 h (fun x7 x6 h => K .normal (fs [(7,x7),(6,x6)]) h) := by
 rw [execK_block (b := cabK) (id := 0) (by kernel_rfl),epabK]
 unfold pabJ
 rfl
noncomputable def pabE (C : CF) (L : Nat) {β : Type} (x1 x0 x2 x7 x6 : Value) (h : H) (kn : Kv2 β) : Option β :=
 panA C L x1 x0 x2 x7 x6 h (fun x1 x0 x13 x2 x7 x6 h => pabJ C L x1 x0 x13 x2 x7 x6 h kn)
theorem epabE (x1 x0 x2 x7 x6 : Value) :
  execK prog C L 0 156 [6] cabE [7,6] [] (fs [(1,x1),(0,x0),(2,x2),(7,x7),(6,x6)]) h K =
   pabE C L x1 x0 x2 x7 x6 h (fun x7 x6 h => K .normal (fs [(7,x7),(6,x6)]) h) := by
 rw [execK_seq (a := canA) (b := cabJ) (by kernel_rfl) (show live [6] cabJ [7,6] [] = [1,0,13,2,7,6] by kernel_rfl),epanA]
 unfold pabE
 exact (congrArg (panA C L x1 x0 x2 x7 x6 h) (funext fun x1=>funext fun x0=>funext fun x13=>funext fun x2=>funext fun x7=>funext fun x6=>funext fun h => (seqK_n _ _ _).trans (epabJ C L h K x1 x0 x13 x2 x7 x6)))
noncomputable def cauW : Code := cR cabB
noncomputable def pauW (C : CF) (L : Nat) {β : Type} (x7 x6 : Value) (h : H) (kr : Kv1 β) : Option β :=
 bnd (A.load true 24 x7 h) fun t155 =>
 bnd (A.store 24 x6 t155 h) fun hq1 =>
 kr x6 hq1
theorem epauW (x7 x6 : Value) :
  execK prog C L 0 156 [6] cauW [6] [] (fs [(7,x7),(6,x6)]) h K =
   pauW C L x7 x6 h (fun x6 h => K .ret (fs [(6,x6)]) h) := by
 kernel_rfl
noncomputable def p21a (C : CF) (L : Nat) {β : Type} (x0 x1 x2 : Value) (h : H) (kr : Kv1 β) : Option β :=
 pauQ C L x0 x1 x2 h (fun x1 x0 x2 x6 h => pauR C L x1 x0 x2 x6 h (fun x1 x0 x2 x7 x6 h => pabE C L x1 x0 x2 x7 x6 h (fun x7 x6 h => pauW C L x7 x6 h kr)))
theorem ep21a (x0 x1 x2 : Value) :
  execK prog C L 0 156 [6] c21a [6] [] (fs [(0,x0),(1,x1),(2,x2)]) h K =
   p21a C L x0 x1 x2 h (fun x6 h => K .ret (fs [(6,x6)]) h) := by
 rw [execK_seq (a := cauQ) (b := caaY) (by kernel_rfl) (show live [6] caaY [6] [] = [1,0,2,6] by kernel_rfl),epauQ]
 unfold p21a
 exact (congrArg (pauQ C L x0 x1 x2 h) (funext fun x1=>funext fun x0=>funext fun x2=>funext fun x6=>funext fun h => (seqK_n _ _ _).trans (by rw [execK_seq (a := cauR) (b := cabB) (by kernel_rfl) (show live [6] cabB [6] [] = [1,0,2,7,6] by kernel_rfl),epauR]; exact (congrArg (pauR C L x1 x0 x2 x6 h) (funext fun x1=>funext fun x0=>funext fun x2=>funext fun x7=>funext fun x6=>funext fun h => (seqK_n _ _ _).trans (by rw [execK_seq (a := cabE) (b := cauW) (by kernel_rfl) (show live [6] cauW [6] [] = [7,6] by kernel_rfl),epabE]; exact (congrArg (pabE C L x1 x0 x2 x7 x6 h) (funext fun x7=>funext fun x6=>funext fun h => (seqK_n _ _ _).trans (epauW C L h K x7 x6)))))))))
noncomputable def F21 (C : CF) (L : Nat) (x0 x1 x2 : Value) (h : H) : Option (Value × H) :=
 p21a C L x0 x1 x2 h
  (fun x6 h => bnd (resC (A.load true 24 x6 h) (some [])) fun vs => some (packA vs,h))
theorem F21eq (Q : Orc) (n : Nat) (x0 x1 x2 : Value) (h : H) (hQ : Q 21 [x0,x1,x2] = none) : callO prog 0 Q (n + 1) 21 [x0,x1,x2] h = F21 (callO prog 0 Q n) n x0 x1 x2 h := by
 rw [callO_eq hQ (c := c21a) (nt := 156) (RR := [6]) (fr := (fs [(0,x0),(1,x1),(2,x2)])) Tryz.func21 (by kernel_rfl) (by kernel_rfl) (by kernel_rfl) (by kernel_rfl) (by kernel_rfl),ep21a]
 kernel_rfl
noncomputable def c39a : Code := (Tryz.f39.body).getD .skip
noncomputable def cavB : Code := cL c39a
noncomputable def pavB (C : CF) (L : Nat) {β : Type} (x0 : Value) (h : H) (kn : Kv1 β) : Option β :=
 bnd2 (A.box 24 x0 h) fun t1 hq1 =>
 kn t1 hq1
theorem epavB (x0 : Value) :
  execK prog C L 0 94 [2] cavB [1] [] (fs [(0,x0)]) h K =
   pavB C L x0 h (fun x1 h => K .normal (fs [(1,x1)]) h) := by
 kernel_rfl
noncomputable def cadG : Code := cR c39a
noncomputable def cavC : Code := cL cadG
noncomputable def pavC (C : CF) (L : Nat) {β : Type} (x1 : Value) (h : H) (kn : Kv2 β) : Option β :=
 bnd (A.fieldAddr 0 x1) fun t4 =>
 bnd (A.load false 1 t4 h) fun t5 =>
 bnd2 (C 57 [t5] h) fun t6 hq1 =>
 kn t6 x1 hq1
theorem epavC (x1 : Value) :
  execK prog C L 0 94 [2] cavC [3,1] [] (fs [(1,x1)]) h K =
   pavC C L x1 h (fun x3 x1 h => K .normal (fs [(3,x3),(1,x1)]) h) := by
 kernel_rfl
noncomputable def cadR : Code := cR cadG
noncomputable def calF : Code := cL cadR
noncomputable def cavD : Code := cL calF
noncomputable def pavD (C : CF) (L : Nat) {β : Type} (x3 x1 : Value) (h : H) (kn : Kv3 β) : Option β :=
 bnd (A.bin prog .eql 9 x3 (.string ⟨⟨[45]⟩⟩)) fun t8 =>
 toBK t8 fun b =>
 (bif b then
 kn (.bool true) x3 x1 h
 else
 bnd (A.load true 24 x1 h) fun t10 =>
 bnd (A.load true 24 x1 h) fun t11 =>
 bnd2 (C 59 [t11] h) fun t12 hq1 =>
 bif (chk (bnd (A.load true 24 x1 hq1) fun v => some v) t10 && true) then
 bnd2 (C 58 [t10,t12] hq1) fun t13 hq2 =>
 toBK t13 fun bq1 =>
 bnd (A.un prog .not (.bool bq1)) fun t14 =>
 toBK t14 fun bq2 =>
 (bif bq2 then
 kn (.bool true) x3 x1 hq2
 else
 bnd (A.load true 24 x1 hq2) fun t17 =>
 bnd2 (C 60 [t17] hq2) fun t18 hq3 =>
 toBK t18 fun bq3 =>
 bnd (A.un prog .not (.bool bq3)) fun t19 =>
 toBK t19 fun bq4 =>
 (bif bq4 then
 kn (.bool true) x3 x1 hq3
 else
 bnd (A.fieldAddr 2 x1) fun t22 =>
 bnd (A.load false 1 t22 hq3) fun t23 =>
 bnd (A.bin prog .gtr 5 t23 (.int .u8 2)) fun t24 =>
 toBK t24 fun bq5 =>
 kn (.bool bq5) x3 x1 hq3))
 else none)
theorem epavD (x3 x1 : Value) :
  execK prog C L 0 94 [2] cavD [25,3,1] [] (fs [(3,x3),(1,x1)]) h K =
   pavD C L x3 x1 h (fun x25 x3 x1 h => K .normal (fs [(25,x25),(3,x3),(1,x1)]) h) := by
 kernel_rfl
noncomputable def cavE : Code := cR calF
noncomputable def pavE (C : CF) (L : Nat) {β : Type} (x25 x3 x1 : Value) (h : H) (kr : Kv1 β) (kn : Kv2 β) : Option β :=
 condV x25 (
 kr (.bool false) h) (
 kn x3 x1 h)
theorem epavE (x25 x3 x1 : Value) :
  execK prog C L 0 94 [2] cavE [3,1] [] (fs [(25,x25),(3,x3),(1,x1)]) h K =
   pavE C L x25 x3 x1 h (fun x2 h => K .ret (fs [(2,x2)]) h) (fun x3 x1 h => K .normal (fs [(3,x3),(1,x1)]) h) := by
 kernel_rfl
noncomputable def palF (C : CF) (L : Nat) {β : Type} (x3 x1 : Value) (h : H) (kr : Kv1 β) (kn : Kv2 β) : Option β :=
 pavD C L x3 x1 h (fun x25 x3 x1 h => pavE C L x25 x3 x1 h kr kn)
theorem epalF (x3 x1 : Value) :
  execK prog C L 0 94 [2] calF [3,1] [] (fs [(3,x3),(1,x1)]) h K =
   palF C L x3 x1 h (fun x2 h => K .ret (fs [(2,x2)]) h) (fun x3 x1 h => K .normal (fs [(3,x3),(1,x1)]) h) := by
 rw [execK_seq (a := cavD) (b := cavE) (by kernel_rfl) (show live [2] cavE [3,1] [] = [25,3,1] by kernel_rfl),epavD]
 unfold palF
 exact (congrArg (pavD C L x3 x1 h) (funext fun x25=>funext fun x3=>funext fun x1=>funext fun h => (seqK_n _ _ _).trans (epavE C L h K x25 x3 x1)))
noncomputable def caeM : Code := cR cadR
noncomputable def cakQ : Code := cL caeM
noncomputable def carH : Code := cL cakQ
noncomputable def parH (C : CF) (L : Nat) {β : Type} (x3 x1 : Value) (h : H) (kn : Kv3 β) : Option β :=
 bnd (A.fieldAddr 0 x1) fun t26 =>
 bnd (A.load false 1 t26 h) fun t27 =>
 bnd (A.bin prog .eql 5 t27 (.int .u8 1)) fun t28 =>
 toBK t28 fun b =>
 (bif b then
 bnd (A.load true 24 x1 h) fun t30 =>
 bnd2 (C 61 [t30] h) fun t31 hq1 =>
 toBK t31 fun bq1 =>
 bnd (A.un prog .not (.bool bq1)) fun t32 =>
 toBK t32 fun bq2 =>
 (bif bq2 then
 kn (.bool true) x3 x1 hq1
 else
 bnd (A.fieldAddr 0 x1) fun t35 =>
 bnd (A.load false 1 t35 hq1) fun t36 =>
 bnd (A.bin prog .eql 5 t36 (.int .u8 2)) fun t37 =>
 toBK t37 fun bq3 =>
 (bif bq3 then
 bnd (A.fieldAddr 21 x1) fun t39 =>
 bnd (A.load false 1 t39 hq1) fun t40 =>
 bnd (A.bin prog .gtr 5 t40 (.int .u8 5)) fun t41 =>
 toBK t41 fun bq4 =>
 (bif bq4 then
 kn (.bool true) x3 x1 hq1
 else
 bnd (A.fieldAddr 20 x1) fun t43 =>
 bnd (A.load false 1 t43 hq1) fun t44 =>
 toBK t44 fun bq5 =>
 (bif bq5 then
 bnd (A.fieldAddr 21 x1) fun t46 =>
 bnd (A.load false 1 t46 hq1) fun t47 =>
 bnd (A.bin prog .gtr 5 t47 (.int .u8 0)) fun t48 =>
 toBK t48 fun bq6 =>
 kn (.bool bq6) x3 x1 hq1
 else
 kn (.bool false) x3 x1 hq1))
 else
 kn (.bool false) x3 x1 hq1))
 else
 bnd (A.fieldAddr 0 x1) fun t35q1 =>
 bnd (A.load false 1 t35q1 h) fun t36q1 =>
 bnd (A.bin prog .eql 5 t36q1 (.int .u8 2)) fun t37q1 =>
 toBK t37q1 fun bq7 =>
 (bif bq7 then
 bnd (A.fieldAddr 21 x1) fun t39q1 =>
 bnd (A.load false 1 t39q1 h) fun t40q1 =>
 bnd (A.bin prog .gtr 5 t40q1 (.int .u8 5)) fun t41q1 =>
 toBK t41q1 fun bq8 =>
 (bif bq8 then
 kn (.bool true) x3 x1 h
 else
 bnd (A.fieldAddr 20 x1) fun t43q1 =>
 bnd (A.load false 1 t43q1 h) fun t44q1 =>
 toBK t44q1 fun bq9 =>
 (bif bq9 then
 bnd (A.fieldAddr 21 x1) fun t46q1 =>
 bnd (A.load false 1 t46q1 h) fun t47q1 =>
 bnd (A.bin prog .gtr 5 t47q1 (.int .u8 0)) fun t48q1 =>
 toBK t48q1 fun bq10 =>
 kn (.bool bq10) x3 x1 h
 else
 kn (.bool false) x3 x1 h))
 else
 kn (.bool false) x3 x1 h))
theorem eparH (x3 x1 : Value) :
  execK prog C L 0 94 [2] carH [52,3,1] [] (fs [(3,x3),(1,x1)]) h K =
   parH C L x3 x1 h (fun x52 x3 x1 h => K .normal (fs [(52,x52),(3,x3),(1,x1)]) h) := by
 kernel_rfl
noncomputable def carI : Code := cR cakQ
noncomputable def parI (C : CF) (L : Nat) {β : Type} (x52 x3 x1 : Value) (h : H) (kr : Kv1 β) (kn : Kv2 β) : Option β :=
 condV x52 (
 kr (.bool false) h) (
 kn x3 x1 h)
theorem eparI (x52 x3 x1 : Value) :
  execK prog C L 0 94 [2] carI [3,1] [] (fs [(52,x52),(3,x3),(1,x1)]) h K =
   parI C L x52 x3 x1 h (fun x2 h => K .ret (fs [(2,x2)]) h) (fun x3 x1 h => K .normal (fs [(3,x3),(1,x1)]) h) := by
 kernel_rfl
noncomputable def pakQ (C : CF) (L : Nat) {β : Type} (x3 x1 : Value) (h : H) (kr : Kv1 β) (kn : Kv2 β) : Option β :=
 parH C L x3 x1 h (fun x52 x3 x1 h => parI C L x52 x3 x1 h kr kn)
theorem epakQ (x3 x1 : Value) :
  execK prog C L 0 94 [2] cakQ [3,1] [] (fs [(3,x3),(1,x1)]) h K =
   pakQ C L x3 x1 h (fun x2 h => K .ret (fs [(2,x2)]) h) (fun x3 x1 h => K .normal (fs [(3,x3),(1,x1)]) h) := by
 rw [execK_seq (a := carH) (b := carI) (by kernel_rfl) (show live [2] carI [3,1] [] = [52,3,1] by kernel_rfl),eparH]
 unfold pakQ
 exact (congrArg (parH C L x3 x1 h) (funext fun x52=>funext fun x3=>funext fun x1=>funext fun h => (seqK_n _ _ _).trans (eparI C L h K x52 x3 x1)))
noncomputable def cagD : Code := cR caeM
noncomputable def cagY : Code := cL cagD
noncomputable def caoM : Code := cL cagY
noncomputable def paoM (C : CF) (L : Nat) {β : Type} (x3 x1 : Value) (h : H) (kn : Kv3 β) : Option β :=
 bnd (A.fieldAddr 0 x1) fun t53 =>
 bnd (A.load false 1 t53 h) fun t54 =>
 bnd (A.bin prog .eql 5 t54 (.int .u8 3)) fun t55 =>
 toBK t55 fun b =>
 kn (.bool b) x3 x1 h
theorem epaoM (x3 x1 : Value) :
  execK prog C L 0 94 [2] caoM [55,3,1] [] (fs [(3,x3),(1,x1)]) h K =
   paoM C L x3 x1 h (fun x55 x3 x1 h => K .normal (fs [(55,x55),(3,x3),(1,x1)]) h) := by
 kernel_rfl
noncomputable def caiW : Code := cR cagY
noncomputable def calB : Code := cL caiW
noncomputable def carJ : Code := cL calB
noncomputable def parJ (C : CF) (L : Nat) {β : Type} (x55 x3 x1 : Value) (h : H) (kn : Kv2 β) : Option β :=
 bnd (A.fieldAddr 5 x1) fun t56 =>
 bnd (A.load false 1 t56 h) fun t57 =>
 bnd2 (C 62 [t57] h) fun t58 hq1 =>
 toBK t58 fun b =>
 bnd (A.un prog .not (.bool b)) fun t59 =>
 toBK t59 fun bq1 =>
 (bif bq1 then
 kn (.bool true) x1 hq1
 else
 bnd (A.fieldAddr 2 x1) fun t61 =>
 bnd (A.load false 1 t61 hq1) fun t62 =>
 bnd (A.bin prog .eql 5 t62 (.int .u8 0)) fun t63 =>
 toBK t63 fun bq2 =>
 (bif bq2 then
 bnd (A.fieldAddr 1 x1) fun t65 =>
 bnd (A.load false 1 t65 hq1) fun t66 =>
 toBK t66 fun bq3 =>
 (bif bq3 then
 kn (.bool true) x1 hq1
 else
 bnd (A.fieldAddr 4 x1) fun t68 =>
 bnd (A.load false 1 t68 hq1) fun t69 =>
 bnd (A.bin prog .neq 72 t69 (.int .u16 0)) fun t70 =>
 toBK t70 fun bq4 =>
 (bif bq4 then
 kn (.bool true) x1 hq1
 else
 bnd (A.fieldAddr 2 x1) fun t75 =>
 bnd (A.load false 1 t75 hq1) fun t76 =>
 bnd (A.bin prog .gtr 5 t76 (.int .u8 0)) fun t77 =>
 toBK t77 fun bq5 =>
 (bif bq5 then
 bnd (A.fieldAddr 4 x1) fun t79 =>
 bnd (A.load false 1 t79 hq1) fun t80 =>
 bnd (A.bin prog .eql 72 t80 (.int .u16 0)) fun t81 =>
 toBK t81 fun bq6 =>
 kn (.bool bq6) x1 hq1
 else
 kn (.bool false) x1 hq1)))
 else
 bnd (A.fieldAddr 2 x1) fun t75q1 =>
 bnd (A.load false 1 t75q1 hq1) fun t76q1 =>
 bnd (A.bin prog .gtr 5 t76q1 (.int .u8 0)) fun t77q1 =>
 toBK t77q1 fun bq7 =>
 (bif bq7 then
 bnd (A.fieldAddr 4 x1) fun t79q1 =>
 bnd (A.load false 1 t79q1 hq1) fun t80q1 =>
 bnd (A.bin prog .eql 72 t80q1 (.int .u16 0)) fun t81q1 =>
 toBK t81q1 fun bq8 =>
 kn (.bool bq8) x1 hq1
 else
 kn (.bool false) x1 hq1)))
theorem eparJ (x55 x3 x1 : Value) :
  execK prog C L 0 94 [2] carJ [83,1] [] (fs [(55,x55),(3,x3),(1,x1)]) h K =
   parJ C L x55 x3 x1 h (fun x83 x1 h => K .normal (fs [(83,x83),(1,x1)]) h) := by
 kernel_rfl
noncomputable def carK : Code := cR calB
noncomputable def parK (C : CF) (L : Nat) {β : Type} (x83 x1 : Value) (h : H) (kr : Kv1 β) (kn : Kv1 β) : Option β :=
 condV x83 (
 kr (.bool false) h) (
 kn x1 h)
theorem eparK (x83 x1 : Value) :
  execK prog C L 0 94 [2] carK [1] [] (fs [(83,x83),(1,x1)]) h K =
   parK C L x83 x1 h (fun x2 h => K .ret (fs [(2,x2)]) h) (fun x1 h => K .normal (fs [(1,x1)]) h) := by
 kernel_rfl
noncomputable def palB (C : CF) (L : Nat) {β : Type} (x55 x3 x1 : Value) (h : H) (kr : Kv1 β) (kn : Kv1 β) : Option β :=
 parJ C L x55 x3 x1 h (fun x83 x1 h => parK C L x83 x1 h kr kn)
theorem epalB (x55 x3 x1 : Value) :
  execK prog C L 0 94 [2] calB [1] [] (fs [(55,x55),(3,x3),(1,x1)]) h K =
   palB C L x55 x3 x1 h (fun x2 h => K .ret (fs [(2,x2)]) h) (fun x1 h => K .normal (fs [(1,x1)]) h) := by
 rw [execK_seq (a := carJ) (b := carK) (by kernel_rfl) (show live [2] carK [1] [] = [83,1] by kernel_rfl),eparJ]
 unfold palB
 exact (congrArg (parJ C L x55 x3 x1 h) (funext fun x83=>funext fun x1=>funext fun h => (seqK_n _ _ _).trans (eparK C L h K x83 x1)))
noncomputable def cavF : Code := cR caiW
noncomputable def pavF (C : CF) (L : Nat) {β : Type} (x55 x3 x1 : Value) (h : H) (kr : Kv1 β) (kn : Kv1 β) : Option β :=
 bnd2 (C 63 [x3,(.int .u8 105)] h) fun t85 hq1 =>
 toBK t85 fun b =>
 (bif b then
 bnd (A.fieldAddr 4 x1) fun t87 =>
 bnd (A.load false 1 t87 hq1) fun t88 =>
 bnd (A.bin prog .eql 72 t88 (.int .u16 0)) fun t89 =>
 toBK t89 fun bq1 =>
 (bif bq1 then
 kr (.bool false) hq1
 else
 kn x1 hq1)
 else
 kn x1 hq1)
theorem epavF (x55 x3 x1 : Value) :
  execK prog C L 0 94 [2] cavF [1] [] (fs [(55,x55),(3,x3),(1,x1)]) h K =
   pavF C L x55 x3 x1 h (fun x2 h => K .ret (fs [(2,x2)]) h) (fun x1 h => K .normal (fs [(1,x1)]) h) := by
 kernel_rfl
noncomputable def paiW (C : CF) (L : Nat) {β : Type} (x55 x3 x1 : Value) (h : H) (kr : Kv1 β) (kn : Kv1 β) : Option β :=
 condV x55 (palB C L x55 x3 x1 h kr kn) (pavF C L x55 x3 x1 h kr kn)
theorem epaiW (x55 x3 x1 : Value) :
  execK prog C L 0 94 [2] caiW [1] [] (fs [(55,x55),(3,x3),(1,x1)]) h K =
   paiW C L x55 x3 x1 h (fun x2 h => K .ret (fs [(2,x2)]) h) (fun x1 h => K .normal (fs [(1,x1)]) h) := by
 rw [execK_cond (a := calB) (b := cavF) (x := (.tmp 55)) (v := x55) (by kernel_rfl) (by kernel_rfl),epalB,epavF]
 unfold paiW
 rfl
noncomputable def pagY (C : CF) (L : Nat) {β : Type} (x3 x1 : Value) (h : H) (kr : Kv1 β) (kn : Kv1 β) : Option β :=
 paoM C L x3 x1 h (fun x55 x3 x1 h => paiW C L x55 x3 x1 h kr kn)
theorem epagY (x3 x1 : Value) :
  execK prog C L 0 94 [2] cagY [1] [] (fs [(3,x3),(1,x1)]) h K =
   pagY C L x3 x1 h (fun x2 h => K .ret (fs [(2,x2)]) h) (fun x1 h => K .normal (fs [(1,x1)]) h) := by
 rw [execK_seq (a := caoM) (b := caiW) (by kernel_rfl) (show live [2] caiW [1] [] = [55,3,1] by kernel_rfl),epaoM]
 unfold pagY
 exact (congrArg (paoM C L x3 x1 h) (funext fun x55=>funext fun x3=>funext fun x1=>funext fun h => (seqK_n _ _ _).trans (epaiW C L h K x55 x3 x1)))
noncomputable def carL : Code := cR cagD
noncomputable def parL (C : CF) (L : Nat) {β : Type} (x1 : Value) (h : H) (kr : Kv1 β) : Option β :=
 bnd (A.load true 24 x1 h) fun t91 =>
 bnd2 (C 64 [t91] h) fun t92 hq1 =>
 bnd (A.bin prog .leq 3 t92 (.int .i64 268435455)) fun t93 =>
 toBK t93 fun b =>
 kr (.bool b) hq1
theorem eparL (x1 : Value) :
  execK prog C L 0 94 [2] carL [2] [] (fs [(1,x1)]) h K =
   parL C L x1 h (fun x2 h => K .ret (fs [(2,x2)]) h) := by
 kernel_rfl
noncomputable def p39a (C : CF) (L : Nat) {β : Type} (x0 : Value) (h : H) (kr : Kv1 β) : Option β :=
 pavB C L x0 h (fun x1 h => pavC C L x1 h (fun x3 x1 h => palF C L x3 x1 h kr (fun x3 x1 h => pakQ C L x3 x1 h kr (fun x3 x1 h => pagY C L x3 x1 h kr (fun x1 h => parL C L x1 h kr)))))
theorem ep39a (x0 : Value) :
  execK prog C L 0 94 [2] c39a [2] [] (fs [(0,x0)]) h K =
   p39a C L x0 h (fun x2 h => K .ret (fs [(2,x2)]) h) := by
 rw [execK_seq (a := cavB) (b := cadG) (by kernel_rfl) (show live [2] cadG [2] [] = [1] by kernel_rfl),epavB]
 unfold p39a
 exact (congrArg (pavB C L x0 h) (funext fun x1=>funext fun h => (seqK_n _ _ _).trans (by rw [execK_seq (a := cavC) (b := cadR) (by kernel_rfl) (show live [2] cadR [2] [] = [3,1] by kernel_rfl),epavC]; exact (congrArg (pavC C L x1 h) (funext fun x3=>funext fun x1=>funext fun h => (seqK_n _ _ _).trans (by rw [execK_seq (a := calF) (b := caeM) (by kernel_rfl) (show live [2] caeM [2] [] = [3,1] by kernel_rfl),epalF]; exact (congr (congrArg (palF C L x3 x1 h) (funext fun x2=>funext fun h => seqK_r _ _ _)) (funext fun x3=>funext fun x1=>funext fun h => (seqK_n _ _ _).trans (by rw [execK_seq (a := cakQ) (b := cagD) (by kernel_rfl) (show live [2] cagD [2] [] = [3,1] by kernel_rfl),epakQ]; exact (congr (congrArg (pakQ C L x3 x1 h) (funext fun x2=>funext fun h => seqK_r _ _ _)) (funext fun x3=>funext fun x1=>funext fun h => (seqK_n _ _ _).trans (by rw [execK_seq (a := cagY) (b := carL) (by kernel_rfl) (show live [2] carL [2] [] = [1] by kernel_rfl),epagY]; exact (congr (congrArg (pagY C L x3 x1 h) (funext fun x2=>funext fun h => seqK_r _ _ _)) (funext fun x1=>funext fun h => (seqK_n _ _ _).trans (eparL C L h K x1)))))))))))))))
noncomputable def F39 (C : CF) (L : Nat) (x0 : Value) (h : H) : Option (Value × H) :=
 p39a C L x0 h
  (fun x2 h => some (x2,h))
theorem F39eq (Q : Orc) (n : Nat) (x0 : Value) (h : H) (hQ : Q 39 [x0] = none) : callO prog 0 Q (n + 1) 39 [x0] h = F39 (callO prog 0 Q n) n x0 h := by
 rw [callO_eq hQ (c := c39a) (nt := 94) (RR := [2]) (fr := (fs [(0,x0)])) Tryz.func39 (by kernel_rfl) (by kernel_rfl) (by kernel_rfl) (by kernel_rfl) (by kernel_rfl),ep39a]
 kernel_rfl
noncomputable def c40a : Code := (Tryz.f40.body).getD .skip
noncomputable def cavM : Code := cL c40a
noncomputable def pavM (C : CF) (L : Nat) {β : Type} (x0 : Value) (h : H) (kn : Kv1 β) : Option β :=
 bnd2 (A.box 24 x0 h) fun t1 hq1 =>
 kn t1 hq1
theorem epavM (x0 : Value) :
  execK prog C L 0 156 [2] cavM [1] [] (fs [(0,x0)]) h K =
   pavM C L x0 h (fun x1 h => K .normal (fs [(1,x1)]) h) := by
 kernel_rfl
noncomputable def caaM : Code := cR c40a
noncomputable def cavN : Code := cL caaM
noncomputable def pavN (C : CF) (L : Nat) {β : Type} (x1 : Value) (h : H) (kn : Kv2 β) : Option β :=
 kn (.string ⟨⟨[]⟩⟩) x1 h
theorem epavN (x1 : Value) :
  execK prog C L 0 156 [2] cavN [3,1] [] (fs [(1,x1)]) h K =
   pavN C L x1 h (fun x3 x1 h => K .normal (fs [(3,x3),(1,x1)]) h) := by
 kernel_rfl
noncomputable def caaO : Code := cR caaM
noncomputable def caaQ : Code := cL caaO
noncomputable def canC : Code := cL caaQ
noncomputable def panC (C : CF) (L : Nat) {β : Type} (x3 x1 : Value) (h : H) (kn : Kv3 β) : Option β :=
 bnd (A.fieldAddr 0 x1) fun t6 =>
 bnd (A.load false 1 t6 h) fun t7 =>
 kn t7 x3 x1 h
theorem epanC (x3 x1 : Value) :
  execK prog C L 0 156 [2] canC [7,3,1] [] (fs [(3,x3),(1,x1)]) h K =
   panC C L x3 x1 h (fun x7 x3 x1 h => K .normal (fs [(7,x7),(3,x3),(1,x1)]) h) := by
 kernel_rfl
noncomputable def caaU : Code := cR caaQ
noncomputable def caaW : Code := cL caaU
noncomputable def canD : Code := cL caaW
noncomputable def panD (C : CF) (L : Nat) {β : Type} (x7 x3 x1 : Value) (h : H) (kn : Kv4 β) : Option β :=
 bnd (A.bin prog .eql 5 x7 (.int .u8 1)) fun t12 =>
 toBK t12 fun b =>
 kn (.bool b) x7 x3 x1 h
theorem epanD (x7 x3 x1 : Value) :
  execK prog C L 0 156 [2] canD [11,7,3,1] [(0,[3])] (fs [(7,x7),(3,x3),(1,x1)]) h K =
   panD C L x7 x3 x1 h (fun x11 x7 x3 x1 h => K .normal (fs [(11,x11),(7,x7),(3,x3),(1,x1)]) h) := by
 kernel_rfl
noncomputable def cabD : Code := cR caaW
noncomputable def caiC : Code := cL cabD
noncomputable def carP : Code := cL caiC
noncomputable def parP (C : CF) (L : Nat) {β : Type} (x11 x7 x3 x1 : Value) (h : H) (kn : Kv2 β) : Option β :=
 bnd (A.fieldAddr 16 x1) fun t13 =>
 bnd (A.load false 1 t13 h) fun t14 =>
 toBK t14 fun b =>
 bnd2 (C 65 [(.bool b),(.int .i64 128)] h) fun t15 hq1 =>
 bnd (A.fieldAddr 17 x1) fun t16 =>
 bnd (A.load false 1 t16 hq1) fun t17 =>
 toBK t17 fun bq1 =>
 bif (chk (bnd (A.load false 1 t16 h) fun v => some v) (.bool bq1) && true) then
 bnd2 (C 65 [(.bool bq1),(.int .i64 64)] hq1) fun t18 hq2 =>
 bnd (A.bin prog .add 3 t15 t18) fun t19 =>
 bnd (A.fieldAddr 12 x1) fun t20 =>
 bnd (A.fieldAddr 3 t20) fun t21 =>
 bnd (A.load false 1 t21 hq2) fun t22 =>
 toBK t22 fun bq2 =>
 bif (chk (bnd (A.load false 1 t21 hq1) fun v => some v) (.bool bq2) && (chk (bnd (A.load false 1 t21 h) fun v => some v) (.bool bq2) && true)) then
 bnd2 (C 65 [(.bool bq2),(.int .i64 32)] hq2) fun t23 hq3 =>
 bnd (A.bin prog .add 3 t19 t23) fun t24 =>
 bnd (A.fieldAddr 12 x1) fun t25 =>
 bnd (A.fieldAddr 2 t25) fun t26 =>
 bnd (A.load false 1 t26 hq3) fun t27 =>
 bif (chk (bnd (A.load false 1 t26 hq2) fun v => some v) t27 && (chk (bnd (A.load false 1 t26 hq1) fun v => some v) t27 && (chk (bnd (A.load false 1 t26 h) fun v => some v) t27 && true))) then
 bnd (A.conv prog 5 3 t27) fun t28 =>
 bnd (A.bin prog .mul 3 (.int .i64 8) t28) fun t29 =>
 bnd (A.bin prog .add 3 t24 t29) fun t30 =>
 bnd (A.fieldAddr 11 x1) fun t31 =>
 bnd (A.load false 1 t31 hq3) fun t32 =>
 toBK t32 fun bq3 =>
 bif (chk (bnd (A.load false 1 t31 hq2) fun v => some v) (.bool bq3) && (chk (bnd (A.load false 1 t31 hq1) fun v => some v) (.bool bq3) && (chk (bnd (A.load false 1 t31 h) fun v => some v) (.bool bq3) && true))) then
 bnd2 (C 65 [(.bool bq3),(.int .i64 4)] hq3) fun t33 hq4 =>
 bif (chk (bnd (A.load false 1 t26 hq4) fun v => some v) t27 && true) then
 bnd (A.bin prog .add 3 t30 t33) fun t34 =>
 bnd (A.fieldAddr 8 x1) fun t35 =>
 bnd (A.load false 1 t35 hq4) fun t36 =>
 toBK t36 fun bq4 =>
 bif (chk (bnd (A.load false 1 t35 hq3) fun v => some v) (.bool bq4) && (chk (bnd (A.load false 1 t35 hq2) fun v => some v) (.bool bq4) && (chk (bnd (A.load false 1 t35 hq1) fun v => some v) (.bool bq4) && (chk (bnd (A.load false 1 t35 h) fun v => some v) (.bool bq4) && true)))) then
 bnd2 (C 65 [(.bool bq4),(.int .i64 2)] hq4) fun t37 hq5 =>
 bif (chk (bnd (A.load false 1 t26 hq5) fun v => some v) t27 && true) then
 bnd (A.bin prog .add 3 t34 t37) fun t38 =>
 kn t38 x1 hq5
 else none
 else none
 else none
 else none
 else none
 else none
 else none
theorem eparP (x11 x7 x3 x1 : Value) :
  execK prog C L 0 156 [2] carP [4,1] [(0,[3])] (fs [(11,x11),(7,x7),(3,x3),(1,x1)]) h K =
   parP C L x11 x7 x3 x1 h (fun x4 x1 h => K .normal (fs [(4,x4),(1,x1)]) h) := by
 kernel_rfl
noncomputable def cakD : Code := cR caiC
noncomputable def carQ : Code := cL cakD
noncomputable def parQ (C : CF) (L : Nat) {β : Type} (x4 x1 : Value) (h : H) (kn : Kv2 β) : Option β :=
 bnd2 (C 66 [(.string ⟨⟨[77,81,84,84]⟩⟩)] h) fun t39 hq1 =>
 bnd2 (C 42 [(.int .i64 4)] hq1) fun t40 hq2 =>
 bnd (A.bin prog .add 9 t39 t40) fun t41 =>
 bnd2 (C 42 [x4] hq2) fun t43 hq3 =>
 bnd (A.bin prog .add 9 t41 t43) fun t44 =>
 bnd (A.fieldAddr 9 x1) fun t45 =>
 bnd (A.load false 1 t45 hq3) fun t46 =>
 bif (chk (bnd (A.load false 1 t45 hq2) fun v => some v) t46 && (chk (bnd (A.load false 1 t45 hq1) fun v => some v) t46 && (chk (bnd (A.load false 1 t45 h) fun v => some v) t46 && true))) then
 bnd2 (C 67 [t46] hq3) fun t47 hq4 =>
 bnd (A.bin prog .add 9 t44 t47) fun t48 =>
 bnd (A.fieldAddr 10 x1) fun t49 =>
 bnd (A.load false 1 t49 hq4) fun t50 =>
 bif (chk (bnd (A.load false 1 t49 hq3) fun v => some v) t50 && (chk (bnd (A.load false 1 t49 hq2) fun v => some v) t50 && (chk (bnd (A.load false 1 t49 hq1) fun v => some v) t50 && (chk (bnd (A.load false 1 t49 h) fun v => some v) t50 && true)))) then
 bnd2 (C 66 [t50] hq4) fun t51 hq5 =>
 bnd (A.bin prog .add 9 t48 t51) fun t52 =>
 kn x1 t52 hq5
 else none
 else none
theorem eparQ (x4 x1 : Value) :
  execK prog C L 0 156 [2] carQ [1,3] [(0,[3])] (fs [(4,x4),(1,x1)]) h K =
   parQ C L x4 x1 h (fun x1 x3 h => K .normal (fs [(1,x1),(3,x3)]) h) := by
 kernel_rfl
noncomputable def camE : Code := cR cakD
noncomputable def carR : Code := cL camE
noncomputable def parR (C : CF) (L : Nat) {β : Type} (x1 x3 : Value) (h : H) (kn : Kv2 β) : Option β :=
 bnd (A.fieldAddr 11 x1) fun t53 =>
 bnd (A.load false 1 t53 h) fun t54 =>
 toBK t54 fun b =>
 (bif b then
 bnd (A.fieldAddr 12 x1) fun t56 =>
 bnd (A.fieldAddr 0 t56) fun t57 =>
 bnd (A.load false 1 t57 h) fun t58 =>
 bnd2 (C 66 [t58] h) fun t59 hq1 =>
 bnd (A.bin prog .add 9 x3 t59) fun t60 =>
 bnd (A.fieldAddr 12 x1) fun t61 =>
 bnd (A.fieldAddr 1 t61) fun t62 =>
 bnd (A.load false 1 t62 hq1) fun t63 =>
 bif (chk (bnd (A.load false 1 t62 h) fun v => some v) t63 && true) then
 bnd2 (C 66 [t63] hq1) fun t64 hq2 =>
 bnd (A.bin prog .add 9 t60 t64) fun t65 =>
 kn x1 t65 hq2
 else none
 else
 kn x1 x3 h)
theorem eparR (x1 x3 : Value) :
  execK prog C L 0 156 [2] carR [1,3] [(0,[3])] (fs [(1,x1),(3,x3)]) h K =
   parR C L x1 x3 h (fun x1 x3 h => K .normal (fs [(1,x1),(3,x3)]) h) := by
 kernel_rfl
noncomputable def carS : Code := cR camE
noncomputable def parS (C : CF) (L : Nat) {β : Type} (x1 x3 : Value) (h : H) (kn : Kv1 β) : Option β :=
 bnd (A.fieldAddr 16 x1) fun t66 =>
 bnd (A.load false 1 t66 h) fun t67 =>
 toBK t67 fun b =>
 (bif b then
 bnd (A.fieldAddr 18 x1) fun t69 =>
 bnd (A.load false 1 t69 h) fun t70 =>
 bnd2 (C 66 [t70] h) fun t71 hq1 =>
 bnd (A.bin prog .add 9 x3 t71) fun t72 =>
 bnd (A.fieldAddr 17 x1) fun t73 =>
 bnd (A.load false 1 t73 hq1) fun t74 =>
 toBK t74 fun bq1 =>
 (bif bq1 then
 bnd (A.fieldAddr 19 x1) fun t76 =>
 bnd (A.load false 1 t76 hq1) fun t77 =>
 bnd2 (C 66 [t77] hq1) fun t78 hq2 =>
 bnd (A.bin prog .add 9 t72 t78) fun t79 =>
 kn t79 hq2
 else
 kn t72 hq1)
 else
 bnd (A.fieldAddr 17 x1) fun t73q1 =>
 bnd (A.load false 1 t73q1 h) fun t74q1 =>
 toBK t74q1 fun bq2 =>
 (bif bq2 then
 bnd (A.fieldAddr 19 x1) fun t76q1 =>
 bnd (A.load false 1 t76q1 h) fun t77q1 =>
 bnd2 (C 66 [t77q1] h) fun t78q1 hq3 =>
 bnd (A.bin prog .add 9 x3 t78q1) fun t79q1 =>
 kn t79q1 hq3
 else
 kn x3 h))
theorem eparS (x1 x3 : Value) :
  execK prog C L 0 156 [2] carS [3] [(0,[3])] (fs [(1,x1),(3,x3)]) h K =
   parS C L x1 x3 h (fun x3 h => K .normal (fs [(3,x3)]) h) := by
 kernel_rfl
noncomputable def paiC (C : CF) (L : Nat) {β : Type} (x11 x7 x3 x1 : Value) (h : H) (kn : Kv1 β) : Option β :=
 parP C L x11 x7 x3 x1 h (fun x4 x1 h => parQ C L x4 x1 h (fun x1 x3 h => parR C L x1 x3 h (fun x1 x3 h => parS C L x1 x3 h kn)))
theorem epaiC (x11 x7 x3 x1 : Value) :
  execK prog C L 0 156 [2] caiC [3] [(0,[3])] (fs [(11,x11),(7,x7),(3,x3),(1,x1)]) h K =
   paiC C L x11 x7 x3 x1 h (fun x3 h => K .normal (fs [(3,x3)]) h) := by
 rw [execK_seq (a := carP) (b := cakD) (by kernel_rfl) (show live [2] cakD [3] [(0,[3])] = [4,1] by kernel_rfl),eparP]
 unfold paiC
 exact (congrArg (parP C L x11 x7 x3 x1 h) (funext fun x4=>funext fun x1=>funext fun h => (seqK_n _ _ _).trans (by rw [execK_seq (a := carQ) (b := camE) (by kernel_rfl) (show live [2] camE [3] [(0,[3])] = [1,3] by kernel_rfl),eparQ]; exact (congrArg (parQ C L x4 x1 h) (funext fun x1=>funext fun x3=>funext fun h => (seqK_n _ _ _).trans (by rw [execK_seq (a := carR) (b := carS) (by kernel_rfl) (show live [2] carS [3] [(0,[3])] = [1,3] by kernel_rfl),eparR]; exact (congrArg (parR C L x1 x3 h) (funext fun x1=>funext fun x3=>funext fun h => (seqK_n _ _ _).trans (eparS C L h K x1 x3)))))))))
noncomputable def cabP : Code := cR cabD
noncomputable def canG : Code := cL cabP
noncomputable def panG (C : CF) (L : Nat) {β : Type} (x11 x7 x3 x1 : Value) (h : H) (kn : Kv4 β) : Option β :=
 bnd (A.bin prog .eql 5 x7 (.int .u8 2)) fun t81 =>
 toBK t81 fun b =>
 kn (.bool b) x7 x3 x1 h
theorem epanG (x11 x7 x3 x1 : Value) :
  execK prog C L 0 156 [2] canG [80,7,3,1] [(0,[3])] (fs [(11,x11),(7,x7),(3,x3),(1,x1)]) h K =
   panG C L x11 x7 x3 x1 h (fun x80 x7 x3 x1 h => K .normal (fs [(80,x80),(7,x7),(3,x3),(1,x1)]) h) := by
 kernel_rfl
noncomputable def cabX : Code := cR cabP
noncomputable def cayO : Code := cL cabX
noncomputable def payO (C : CF) (L : Nat) {β : Type} (x80 x7 x3 x1 : Value) (h : H) (kn : Kv1 β) : Option β :=
 bnd (A.fieldAddr 20 x1) fun t82 =>
 bnd (A.load false 1 t82 h) fun t83 =>
 toBK t83 fun b =>
 bnd2 (C 65 [(.bool b),(.int .i64 1)] h) fun t84 hq1 =>
 bnd2 (C 42 [t84] hq1) fun t85 hq2 =>
 bnd (A.fieldAddr 21 x1) fun t86 =>
 bnd (A.load false 1 t86 hq2) fun t87 =>
 bif (chk (bnd (A.load false 1 t86 hq1) fun v => some v) t87 && (chk (bnd (A.load false 1 t86 h) fun v => some v) t87 && true)) then
 bnd (A.conv prog 5 3 t87) fun t88 =>
 bnd2 (C 42 [t88] hq2) fun t89 hq3 =>
 bnd (A.bin prog .add 9 t85 t89) fun t90 =>
 kn t90 hq3
 else none
theorem epayO (x80 x7 x3 x1 : Value) :
  execK prog C L 0 156 [2] cayO [3] [(0,[3])] (fs [(80,x80),(7,x7),(3,x3),(1,x1)]) h K =
   payO C L x80 x7 x3 x1 h (fun x3 h => K .normal (fs [(3,x3)]) h) := by
 kernel_rfl
noncomputable def cacD : Code := cR cabX
noncomputable def canH : Code := cL cacD
noncomputable def panH (C : CF) (L : Nat) {β : Type} (x80 x7 x3 x1 : Value) (h : H) (kn : Kv4 β) : Option β :=
 bnd (A.bin prog .eql 5 x7 (.int .u8 3)) fun t92 =>
 toBK t92 fun b =>
 kn (.bool b) x7 x3 x1 h
theorem epanH (x80 x7 x3 x1 : Value) :
  execK prog C L 0 156 [2] canH [91,7,3,1] [(0,[3])] (fs [(80,x80),(7,x7),(3,x3),(1,x1)]) h K =
   panH C L x80 x7 x3 x1 h (fun x91 x7 x3 x1 h => K .normal (fs [(91,x91),(7,x7),(3,x3),(1,x1)]) h) := by
 kernel_rfl
noncomputable def cacR : Code := cR cacD
noncomputable def cavO : Code := cL cacR
noncomputable def pavO (C : CF) (L : Nat) {β : Type} (x91 x7 x3 x1 : Value) (h : H) (kn : Kv1 β) : Option β :=
 bnd (A.fieldAddr 5 x1) fun t93 =>
 bnd (A.load false 1 t93 h) fun t94 =>
 bnd2 (C 66 [t94] h) fun t95 hq1 =>
 bnd (A.fieldAddr 2 x1) fun t96 =>
 bnd (A.load false 1 t96 hq1) fun t97 =>
 bnd (A.bin prog .gtr 5 t97 (.int .u8 0)) fun t98 =>
 toBK t98 fun b =>
 (bif b then
 bnd (A.fieldAddr 4 x1) fun t100 =>
 bnd (A.load false 1 t100 hq1) fun t101 =>
 bnd2 (C 67 [t101] hq1) fun t102 hq2 =>
 bnd (A.bin prog .add 9 t95 t102) fun t103 =>
 bnd (A.fieldAddr 6 x1) fun t105 =>
 bnd (A.load false 1 t105 hq2) fun t106 =>
 bnd (A.bin prog .add 9 t103 t106) fun t107 =>
 kn t107 hq2
 else
 bnd (A.fieldAddr 6 x1) fun t105q1 =>
 bnd (A.load false 1 t105q1 hq1) fun t106q1 =>
 bnd (A.bin prog .add 9 t95 t106q1) fun t107q1 =>
 kn t107q1 hq1)
theorem epavO (x91 x7 x3 x1 : Value) :
  execK prog C L 0 156 [2] cavO [3] [(0,[3])] (fs [(91,x91),(7,x7),(3,x3),(1,x1)]) h K =
   pavO C L x91 x7 x3 x1 h (fun x3 h => K .normal (fs [(3,x3)]) h) := by
 kernel_rfl
noncomputable def cadA : Code := cR cacR
noncomputable def canR : Code := cL cadA
noncomputable def panR (C : CF) (L : Nat) {β : Type} (x91 x7 x3 x1 : Value) (h : H) (kn : Kv4 β) : Option β :=
 bnd (A.bin prog .eql 5 x7 (.int .u8 8)) fun t109 =>
 toBK t109 fun b =>
 (bif b then
 kn (.bool b) x7 x3 x1 h
 else
 bnd (A.bin prog .eql 5 x7 (.int .u8 10)) fun t110 =>
 toBK t110 fun bq1 =>
 kn (.bool bq1) x7 x3 x1 h)
theorem epanR (x91 x7 x3 x1 : Value) :
  execK prog C L 0 156 [2] canR [108,7,3,1] [(0,[3])] (fs [(91,x91),(7,x7),(3,x3),(1,x1)]) h K =
   panR C L x91 x7 x3 x1 h (fun x108 x7 x3 x1 h => K .normal (fs [(108,x108),(7,x7),(3,x3),(1,x1)]) h) := by
 kernel_rfl
noncomputable def cadN : Code := cR cadA
noncomputable def cahB : Code := cL cadN
noncomputable def carM : Code := cL cahB
noncomputable def parM (C : CF) (L : Nat) {β : Type} (x108 x7 x3 x1 : Value) (h : H) (kn : Kv2 β) : Option β :=
 bnd (A.fieldAddr 4 x1) fun t111 =>
 bnd (A.load false 1 t111 h) fun t112 =>
 bnd2 (C 67 [t112] h) fun t113 hq1 =>
 kn x1 t113 hq1
theorem eparM (x108 x7 x3 x1 : Value) :
  execK prog C L 0 156 [2] carM [1,3] [(0,[3])] (fs [(108,x108),(7,x7),(3,x3),(1,x1)]) h K =
   parM C L x108 x7 x3 x1 h (fun x1 x3 h => K .normal (fs [(1,x1),(3,x3)]) h) := by
 kernel_rfl
noncomputable def caiN : Code := cR cahB
noncomputable def carN : Code := cL caiN
noncomputable def parN (C : CF) (L : Nat) {β : Type} (x1 x3 : Value) (h : H) (kn : Kv3 β) : Option β :=
 kn (.int .i64 0) x1 x3 h
theorem eparN (x1 x3 : Value) :
  execK prog C L 0 156 [2] carN [5,1,3] [(0,[3])] (fs [(1,x1),(3,x3)]) h K =
   parN C L x1 x3 h (fun x5 x1 x3 h => K .normal (fs [(5,x5),(1,x1),(3,x3)]) h) := by
 kernel_rfl
noncomputable def cajP : Code := cR caiN
noncomputable def cakV : Code := cL cajP
noncomputable def caoN : Code := cL cakV
noncomputable def paoN (C : CF) (L : Nat) {β : Type} (x5 x1 x3 : Value) (h : H) (kn : Kv3 β) (kx1 : Kv1 β) : Option β :=
 bnd (A.fieldAddr 22 x1) fun t115 =>
 bnd (A.load false 1 t115 h) fun t116 =>
 bnd (A.lenS t116) fun t117 =>
 bnd (A.bin prog .lss 3 x5 t117) fun t118 =>
 toBK t118 fun b =>
 (bif b then
 bnd (A.fieldAddr 22 x1) fun t122 =>
 bnd (A.load false 1 t122 h) fun t123 =>
 bnd (A.idxS 2 t123 x5) fun t125 =>
 bnd (A.fieldAddr 0 t125) fun t126 =>
 bnd (A.load false 1 t126 h) fun t127 =>
 bnd2 (C 66 [t127] h) fun t128 hq1 =>
 bnd (A.bin prog .add 9 x3 t128) fun t129 =>
 bnd (A.fieldAddr 0 x1) fun t130 =>
 bnd (A.load false 1 t130 hq1) fun t131 =>
 bnd (A.bin prog .eql 5 t131 (.int .u8 8)) fun t132 =>
 toBK t132 fun bq1 =>
 (bif bq1 then
 bnd (A.fieldAddr 22 x1) fun t134 =>
 bnd (A.load false 1 t134 hq1) fun t135 =>
 bnd (A.idxS 2 t135 x5) fun t137 =>
 bnd (A.fieldAddr 1 t137) fun t138 =>
 bnd (A.load false 1 t138 hq1) fun t139 =>
 bnd (A.conv prog 5 3 t139) fun t140 =>
 bnd2 (C 42 [t140] hq1) fun t141 hq2 =>
 bnd (A.bin prog .add 9 t129 t141) fun t142 =>
 bnd (A.bin prog .add 3 x5 (.int .i64 1)) fun t120 =>
 kn t120 x1 t142 hq2
 else
 bnd (A.bin prog .add 3 x5 (.int .i64 1)) fun t120q1 =>
 kn t120q1 x1 t129 hq1)
 else
 kx1 x3 h)
theorem epaoN (x5 x1 x3 : Value) :
  execK prog C L 0 156 [2] caoN [5,1,3] [(1,[3]),(0,[3])] (fs [(5,x5),(1,x1),(3,x3)]) h K =
   paoN C L x5 x1 x3 h (fun x5 x1 x3 h => K .normal (fs [(5,x5),(1,x1),(3,x3)]) h) (fun x3 h => K (.exit 1) (fs [(3,x3)]) h) := by
 kernel_rfl
noncomputable def parO (C : CF) (L : Nat) {β : Type} (kx1 : Kv1 β) : Nat → Kv3 β
 | 0,_,_,_,_ => none
 | n + 1,x5,x1,x3,h => paoN C L x5 x1 x3 h (fun x5 x1 x3 h => parO C L kx1 n x5 x1 x3 h) kx1
theorem eparO (C : CF) (L : Nat) {β : Type} (K : Ex → T Value → Kv0 β) : ∀ (n : Nat) (x5 x1 x3 : Value) (h : H),
  loopK (fun fr h K => execK prog C L 0 156 [2] caoN [5,1,3] [(1,[3]),(0,[3])] fr h K) n (fs [(5,x5),(1,x1),(3,x3)]) h K =
   parO C L (fun x3 h => K (.exit 1) (fs [(3,x3)]) h) n x5 x1 x3 h := by
 intro n
 induction n with
 | zero => intros; rfl
 | succ n ih =>
  intros
  simp only [loopK]
  rw [epaoN]
  simp only [seqK_n,seqK_x,seqK_r,ih]
  rfl
noncomputable def pakV (C : CF) (L : Nat) {β : Type} (x5 x1 x3 : Value) (h : H) (kx1 : Kv1 β) : Option β :=
 parO C L kx1 L x5 x1 x3 h
theorem epakV (x5 x1 x3 : Value) :
  execK prog C L 0 156 [2] cakV [3] [(1,[3]),(0,[3])] (fs [(5,x5),(1,x1),(3,x3)]) h K =
   pakV C L x5 x1 x3 h (fun x3 h => K (.exit 1) (fs [(3,x3)]) h) := by
 rw [execK_loop (b := caoN) (fr1 := (fs [(5,x5),(1,x1),(3,x3)])) (by kernel_rfl) (show live [2] caoN [] [(1,[3]),(0,[3])] = [5,1,3] by kernel_rfl) (by kernel_rfl),eparO]
 unfold pakV
 rfl
noncomputable def pajP (C : CF) (L : Nat) {β : Type} (x5 x1 x3 : Value) (h : H) (kn : Kv1 β) : Option β :=
 pakV C L x5 x1 x3 h kn
theorem epajP (x5 x1 x3 : Value) :
  execK prog C L 0 156 [2] cajP [3] [(0,[3])] (fs [(5,x5),(1,x1),(3,x3)]) h K =
   pajP C L x5 x1 x3 h (fun x3 h => K .normal (fs [(3,x3)]) h) := by
 rw [execK_block (b := cakV) (id := 1) (by kernel_rfl),epakV]
 unfold pajP
 rfl
noncomputable def pahB (C : CF) (L : Nat) {β : Type} (x108 x7 x3 x1 : Value) (h : H) (kn : Kv1 β) : Option β :=
 parM C L x108 x7 x3 x1 h (fun x1 x3 h => parN C L x1 x3 h (fun x5 x1 x3 h => pajP C L x5 x1 x3 h kn))
theorem epahB (x108 x7 x3 x1 : Value) :
  execK prog C L 0 156 [2] cahB [3] [(0,[3])] (fs [(108,x108),(7,x7),(3,x3),(1,x1)]) h K =
   pahB C L x108 x7 x3 x1 h (fun x3 h => K .normal (fs [(3,x3)]) h) := by
 rw [execK_seq (a := carM) (b := caiN) (by kernel_rfl) (show live [2] caiN [3] [(0,[3])] = [1,3] by kernel_rfl),eparM]
 unfold pahB
 exact (congrArg (parM C L x108 x7 x3 x1 h) (funext fun x1=>funext fun x3=>funext fun h => (seqK_n _ _ _).trans (by rw [execK_seq (a := carN) (b := cajP) (by kernel_rfl) (show live [2] cajP [3] [(0,[3])] = [5,1,3] by kernel_rfl),eparN]; exact (congrArg (parN C L x1 x3 h) (funext fun x5=>funext fun x1=>funext fun x3=>funext fun h => (seqK_n _ _ _).trans (epajP C L h K x5 x1 x3))))))
noncomputable def cahF : Code := cR cadN
noncomputable def capG : Code := cL cahF
noncomputable def papG (C : CF) (L : Nat) {β : Type} (x108 x7 x3 x1 : Value) (h : H) (kn : Kv4 β) : Option β :=
 bnd (A.bin prog .eql 5 x7 (.int .u8 9)) fun t144 =>
 toBK t144 fun b =>
 kn (.bool b) x7 x3 x1 h
theorem epapG (x108 x7 x3 x1 : Value) :
  execK prog C L 0 156 [2] capG [143,7,3,1] [(0,[3])] (fs [(108,x108),(7,x7),(3,x3),(1,x1)]) h K =
   papG C L x108 x7 x3 x1 h (fun x143 x7 x3 x1 h => K .normal (fs [(143,x143),(7,x7),(3,x3),(1,x1)]) h) := by
 kernel_rfl
noncomputable def caiX : Code := cR cahF
noncomputable def cayM : Code := cL caiX
noncomputable def payM (C : CF) (L : Nat) {β : Type} (x143 x7 x3 x1 : Value) (h : H) (kn : Kv1 β) : Option β :=
 bnd (A.fieldAddr 4 x1) fun t145 =>
 bnd (A.load false 1 t145 h) fun t146 =>
 bnd2 (C 67 [t146] h) fun t147 hq1 =>
 bnd (A.fieldAddr 23 x1) fun t148 =>
 bnd (A.load false 1 t148 hq1) fun t149 =>
 bif (chk (bnd (A.load false 1 t148 h) fun v => some v) t149 && true) then
 bnd (A.bin prog .add 9 t147 t149) fun t150 =>
 kn t150 hq1
 else none
theorem epayM (x143 x7 x3 x1 : Value) :
  execK prog C L 0 156 [2] cayM [3] [(0,[3])] (fs [(143,x143),(7,x7),(3,x3),(1,x1)]) h K =
   payM C L x143 x7 x3 x1 h (fun x3 h => K .normal (fs [(3,x3)]) h) := by
 kernel_rfl
noncomputable def cakO : Code := cR caiX
noncomputable def capH : Code := cL cakO
noncomputable def papH (C : CF) (L : Nat) {β : Type} (x143 x7 x3 x1 : Value) (h : H) (kn : Kv3 β) : Option β :=
 bnd (A.bin prog .eql 5 x7 (.int .u8 12)) fun t152 =>
 toBK t152 fun b =>
 (bif b then
 kn (.bool b) x3 x1 h
 else
 bnd (A.bin prog .eql 5 x7 (.int .u8 13)) fun t153 =>
 toBK t153 fun bq1 =>
 (bif bq1 then
 kn (.bool bq1) x3 x1 h
 else
 bnd (A.bin prog .eql 5 x7 (.int .u8 14)) fun t154 =>
 toBK t154 fun bq2 =>
 kn (.bool bq2) x3 x1 h))
theorem epapH (x143 x7 x3 x1 : Value) :
  execK prog C L 0 156 [2] capH [151,3,1] [(0,[3])] (fs [(143,x143),(7,x7),(3,x3),(1,x1)]) h K =
   papH C L x143 x7 x3 x1 h (fun x151 x3 x1 h => K .normal (fs [(151,x151),(3,x3),(1,x1)]) h) := by
 kernel_rfl
noncomputable def capI : Code := cR cakO
noncomputable def papI (C : CF) (L : Nat) {β : Type} (x151 x3 x1 : Value) (h : H) (kn : Kv1 β) : Option β :=
 condV x151 (
 kn x3 h) (
 bnd (A.fieldAddr 4 x1) fun t8 =>
 bnd (A.load false 1 t8 h) fun t9 =>
 bnd2 (C 67 [t9] h) fun t10 hq1 =>
 kn t10 hq1)
theorem epapI (x151 x3 x1 : Value) :
  execK prog C L 0 156 [2] capI [3] [(0,[3])] (fs [(151,x151),(3,x3),(1,x1)]) h K =
   papI C L x151 x3 x1 h (fun x3 h => K .normal (fs [(3,x3)]) h) := by
 kernel_rfl
noncomputable def pakO (C : CF) (L : Nat) {β : Type} (x143 x7 x3 x1 : Value) (h : H) (kn : Kv1 β) : Option β :=
 papH C L x143 x7 x3 x1 h (fun x151 x3 x1 h => papI C L x151 x3 x1 h kn)
theorem epakO (x143 x7 x3 x1 : Value) :
  execK prog C L 0 156 [2] cakO [3] [(0,[3])] (fs [(143,x143),(7,x7),(3,x3),(1,x1)]) h K =
   pakO C L x143 x7 x3 x1 h (fun x3 h => K .normal (fs [(3,x3)]) h) := by
 rw [execK_seq (a := capH) (b := capI) (by kernel_rfl) (show live [2] capI [3] [(0,[3])] = [151,3,1] by kernel_rfl),epapH]
 unfold pakO
 exact (congrArg (papH C L x143 x7 x3 x1 h) (funext fun x151=>funext fun x3=>funext fun x1=>funext fun h => (seqK_n _ _ _).trans (epapI C L h K x151 x3 x1)))
noncomputable def paiX (C : CF) (L : Nat) {β : Type} (x143 x7 x3 x1 : Value) (h : H) (kn : Kv1 β) : Option β :=
 condV x143 (payM C L x143 x7 x3 x1 h kn) (pakO C L x143 x7 x3 x1 h kn)
theorem epaiX (x143 x7 x3 x1 : Value) :
  execK prog C L 0 156 [2] caiX [3] [(0,[3])] (fs [(143,x143),(7,x7),(3,x3),(1,x1)]) h K =
   paiX C L x143 x7 x3 x1 h (fun x3 h => K .normal (fs [(3,x3)]) h) := by
 rw [execK_cond (a := cayM) (b := cakO) (x := (.tmp 143)) (v := x143) (by kernel_rfl) (by kernel_rfl),epayM,epakO]
 unfold paiX
 rfl
noncomputable def pahF (C : CF) (L : Nat) {β : Type} (x108 x7 x3 x1 : Value) (h : H) (kn : Kv1 β) : Option β :=
 papG C L x108 x7 x3 x1 h (fun x143 x7 x3 x1 h => paiX C L x143 x7 x3 x1 h kn)
theorem epahF (x108 x7 x3 x1 : Value) :
  execK prog C L 0 156 [2] cahF [3] [(0,[3])] (fs [(108,x108),(7,x7),(3,x3),(1,x1)]) h K =
   pahF C L x108 x7 x3 x1 h (fun x3 h => K .normal (fs [(3,x3)]) h) := by
 rw [execK_seq (a := capG) (b := caiX) (by kernel_rfl) (show live [2] caiX [3] [(0,[3])] = [143,7,3,1] by kernel_rfl),epapG]
 unfold pahF
 exact (congrArg (papG C L x108 x7 x3 x1 h) (funext fun x143=>funext fun x7=>funext fun x3=>funext fun x1=>funext fun h => (seqK_n _ _ _).trans (epaiX C L h K x143 x7 x3 x1)))
noncomputable def padN (C : CF) (L : Nat) {β : Type} (x108 x7 x3 x1 : Value) (h : H) (kn : Kv1 β) : Option β :=
 condV x108 (pahB C L x108 x7 x3 x1 h kn) (pahF C L x108 x7 x3 x1 h kn)
theorem epadN (x108 x7 x3 x1 : Value) :
  execK prog C L 0 156 [2] cadN [3] [(0,[3])] (fs [(108,x108),(7,x7),(3,x3),(1,x1)]) h K =
   padN C L x108 x7 x3 x1 h (fun x3 h => K .normal (fs [(3,x3)]) h) := by
 rw [execK_cond (a := cahB) (b := cahF) (x := (.tmp 108)) (v := x108) (by kernel_rfl) (by kernel_rfl),epahB,epahF]
 unfold padN
 rfl
noncomputable def padA (C : CF) (L : Nat) {β : Type} (x91 x7 x3 x1 : Value) (h : H) (kn : Kv1 β) : Option β :=
 panR C L x91 x7 x3 x1 h (fun x108 x7 x3 x1 h => padN C L x108 x7 x3 x1 h kn)
theorem epadA (x91 x7 x3 x1 : Value) :
  execK prog C L 0 156 [2] cadA [3] [(0,[3])] (fs [(91,x91),(7,x7),(3,x3),(1,x1)]) h K =
   padA C L x91 x7 x3 x1 h (fun x3 h => K .normal (fs [(3,x3)]) h) := by
 rw [execK_seq (a := canR) (b := cadN) (by kernel_rfl) (show live [2] cadN [3] [(0,[3])] = [108,7,3,1] by kernel_rfl),epanR]
 unfold padA
 exact (congrArg (panR C L x91 x7 x3 x1 h) (funext fun x108=>funext fun x7=>funext fun x3=>funext fun x1=>funext fun h => (seqK_n _ _ _).trans (epadN C L h K x108 x7 x3 x1)))
noncomputable def pacR (C : CF) (L : Nat) {β : Type} (x91 x7 x3 x1 : Value) (h : H) (kn : Kv1 β) : Option β :=
 condV x91 (pavO C L x91 x7 x3 x1 h kn) (padA C L x91 x7 x3 x1 h kn)
theorem epacR (x91 x7 x3 x1 : Value) :
  execK prog C L 0 156 [2] cacR [3] [(0,[3])] (fs [(91,x91),(7,x7),(3,x3),(1,x1)]) h K =
   pacR C L x91 x7 x3 x1 h (fun x3 h => K .normal (fs [(3,x3)]) h) := by
 rw [execK_cond (a := cavO) (b := cadA) (x := (.tmp 91)) (v := x91) (by kernel_rfl) (by kernel_rfl),epavO,epadA]
 unfold pacR
 rfl
noncomputable def pacD (C : CF) (L : Nat) {β : Type} (x80 x7 x3 x1 : Value) (h : H) (kn : Kv1 β) : Option β :=
 panH C L x80 x7 x3 x1 h (fun x91 x7 x3 x1 h => pacR C L x91 x7 x3 x1 h kn)
theorem epacD (x80 x7 x3 x1 : Value) :
  execK prog C L 0 156 [2] cacD [3] [(0,[3])] (fs [(80,x80),(7,x7),(3,x3),(1,x1)]) h K =
   pacD C L x80 x7 x3 x1 h (fun x3 h => K .normal (fs [(3,x3)]) h) := by
 rw [execK_seq (a := canH) (b := cacR) (by kernel_rfl) (show live [2] cacR [3] [(0,[3])] = [91,7,3,1] by kernel_rfl),epanH]
 unfold pacD
 exact (congrArg (panH C L x80 x7 x3 x1 h) (funext fun x91=>funext fun x7=>funext fun x3=>funext fun x1=>funext fun h => (seqK_n _ _ _).trans (epacR C L h K x91 x7 x3 x1)))
noncomputable def pabX (C : CF) (L : Nat) {β : Type} (x80 x7 x3 x1 : Value) (h : H) (kn : Kv1 β) : Option β :=
 condV x80 (payO C L x80 x7 x3 x1 h kn) (pacD C L x80 x7 x3 x1 h kn)
theorem epabX (x80 x7 x3 x1 : Value) :
  execK prog C L 0 156 [2] cabX [3] [(0,[3])] (fs [(80,x80),(7,x7),(3,x3),(1,x1)]) h K =
   pabX C L x80 x7 x3 x1 h (fun x3 h => K .normal (fs [(3,x3)]) h) := by
 rw [execK_cond (a := cayO) (b := cacD) (x := (.tmp 80)) (v := x80) (by kernel_rfl) (by kernel_rfl),epayO,epacD]
 unfold pabX
 rfl
noncomputable def pabP (C : CF) (L : Nat) {β : Type} (x11 x7 x3 x1 : Value) (h : H) (kn : Kv1 β) : Option β :=
 panG C L x11 x7 x3 x1 h (fun x80 x7 x3 x1 h => pabX C L x80 x7 x3 x1 h kn)
theorem epabP (x11 x7 x3 x1 : Value) :
  execK prog C L 0 156 [2] cabP [3] [(0,[3])] (fs [(11,x11),(7,x7),(3,x3),(1,x1)]) h K =
   pabP C L x11 x7 x3 x1 h (fun x3 h => K .normal (fs [(3,x3)]) h) := by
 rw [execK_seq (a := canG) (b := cabX) (by kernel_rfl) (show live [2] cabX [3] [(0,[3])] = [80,7,3,1] by kernel_rfl),epanG]
 unfold pabP
 exact (congrArg (panG C L x11 x7 x3 x1 h) (funext fun x80=>funext fun x7=>funext fun x3=>funext fun x1=>funext fun h => (seqK_n _ _ _).trans (epabX C L h K x80 x7 x3 x1)))
noncomputable def pabD (C : CF) (L : Nat) {β : Type} (x11 x7 x3 x1 : Value) (h : H) (kn : Kv1 β) : Option β :=
 condV x11 (paiC C L x11 x7 x3 x1 h kn) (pabP C L x11 x7 x3 x1 h kn)
theorem epabD (x11 x7 x3 x1 : Value) :
  execK prog C L 0 156 [2] cabD [3] [(0,[3])] (fs [(11,x11),(7,x7),(3,x3),(1,x1)]) h K =
   pabD C L x11 x7 x3 x1 h (fun x3 h => K .normal (fs [(3,x3)]) h) := by
 rw [execK_cond (a := caiC) (b := cabP) (x := (.tmp 11)) (v := x11) (by kernel_rfl) (by kernel_rfl),epaiC,epabP]
 unfold pabD
 rfl
noncomputable def paaW (C : CF) (L : Nat) {β : Type} (x7 x3 x1 : Value) (h : H) (kn : Kv1 β) : Option β :=
 panD C L x7 x3 x1 h (fun x11 x7 x3 x1 h => pabD C L x11 x7 x3 x1 h kn)
theorem epaaW (x7 x3 x1 : Value) :
  execK prog C L 0 156 [2] caaW [3] [(0,[3])] (fs [(7,x7),(3,x3),(1,x1)]) h K =
   paaW C L x7 x3 x1 h (fun x3 h => K .normal (fs [(3,x3)]) h) := by
 rw [execK_seq (a := canD) (b := cabD) (by kernel_rfl) (show live [2] cabD [3] [(0,[3])] = [11,7,3,1] by kernel_rfl),epanD]
 unfold paaW
 exact (congrArg (panD C L x7 x3 x1 h) (funext fun x11=>funext fun x7=>funext fun x3=>funext fun x1=>funext fun h => (seqK_n _ _ _).trans (epabD C L h K x11 x7 x3 x1)))
noncomputable def paaU (C : CF) (L : Nat) {β : Type} (x7 x3 x1 : Value) (h : H) (kn : Kv1 β) : Option β :=
 paaW C L x7 x3 x1 h kn
theorem epaaU (x7 x3 x1 : Value) :
  execK prog C L 0 156 [2] caaU [3] [] (fs [(7,x7),(3,x3),(1,x1)]) h K =
   paaU C L x7 x3 x1 h (fun x3 h => K .normal (fs [(3,x3)]) h) := by
 rw [execK_block (b := caaW) (id := 0) (by kernel_rfl),epaaW]
 unfold paaU
 rfl
noncomputable def paaQ (C : CF) (L : Nat) {β : Type} (x3 x1 : Value) (h : H) (kn : Kv1 β) : Option β :=
 panC C L x3 x1 h (fun x7 x3 x1 h => paaU C L x7 x3 x1 h kn)
theorem epaaQ (x3 x1 : Value) :
  execK prog C L 0 156 [2] caaQ [3] [] (fs [(3,x3),(1,x1)]) h K =
   paaQ C L x3 x1 h (fun x3 h => K .normal (fs [(3,x3)]) h) := by
 rw [execK_seq (a := canC) (b := caaU) (by kernel_rfl) (show live [2] caaU [3] [] = [7,3,1] by kernel_rfl),epanC]
 unfold paaQ
 exact (congrArg (panC C L x3 x1 h) (funext fun x7=>funext fun x3=>funext fun x1=>funext fun h => (seqK_n _ _ _).trans (epaaU C L h K x7 x3 x1)))
noncomputable def cavP : Code := cR caaO
noncomputable def pavP (C : CF) (L : Nat) {β : Type} (x3 : Value) (h : H) (kr : Kv1 β) : Option β :=
 kr x3 h
theorem epavP (x3 : Value) :
  execK prog C L 0 156 [2] cavP [2] [] (fs [(3,x3)]) h K =
   pavP C L x3 h (fun x2 h => K .ret (fs [(2,x2)]) h) := by
 kernel_rfl
noncomputable def p40a (C : CF) (L : Nat) {β : Type} (x0 : Value) (h : H) (kr : Kv1 β) : Option β :=
 pavM C L x0 h (fun x1 h => pavN C L x1 h (fun x3 x1 h => paaQ C L x3 x1 h (fun x3 h => pavP C L x3 h kr)))
theorem ep40a (x0 : Value) :
  execK prog C L 0 156 [2] c40a [2] [] (fs [(0,x0)]) h K =
   p40a C L x0 h (fun x2 h => K .ret (fs [(2,x2)]) h) := by
 rw [execK_seq (a := cavM) (b := caaM) (by kernel_rfl) (show live [2] caaM [2] [] = [1] by kernel_rfl),epavM]
 unfold p40a
 exact (congrArg (pavM C L x0 h) (funext fun x1=>funext fun h => (seqK_n _ _ _).trans (by rw [execK_seq (a := cavN) (b := caaO) (by kernel_rfl) (show live [2] caaO [2] [] = [3,1] by kernel_rfl),epavN]; exact (congrArg (pavN C L x1 h) (funext fun x3=>funext fun x1=>funext fun h => (seqK_n _ _ _).trans (by rw [execK_seq (a := caaQ) (b := cavP) (by kernel_rfl) (show live [2] cavP [2] [] = [3] by kernel_rfl),epaaQ]; exact (congrArg (paaQ C L x3 x1 h) (funext fun x3=>funext fun h => (seqK_n _ _ _).trans (epavP C L h K x3)))))))))
noncomputable def F40 (C : CF) (L : Nat) (x0 : Value) (h : H) : Option (Value × H) :=
 p40a C L x0 h
  (fun x2 h => some (x2,h))
theorem F40eq (Q : Orc) (n : Nat) (x0 : Value) (h : H) (hQ : Q 40 [x0] = none) : callO prog 0 Q (n + 1) 40 [x0] h = F40 (callO prog 0 Q n) n x0 h := by
 rw [callO_eq hQ (c := c40a) (nt := 156) (RR := [2]) (fr := (fs [(0,x0)])) Tryz.func40 (by kernel_rfl) (by kernel_rfl) (by kernel_rfl) (by kernel_rfl) (by kernel_rfl),ep40a]
 kernel_rfl
noncomputable def c42a : Code := (Tryz.f42.body).getD .skip
noncomputable def p42a (C : CF) (L : Nat) {β : Type} (x0 : Value) (h : H) (kr : Kv1 β) : Option β :=
 bnd (A.conv prog 3 5 x0) fun t4 =>
 bnd2 (A.buildSlice 1 1 Z5L [(0,1,t4)] h) fun t5 hq1 =>
 bnd (A.b2s t5 hq1) fun t6 =>
 kr t6 hq1
theorem ep42a (x0 : Value) :
  execK prog C L 0 7 [2] c42a [2] [] (fs [(0,x0)]) h K =
   p42a C L x0 h (fun x2 h => K .ret (fs [(2,x2)]) h) := by
 kernel_rfl
noncomputable def F42 (C : CF) (L : Nat) (x0 : Value) (h : H) : Option (Value × H) :=
 p42a C L x0 h
  (fun x2 h => some (x2,h))
theorem F42eq (Q : Orc) (n : Nat) (x0 : Value) (h : H) (hQ : Q 42 [x0] = none) : callO prog 0 Q (n + 1) 42 [x0] h = F42 (callO prog 0 Q n) n x0 h := by
 rw [callO_eq hQ (c := c42a) (nt := 7) (RR := [2]) (fr := (fs [(0,x0)])) Tryz.func42 (by kernel_rfl) (by kernel_rfl) (by kernel_rfl) (by kernel_rfl) (by kernel_rfl),ep42a]
 kernel_rfl
noncomputable def c43a : Code := (Tryz.f43.body).getD .skip
noncomputable def camP : Code := cL c43a
noncomputable def pamP (C : CF) (L : Nat) {β : Type} (x0 : Value) (h : H) (kn : Kv1 β) : Option β :=
 bnd2 (A.box 24 x0 h) fun t1 hq1 =>
 kn t1 hq1
theorem epamP (x0 : Value) :
  execK prog C L 0 30 [2] camP [1] [] (fs [(0,x0)]) h K =
   pamP C L x0 h (fun x1 h => K .normal (fs [(1,x1)]) h) := by
 kernel_rfl
noncomputable def caiK : Code := cR c43a
noncomputable def camQ : Code := cL caiK
noncomputable def pamQ (C : CF) (L : Nat) {β : Type} (x1 : Value) (h : H) (kn : Kv2 β) : Option β :=
 bnd2 (A.buildSlice 1 15 Z3L [(0,1,(.int .i64 0)),(1,1,(.int .i64 0)),(2,1,(.int .i64 0)),(3,1,(.int .i64 0)),(4,1,(.int .i64 0)),(5,1,(.int .i64 0)),(6,1,(.int .i64 2)),(7,1,(.int .i64 0)),(8,1,(.int .i64 2)),(9,1,(.int .i64 0)),(10,1,(.int .i64 2)),(11,1,(.int .i64 0)),(12,1,(.int .i64 0)),(13,1,(.int .i64 0)),(14,1,(.int .i64 0))] h) fun t4 hq1 =>
 bnd (A.fieldAddr 0 x1) fun t5 =>
 bnd (A.load false 1 t5 hq1) fun t6 =>
 bnd (A.idxS 1 t4 t6) fun t7 =>
 bnd (A.load false 1 t7 hq1) fun t8 =>
 kn x1 t8 hq1
theorem epamQ (x1 : Value) :
  execK prog C L 0 30 [2] camQ [1,3] [] (fs [(1,x1)]) h K =
   pamQ C L x1 h (fun x1 x3 h => K .normal (fs [(1,x1),(3,x3)]) h) := by
 kernel_rfl
noncomputable def cakR : Code := cR caiK
noncomputable def carT : Code := cL cakR
noncomputable def parT (C : CF) (L : Nat) {β : Type} (x1 x3 : Value) (h : H) (kn : Kv2 β) : Option β :=
 bnd (A.fieldAddr 0 x1) fun t9 =>
 bnd (A.load false 1 t9 h) fun t10 =>
 bnd (A.bin prog .eql 5 t10 (.int .u8 3)) fun t11 =>
 toBK t11 fun b =>
 (bif b then
 bnd (A.fieldAddr 1 x1) fun t12 =>
 bnd (A.load false 1 t12 h) fun t13 =>
 toBK t13 fun bq1 =>
 bnd2 (C 65 [(.bool bq1),(.int .i64 8)] h) fun t14 hq1 =>
 bnd (A.fieldAddr 2 x1) fun t15 =>
 bnd (A.load false 1 t15 hq1) fun t16 =>
 bif (chk (bnd (A.load false 1 t15 h) fun v => some v) t16 && true) then
 bnd (A.conv prog 5 3 t16) fun t17 =>
 bnd (A.bin prog .mul 3 (.int .i64 2) t17) fun t18 =>
 bnd (A.bin prog .add 3 t14 t18) fun t19 =>
 bnd (A.fieldAddr 3 x1) fun t20 =>
 bnd (A.load false 1 t20 hq1) fun t21 =>
 toBK t21 fun bq2 =>
 bif (chk (bnd (A.load false 1 t20 h) fun v => some v) (.bool bq2) && true) then
 bnd2 (C 65 [(.bool bq2),(.int .i64 1)] hq1) fun t22 hq2 =>
 bif (chk (bnd (A.load false 1 t15 hq2) fun v => some v) t16 && true) then
 bnd (A.bin prog .add 3 t19 t22) fun t23 =>
 kn x1 t23 hq2
 else none
 else none
 else none
 else
 kn x1 x3 h)
theorem eparT (x1 x3 : Value) :
  execK prog C L 0 30 [2] carT [1,3] [] (fs [(1,x1),(3,x3)]) h K =
   parT C L x1 x3 h (fun x1 x3 h => K .normal (fs [(1,x1),(3,x3)]) h) := by
 kernel_rfl
noncomputable def carU : Code := cR cakR
noncomputable def parU (C : CF) (L : Nat) {β : Type} (x1 x3 : Value) (h : H) (kr : Kv1 β) : Option β :=
 bnd (A.fieldAddr 0 x1) fun t24 =>
 bnd (A.load false 1 t24 h) fun t25 =>
 bnd (A.conv prog 5 3 t25) fun t26 =>
 bnd (A.bin prog .mul 3 (.int .i64 16) t26) fun t27 =>
 bnd (A.bin prog .add 3 t27 x3) fun t29 =>
 kr t29 h
theorem eparU (x1 x3 : Value) :
  execK prog C L 0 30 [2] carU [2] [] (fs [(1,x1),(3,x3)]) h K =
   parU C L x1 x3 h (fun x2 h => K .ret (fs [(2,x2)]) h) := by
 kernel_rfl
noncomputable def p43a (C : CF) (L : Nat) {β : Type} (x0 : Value) (h : H) (kr : Kv1 β) : Option β :=
 pamP C L x0 h (fun x1 h => pamQ C L x1 h (fun x1 x3 h => parT C L x1 x3 h (fun x1 x3 h => parU C L x1 x3 h kr)))
theorem ep43a (x0 : Value) :
  execK prog C L 0 30 [2] c43a [2] [] (fs [(0,x0)]) h K =
   p43a C L x0 h (fun x2 h => K .ret (fs [(2,x2)]) h) := by
 rw [execK_seq (a := camP) (b := caiK) (by kernel_rfl) (show live [2] caiK [2] [] = [1] by kernel_rfl),epamP]
 unfold p43a
 exact (congrArg (pamP C L x0 h) (funext fun x1=>funext fun h => (seqK_n _ _ _).trans (by rw [execK_seq (a := camQ) (b := cakR) (by kernel_rfl) (show live [2] cakR [2] [] = [1,3] by kernel_rfl),epamQ]; exact (congrArg (pamQ C L x1 h) (funext fun x1=>funext fun x3=>funext fun h => (seqK_n _ _ _).trans (by rw [execK_seq (a := carT) (b := carU) (by kernel_rfl) (show live [2] carU [2] [] = [1,3] by kernel_rfl),eparT]; exact (congrArg (parT C L x1 x3 h) (funext fun x1=>funext fun x3=>funext fun h => (seqK_n _ _ _).trans (eparU C L h K x1 x3)))))))))
noncomputable def F43 (C : CF) (L : Nat) (x0 : Value) (h : H) : Option (Value × H) :=
 p43a C L x0 h
  (fun x2 h => some (x2,h))
theorem F43eq (Q : Orc) (n : Nat) (x0 : Value) (h : H) (hQ : Q 43 [x0] = none) : callO prog 0 Q (n + 1) 43 [x0] h = F43 (callO prog 0 Q n) n x0 h := by
 rw [callO_eq hQ (c := c43a) (nt := 30) (RR := [2]) (fr := (fs [(0,x0)])) Tryz.func43 (by kernel_rfl) (by kernel_rfl) (by kernel_rfl) (by kernel_rfl) (by kernel_rfl),ep43a]
 kernel_rfl
noncomputable def c44a : Code := (Tryz.f44.body).getD .skip
noncomputable def p44a (C : CF) (L : Nat) {β : Type} (x0 x1 : Value) (h : H) (kr : Kv1 β) : Option β :=
 bnd (A.lenS x1) fun t8 =>
 bnd (A.bin prog .rem 3 x0 t8) fun t9 =>
 bnd (A.idxS 1 x1 t9) fun t10 =>
 bnd (A.load false 1 t10 h) fun t11 =>
 kr t11 h
theorem ep44a (x0 x1 : Value) :
  execK prog C L 0 12 [4] c44a [4] [] (fs [(0,x0),(1,x1)]) h K =
   p44a C L x0 x1 h (fun x4 h => K .ret (fs [(4,x4)]) h) := by
 kernel_rfl
noncomputable def F44 (C : CF) (L : Nat) (x0 x1 : Value) (h : H) : Option (Value × H) :=
 p44a C L x0 x1 h
  (fun x4 h => some (x4,h))
theorem F44eq (Q : Orc) (n : Nat) (x0 x1 : Value) (h : H) (hQ : Q 44 [x0,x1] = none) : callO prog 0 Q (n + 1) 44 [x0,x1] h = F44 (callO prog 0 Q n) n x0 x1 h := by
 rw [callO_eq hQ (c := c44a) (nt := 12) (RR := [4]) (fr := (fs [(0,x0),(1,x1)])) Tryz.func44 (by kernel_rfl) (by kernel_rfl) (by kernel_rfl) (by kernel_rfl) (by kernel_rfl),ep44a]
 kernel_rfl
noncomputable def c58a : Code := (Tryz.f58.body).getD .skip
noncomputable def cawC : Code := cL c58a
noncomputable def pawC (C : CF) (L : Nat) {β : Type} (x0 x1 : Value) (h : H) (kn : Kv2 β) : Option β :=
 bnd2 (A.box 24 x0 h) fun t2 hq1 =>
 bnd2 (A.box 24 x1 hq1) fun t3 hq2 =>
 kn t3 t2 hq2
theorem epawC (x0 x1 : Value) :
  execK prog C L 0 169 [4] cawC [3,2] [] (fs [(0,x0),(1,x1)]) h K =
   pawC C L x0 x1 h (fun x3 x2 h => K .normal (fs [(3,x3),(2,x2)]) h) := by
 kernel_rfl
noncomputable def caeD : Code := cR c58a
noncomputable def calG : Code := cL caeD
noncomputable def cawD : Code := cL calG
noncomputable def pawD (C : CF) (L : Nat) {β : Type} (x3 x2 : Value) (h : H) (kn : Kv3 β) : Option β :=
 bnd (A.fieldAddr 0 x2) fun t6 =>
 bnd (A.load false 1 t6 h) fun t7 =>
 bnd (A.fieldAddr 0 x3) fun t8 =>
 bnd (A.load false 1 t8 h) fun t9 =>
 bnd (A.bin prog .neq 5 t7 t9) fun t10 =>
 toBK t10 fun b =>
 (bif b then
 kn (.bool true) x3 x2 h
 else
 bnd (A.fieldAddr 1 x2) fun t12 =>
 bnd (A.load false 1 t12 h) fun t13 =>
 toBK t13 fun bq1 =>
 bnd (A.fieldAddr 1 x3) fun t14 =>
 bnd (A.load false 1 t14 h) fun t15 =>
 toBK t15 fun bq2 =>
 bnd (A.bin prog .neq 4 (.bool bq1) (.bool bq2)) fun t16 =>
 toBK t16 fun bq3 =>
 (bif bq3 then
 kn (.bool true) x3 x2 h
 else
 bnd (A.fieldAddr 2 x2) fun t19 =>
 bnd (A.load false 1 t19 h) fun t20 =>
 bnd (A.fieldAddr 2 x3) fun t21 =>
 bnd (A.load false 1 t21 h) fun t22 =>
 bnd (A.bin prog .neq 5 t20 t22) fun t23 =>
 toBK t23 fun bq4 =>
 (bif bq4 then
 kn (.bool true) x3 x2 h
 else
 bnd (A.fieldAddr 3 x2) fun t26 =>
 bnd (A.load false 1 t26 h) fun t27 =>
 toBK t27 fun bq5 =>
 bnd (A.fieldAddr 3 x3) fun t28 =>
 bnd (A.load false 1 t28 h) fun t29 =>
 toBK t29 fun bq6 =>
 bnd (A.bin prog .neq 4 (.bool bq5) (.bool bq6)) fun t30 =>
 toBK t30 fun bq7 =>
 (bif bq7 then
 kn (.bool true) x3 x2 h
 else
 bnd (A.fieldAddr 4 x2) fun t33 =>
 bnd (A.load false 1 t33 h) fun t34 =>
 bnd (A.fieldAddr 4 x3) fun t35 =>
 bnd (A.load false 1 t35 h) fun t36 =>
 bnd (A.bin prog .neq 72 t34 t36) fun t37 =>
 toBK t37 fun bq8 =>
 (bif bq8 then
 kn (.bool true) x3 x2 h
 else
 bnd (A.fieldAddr 5 x2) fun t40 =>
 bnd (A.load false 1 t40 h) fun t41 =>
 bnd (A.fieldAddr 5 x3) fun t42 =>
 bnd (A.load false 1 t42 h) fun t43 =>
 bnd (A.bin prog .neq 9 t41 t43) fun t44 =>
 toBK t44 fun bq9 =>
 (bif bq9 then
 kn (.bool true) x3 x2 h
 else
 bnd (A.fieldAddr 6 x2) fun t47 =>
 bnd (A.load false 1 t47 h) fun t48 =>
 bnd (A.fieldAddr 6 x3) fun t49 =>
 bnd (A.load false 1 t49 h) fun t50 =>
 bnd (A.bin prog .neq 9 t48 t50) fun t51 =>
 toBK t51 fun bq10 =>
 (bif bq10 then
 kn (.bool true) x3 x2 h
 else
 bnd (A.fieldAddr 7 x2) fun t54 =>
 bnd (A.load false 1 t54 h) fun t55 =>
 bnd (A.fieldAddr 7 x3) fun t56 =>
 bnd (A.load false 1 t56 h) fun t57 =>
 bnd (A.bin prog .neq 5 t55 t57) fun t58 =>
 toBK t58 fun bq11 =>
 (bif bq11 then
 kn (.bool true) x3 x2 h
 else
 bnd (A.fieldAddr 8 x2) fun t61 =>
 bnd (A.load false 1 t61 h) fun t62 =>
 toBK t62 fun bq12 =>
 bnd (A.fieldAddr 8 x3) fun t63 =>
 bnd (A.load false 1 t63 h) fun t64 =>
 toBK t64 fun bq13 =>
 bnd (A.bin prog .neq 4 (.bool bq12) (.bool bq13)) fun t65 =>
 toBK t65 fun bq14 =>
 (bif bq14 then
 kn (.bool true) x3 x2 h
 else
 bnd (A.fieldAddr 9 x2) fun t68 =>
 bnd (A.load false 1 t68 h) fun t69 =>
 bnd (A.fieldAddr 9 x3) fun t70 =>
 bnd (A.load false 1 t70 h) fun t71 =>
 bnd (A.bin prog .neq 72 t69 t71) fun t72 =>
 toBK t72 fun bq15 =>
 (bif bq15 then
 kn (.bool true) x3 x2 h
 else
 bnd (A.fieldAddr 10 x2) fun t75 =>
 bnd (A.load false 1 t75 h) fun t76 =>
 bnd (A.fieldAddr 10 x3) fun t77 =>
 bnd (A.load false 1 t77 h) fun t78 =>
 bnd (A.bin prog .neq 9 t76 t78) fun t79 =>
 toBK t79 fun bq16 =>
 kn (.bool bq16) x3 x2 h))))))))))
theorem epawD (x3 x2 : Value) :
  execK prog C L 0 169 [4] cawD [80,3,2] [] (fs [(3,x3),(2,x2)]) h K =
   pawD C L x3 x2 h (fun x80 x3 x2 h => K .normal (fs [(80,x80),(3,x3),(2,x2)]) h) := by
 kernel_rfl
noncomputable def cawE : Code := cR calG
noncomputable def pawE (C : CF) (L : Nat) {β : Type} (x80 x3 x2 : Value) (h : H) (kr : Kv1 β) (kn : Kv2 β) : Option β :=
 condV x80 (
 kr (.bool false) h) (
 kn x3 x2 h)
theorem epawE (x80 x3 x2 : Value) :
  execK prog C L 0 169 [4] cawE [3,2] [] (fs [(80,x80),(3,x3),(2,x2)]) h K =
   pawE C L x80 x3 x2 h (fun x4 h => K .ret (fs [(4,x4)]) h) (fun x3 x2 h => K .normal (fs [(3,x3),(2,x2)]) h) := by
 kernel_rfl
noncomputable def palG (C : CF) (L : Nat) {β : Type} (x3 x2 : Value) (h : H) (kr : Kv1 β) (kn : Kv2 β) : Option β :=
 pawD C L x3 x2 h (fun x80 x3 x2 h => pawE C L x80 x3 x2 h kr kn)
theorem epalG (x3 x2 : Value) :
  execK prog C L 0 169 [4] calG [3,2] [] (fs [(3,x3),(2,x2)]) h K =
   palG C L x3 x2 h (fun x4 h => K .ret (fs [(4,x4)]) h) (fun x3 x2 h => K .normal (fs [(3,x3),(2,x2)]) h) := by
 rw [execK_seq (a := cawD) (b := cawE) (by kernel_rfl) (show live [4] cawE [3,2] [] = [80,3,2] by kernel_rfl),epawD]
 unfold palG
 exact (congrArg (pawD C L x3 x2 h) (funext fun x80=>funext fun x3=>funext fun x2=>funext fun h => (seqK_n _ _ _).trans (epawE C L h K x80 x3 x2)))
noncomputable def cafM : Code := cR caeD
noncomputable def calH : Code := cL cafM
noncomputable def cawF : Code := cL calH
noncomputable def pawF (C : CF) (L : Nat) {β : Type} (x3 x2 : Value) (h : H) (kn : Kv3 β) : Option β :=
 bnd (A.fieldAddr 11 x2) fun t81 =>
 bnd (A.load false 1 t81 h) fun t82 =>
 toBK t82 fun b =>
 bnd (A.fieldAddr 11 x3) fun t83 =>
 bnd (A.load false 1 t83 h) fun t84 =>
 toBK t84 fun bq1 =>
 bnd (A.bin prog .neq 4 (.bool b) (.bool bq1)) fun t85 =>
 toBK t85 fun bq2 =>
 (bif bq2 then
 kn (.bool true) x3 x2 h
 else
 bnd (A.fieldAddr 12 x2) fun t87 =>
 bnd (A.load true 4 t87 h) fun t88 =>
 bnd (A.fieldAddr 12 x3) fun t89 =>
 bnd (A.load true 4 t89 h) fun t90 =>
 bnd (A.bin prog .neq 74 t88 t90) fun t91 =>
 toBK t91 fun bq3 =>
 (bif bq3 then
 kn (.bool true) x3 x2 h
 else
 bnd (A.fieldAddr 16 x2) fun t94 =>
 bnd (A.load false 1 t94 h) fun t95 =>
 toBK t95 fun bq4 =>
 bnd (A.fieldAddr 16 x3) fun t96 =>
 bnd (A.load false 1 t96 h) fun t97 =>
 toBK t97 fun bq5 =>
 bnd (A.bin prog .neq 4 (.bool bq4) (.bool bq5)) fun t98 =>
 toBK t98 fun bq6 =>
 (bif bq6 then
 kn (.bool true) x3 x2 h
 else
 bnd (A.fieldAddr 17 x2) fun t101 =>
 bnd (A.load false 1 t101 h) fun t102 =>
 toBK t102 fun bq7 =>
 bnd (A.fieldAddr 17 x3) fun t103 =>
 bnd (A.load false 1 t103 h) fun t104 =>
 toBK t104 fun bq8 =>
 bnd (A.bin prog .neq 4 (.bool bq7) (.bool bq8)) fun t105 =>
 toBK t105 fun bq9 =>
 (bif bq9 then
 kn (.bool true) x3 x2 h
 else
 bnd (A.fieldAddr 18 x2) fun t108 =>
 bnd (A.load false 1 t108 h) fun t109 =>
 bnd (A.fieldAddr 18 x3) fun t110 =>
 bnd (A.load false 1 t110 h) fun t111 =>
 bnd (A.bin prog .neq 9 t109 t111) fun t112 =>
 toBK t112 fun bq10 =>
 (bif bq10 then
 kn (.bool true) x3 x2 h
 else
 bnd (A.fieldAddr 19 x2) fun t115 =>
 bnd (A.load false 1 t115 h) fun t116 =>
 bnd (A.fieldAddr 19 x3) fun t117 =>
 bnd (A.load false 1 t117 h) fun t118 =>
 bnd (A.bin prog .neq 9 t116 t118) fun t119 =>
 toBK t119 fun bq11 =>
 (bif bq11 then
 kn (.bool true) x3 x2 h
 else
 bnd (A.fieldAddr 20 x2) fun t122 =>
 bnd (A.load false 1 t122 h) fun t123 =>
 toBK t123 fun bq12 =>
 bnd (A.fieldAddr 20 x3) fun t124 =>
 bnd (A.load false 1 t124 h) fun t125 =>
 toBK t125 fun bq13 =>
 bnd (A.bin prog .neq 4 (.bool bq12) (.bool bq13)) fun t126 =>
 toBK t126 fun bq14 =>
 (bif bq14 then
 kn (.bool true) x3 x2 h
 else
 bnd (A.fieldAddr 21 x2) fun t129 =>
 bnd (A.load false 1 t129 h) fun t130 =>
 bnd (A.fieldAddr 21 x3) fun t131 =>
 bnd (A.load false 1 t131 h) fun t132 =>
 bnd (A.bin prog .neq 5 t130 t132) fun t133 =>
 toBK t133 fun bq15 =>
 (bif bq15 then
 kn (.bool true) x3 x2 h
 else
 bnd (A.fieldAddr 23 x2) fun t136 =>
 bnd (A.load false 1 t136 h) fun t137 =>
 bnd (A.fieldAddr 23 x3) fun t138 =>
 bnd (A.load false 1 t138 h) fun t139 =>
 bnd (A.bin prog .neq 9 t137 t139) fun t140 =>
 toBK t140 fun bq16 =>
 (bif bq16 then
 kn (.bool true) x3 x2 h
 else
 bnd (A.fieldAddr 22 x2) fun t143 =>
 bnd (A.load false 1 t143 h) fun t144 =>
 bnd (A.lenS t144) fun t145 =>
 bnd (A.fieldAddr 22 x3) fun t146 =>
 bnd (A.load false 1 t146 h) fun t147 =>
 bnd (A.lenS t147) fun t148 =>
 bnd (A.bin prog .neq 3 t145 t148) fun t149 =>
 toBK t149 fun bq17 =>
 kn (.bool bq17) x3 x2 h)))))))))
theorem epawF (x3 x2 : Value) :
  execK prog C L 0 169 [4] cawF [150,3,2] [] (fs [(3,x3),(2,x2)]) h K =
   pawF C L x3 x2 h (fun x150 x3 x2 h => K .normal (fs [(150,x150),(3,x3),(2,x2)]) h) := by
 kernel_rfl
noncomputable def cawG : Code := cR calH
noncomputable def pawG (C : CF) (L : Nat) {β : Type} (x150 x3 x2 : Value) (h : H) (kr : Kv1 β) (kn : Kv2 β) : Option β :=
 condV x150 (
 kr (.bool false) h) (
 kn x3 x2 h)
theorem epawG (x150 x3 x2 : Value) :
  execK prog C L 0 169 [4] cawG [3,2] [] (fs [(150,x150),(3,x3),(2,x2)]) h K =
   pawG C L x150 x3 x2 h (fun x4 h => K .ret (fs [(4,x4)]) h) (fun x3 x2 h => K .normal (fs [(3,x3),(2,x2)]) h) := by
 kernel_rfl
noncomputable def palH (C : CF) (L : Nat) {β : Type} (x3 x2 : Value) (h : H) (kr : Kv1 β) (kn : Kv2 β) : Option β :=
 pawF C L x3 x2 h (fun x150 x3 x2 h => pawG C L x150 x3 x2 h kr kn)
theorem epalH (x3 x2 : Value) :
  execK prog C L 0 169 [4] calH [3,2] [] (fs [(3,x3),(2,x2)]) h K =
   palH C L x3 x2 h (fun x4 h => K .ret (fs [(4,x4)]) h) (fun x3 x2 h => K .normal (fs [(3,x3),(2,x2)]) h) := by
 rw [execK_seq (a := cawF) (b := cawG) (by kernel_rfl) (show live [4] cawG [3,2] [] = [150,3,2] by kernel_rfl),epawF]
 unfold palH
 exact (congrArg (pawF C L x3 x2 h) (funext fun x150=>funext fun x3=>funext fun x2=>funext fun h => (seqK_n _ _ _).trans (epawG C L h K x150 x3 x2)))
noncomputable def cahL : Code := cR cafM
noncomputable def caiL : Code := cL cahL
noncomputable def cawH : Code := cL caiL
noncomputable def pawH (C : CF) (L : Nat) {β : Type} (x3 x2 : Value) (h : H) (kn : Kv3 β) : Option β :=
 kn (.int .i64 0) x3 x2 h
theorem epawH (x3 x2 : Value) :
  execK prog C L 0 169 [4] cawH [5,3,2] [] (fs [(3,x3),(2,x2)]) h K =
   pawH C L x3 x2 h (fun x5 x3 x2 h => K .normal (fs [(5,x5),(3,x3),(2,x2)]) h) := by
 kernel_rfl
noncomputable def cakB : Code := cR caiL
noncomputable def calP : Code := cL cakB
noncomputable def capJ : Code := cL calP
noncomputable def papJ (C : CF) (L : Nat) {β : Type} (x5 x3 x2 : Value) (h : H) (kr : Kv1 β) (kn : Kv3 β) (kx0 : Kv0 β) : Option β :=
 bnd (A.fieldAddr 22 x2) fun t152 =>
 bnd (A.load false 1 t152 h) fun t153 =>
 bnd (A.lenS t153) fun t154 =>
 bnd (A.bin prog .lss 3 x5 t154) fun t155 =>
 toBK t155 fun b =>
 (bif b then
 bnd (A.fieldAddr 22 x2) fun t158 =>
 bnd (A.load false 1 t158 h) fun t159 =>
 bnd (A.idxS 2 t159 x5) fun t161 =>
 bnd (A.load true 2 t161 h) fun t162 =>
 bnd (A.fieldAddr 22 x3) fun t163 =>
 bnd (A.load false 1 t163 h) fun t164 =>
 bnd (A.idxS 2 t164 x5) fun t166 =>
 bnd (A.load true 2 t166 h) fun t167 =>
 bnd (A.bin prog .neq 110 t162 t167) fun t168 =>
 toBK t168 fun bq1 =>
 (bif bq1 then
 kr (.bool false) h
 else
 bnd (A.bin prog .add 3 x5 (.int .i64 1)) fun t157 =>
 kn t157 x3 x2 h)
 else
 kx0 h)
theorem epapJ (x5 x3 x2 : Value) :
  execK prog C L 0 169 [4] capJ [5,3,2] [(0,[])] (fs [(5,x5),(3,x3),(2,x2)]) h K =
   papJ C L x5 x3 x2 h (fun x4 h => K .ret (fs [(4,x4)]) h) (fun x5 x3 x2 h => K .normal (fs [(5,x5),(3,x3),(2,x2)]) h) (fun h => K (.exit 0) (fs []) h) := by
 kernel_rfl
noncomputable def pawI (C : CF) (L : Nat) {β : Type} (kr : Kv1 β) (kx0 : Kv0 β) : Nat → Kv3 β
 | 0,_,_,_,_ => none
 | n + 1,x5,x3,x2,h => papJ C L x5 x3 x2 h kr (fun x5 x3 x2 h => pawI C L kr kx0 n x5 x3 x2 h) kx0
theorem epawI (C : CF) (L : Nat) {β : Type} (K : Ex → T Value → Kv0 β) : ∀ (n : Nat) (x5 x3 x2 : Value) (h : H),
  loopK (fun fr h K => execK prog C L 0 169 [4] capJ [5,3,2] [(0,[])] fr h K) n (fs [(5,x5),(3,x3),(2,x2)]) h K =
   pawI C L (fun x4 h => K .ret (fs [(4,x4)]) h) (fun h => K (.exit 0) (fs []) h) n x5 x3 x2 h := by
 intro n
 induction n with
 | zero => intros; rfl
 | succ n ih =>
  intros
  simp only [loopK]
  rw [epapJ]
  simp only [seqK_n,seqK_x,seqK_r,ih]
  rfl
noncomputable def palP (C : CF) (L : Nat) {β : Type} (x5 x3 x2 : Value) (h : H) (kr : Kv1 β) (kx0 : Kv0 β) : Option β :=
 pawI C L kr kx0 L x5 x3 x2 h
theorem epalP (x5 x3 x2 : Value) :
  execK prog C L 0 169 [4] calP [] [(0,[])] (fs [(5,x5),(3,x3),(2,x2)]) h K =
   palP C L x5 x3 x2 h (fun x4 h => K .ret (fs [(4,x4)]) h) (fun h => K (.exit 0) (fs []) h) := by
 rw [execK_loop (b := capJ) (fr1 := (fs [(5,x5),(3,x3),(2,x2)])) (by kernel_rfl) (show live [4] capJ [] [(0,[])] = [5,3,2] by kernel_rfl) (by kernel_rfl),epawI]
 unfold palP
 rfl
noncomputable def pakB (C : CF) (L : Nat) {β : Type} (x5 x3 x2 : Value) (h : H) (kr : Kv1 β) (kn : Kv0 β) : Option β :=
 palP C L x5 x3 x2 h kr kn
theorem epakB (x5 x3 x2 : Value) :
  execK prog C L 0 169 [4] cakB [] [] (fs [(5,x5),(3,x3),(2,x2)]) h K =
   pakB C L x5 x3 x2 h (fun x4 h => K .ret (fs [(4,x4)]) h) (fun h => K .normal (fs []) h) := by
 rw [execK_block (b := calP) (id := 0) (by kernel_rfl),epalP]
 unfold pakB
 rfl
noncomputable def paiL (C : CF) (L : Nat) {β : Type} (x3 x2 : Value) (h : H) (kr : Kv1 β) (kn : Kv0 β) : Option β :=
 pawH C L x3 x2 h (fun x5 x3 x2 h => pakB C L x5 x3 x2 h kr kn)
theorem epaiL (x3 x2 : Value) :
  execK prog C L 0 169 [4] caiL [] [] (fs [(3,x3),(2,x2)]) h K =
   paiL C L x3 x2 h (fun x4 h => K .ret (fs [(4,x4)]) h) (fun h => K .normal (fs []) h) := by
 rw [execK_seq (a := cawH) (b := cakB) (by kernel_rfl) (show live [4] cakB [] [] = [5,3,2] by kernel_rfl),epawH]
 unfold paiL
 exact (congrArg (pawH C L x3 x2 h) (funext fun x5=>funext fun x3=>funext fun x2=>funext fun h => (seqK_n _ _ _).trans (epakB C L h K x5 x3 x2)))
noncomputable def cawJ : Code := cR cahL
noncomputable def pawJ (C : CF) (L : Nat) {β : Type} (h : H) (kr : Kv1 β) : Option β :=
 kr (.bool true) h
theorem epawJ :
  execK prog C L 0 169 [4] cawJ [4] [] (fs []) h K =
   pawJ C L h (fun x4 h => K .ret (fs [(4,x4)]) h) := by
 kernel_rfl
noncomputable def p58a (C : CF) (L : Nat) {β : Type} (x0 x1 : Value) (h : H) (kr : Kv1 β) : Option β :=
 pawC C L x0 x1 h (fun x3 x2 h => palG C L x3 x2 h kr (fun x3 x2 h => palH C L x3 x2 h kr (fun x3 x2 h => paiL C L x3 x2 h kr (fun h => pawJ C L h kr))))
theorem ep58a (x0 x1 : Value) :
  execK prog C L 0 169 [4] c58a [4] [] (fs [(0,x0),(1,x1)]) h K =
   p58a C L x0 x1 h (fun x4 h => K .ret (fs [(4,x4)]) h) := by
 rw [execK_seq (a := cawC) (b := caeD) (by kernel_rfl) (show live [4] caeD [4] [] = [3,2] by kernel_rfl),epawC]
 unfold p58a
 exact (congrArg (pawC C L x0 x1 h) (funext fun x3=>funext fun x2=>funext fun h => (seqK_n _ _ _).trans (by rw [execK_seq (a := calG) (b := cafM) (by kernel_rfl) (show live [4] cafM [4] [] = [3,2] by kernel_rfl),epalG]; exact (congr (congrArg (palG C L x3 x2 h) (funext fun x4=>funext fun h => seqK_r _ _ _)) (funext fun x3=>funext fun x2=>funext fun h => (seqK_n _ _ _).trans (by rw [execK_seq (a := calH) (b := cahL) (by kernel_rfl) (show live [4] cahL [4] [] = [3,2] by kernel_rfl),epalH]; exact (congr (congrArg (palH C L x3 x2 h) (funext fun x4=>funext fun h => seqK_r _ _ _)) (funext fun x3=>funext fun x2=>funext fun h => (seqK_n _ _ _).trans (by rw [execK_seq (a := caiL) (b := cawJ) (by kernel_rfl) (show live [4] cawJ [4] [] = [] by kernel_rfl),epaiL]; exact (congr (congrArg (paiL C L x3 x2 h) (funext fun x4=>funext fun h => seqK_r _ _ _)) (funext fun h => (seqK_n _ _ _).trans (epawJ C L h K))))))))))))
noncomputable def F58 (C : CF) (L : Nat) (x0 x1 : Value) (h : H) : Option (Value × H) :=
 p58a C L x0 x1 h
  (fun x4 h => some (x4,h))
theorem F58eq (Q : Orc) (n : Nat) (x0 x1 : Value) (h : H) (hQ : Q 58 [x0,x1] = none) : callO prog 0 Q (n + 1) 58 [x0,x1] h = F58 (callO prog 0 Q n) n x0 x1 h := by
 rw [callO_eq hQ (c := c58a) (nt := 169) (RR := [4]) (fr := (fs [(0,x0),(1,x1)])) Tryz.func58 (by kernel_rfl) (by kernel_rfl) (by kernel_rfl) (by kernel_rfl) (by kernel_rfl),ep58a]
 kernel_rfl
noncomputable def c59a : Code := (Tryz.f59.body).getD .skip
noncomputable def cawK : Code := cL c59a
noncomputable def pawK (C : CF) (L : Nat) {β : Type} (x0 : Value) (h : H) (kn : Kv2 β) : Option β :=
 bnd2 (A.box 24 x0 h) fun t1 hq1 =>
 bnd2 (A.box 24 Z77 hq1) fun t2 hq2 =>
 kn t1 t2 hq2
theorem epawK (x0 : Value) :
  execK prog C L 0 79 [2] cawK [1,2] [] (fs [(0,x0)]) h K =
   pawK C L x0 h (fun x1 x2 h => K .normal (fs [(1,x1),(2,x2)]) h) := by
 kernel_rfl
noncomputable def cadL : Code := cR c59a
noncomputable def cawL : Code := cL cadL
noncomputable def pawL (C : CF) (L : Nat) {β : Type} (x1 x2 : Value) (h : H) (kn : Kv3 β) : Option β :=
 bnd (A.fieldAddr 0 x1) fun t5 =>
 bnd (A.load false 1 t5 h) fun t6 =>
 bnd2 (C 57 [t6] h) fun t7 hq1 =>
 kn x1 t7 x2 hq1
theorem epawL (x1 x2 : Value) :
  execK prog C L 0 79 [2] cawL [1,3,2] [] (fs [(1,x1),(2,x2)]) h K =
   pawL C L x1 x2 h (fun x1 x3 x2 h => K .normal (fs [(1,x1),(3,x3),(2,x2)]) h) := by
 kernel_rfl
noncomputable def cadY : Code := cR cadL
noncomputable def cawM : Code := cL cadY
noncomputable def pawM (C : CF) (L : Nat) {β : Type} (x1 x3 x2 : Value) (h : H) (kn : Kv4 β) : Option β :=
 bnd (A.load true 24 x1 h) fun t8 =>
 bnd2 (A.box 24 Z77 h) fun t4 hq1 =>
 bnd (A.store 24 t4 t8 hq1) fun hq2 =>
 kn x1 x3 t4 x2 hq2
theorem epawM (x1 x3 x2 : Value) :
  execK prog C L 0 79 [2] cawM [1,3,4,2] [] (fs [(1,x1),(3,x3),(2,x2)]) h K =
   pawM C L x1 x3 x2 h (fun x1 x3 x4 x2 h => K .normal (fs [(1,x1),(3,x3),(4,x4),(2,x2)]) h) := by
 kernel_rfl
noncomputable def caeB : Code := cR cadY
noncomputable def capK : Code := cL caeB
noncomputable def papK (C : CF) (L : Nat) {β : Type} (x1 x3 x4 x2 : Value) (h : H) (kn : Kv4 β) : Option β :=
 bnd (A.fieldAddr 1 x1) fun t9 =>
 bnd (A.load false 1 t9 h) fun t10 =>
 toBK t10 fun b =>
 (bif b then
 bnd2 (C 63 [x3,(.int .u8 100)] h) fun t13 hq1 =>
 toBK t13 fun bq1 =>
 bnd (A.fieldAddr 1 x4) fun t15 =>
 bnd (A.store 1 t15 (.bool bq1) hq1) fun hq2 =>
 kn x1 x3 x4 x2 hq2
 else
 bnd (A.fieldAddr 1 x4) fun t15q1 =>
 bnd (A.store 1 t15q1 (.bool false) h) fun hq3 =>
 kn x1 x3 x4 x2 hq3)
theorem epapK (x1 x3 x4 x2 : Value) :
  execK prog C L 0 79 [2] capK [1,3,4,2] [] (fs [(1,x1),(3,x3),(4,x4),(2,x2)]) h K =
   papK C L x1 x3 x4 x2 h (fun x1 x3 x4 x2 h => K .normal (fs [(1,x1),(3,x3),(4,x4),(2,x2)]) h) := by
 kernel_rfl
noncomputable def caeQ : Code := cR caeB
noncomputable def capL : Code := cL caeQ
noncomputable def papL (C : CF) (L : Nat) {β : Type} (x1 x3 x4 x2 : Value) (h : H) (kn : Kv4 β) : Option β :=
 bnd (A.fieldAddr 3 x1) fun t16 =>
 bnd (A.load false 1 t16 h) fun t17 =>
 toBK t17 fun b =>
 (bif b then
 bnd2 (C 63 [x3,(.int .u8 114)] h) fun t20 hq1 =>
 toBK t20 fun bq1 =>
 bnd (A.fieldAddr 3 x4) fun t22 =>
 bnd (A.store 1 t22 (.bool bq1) hq1) fun hq2 =>
 kn x1 x3 x4 x2 hq2
 else
 bnd (A.fieldAddr 3 x4) fun t22q1 =>
 bnd (A.store 1 t22q1 (.bool false) h) fun hq3 =>
 kn x1 x3 x4 x2 hq3)
theorem epapL (x1 x3 x4 x2 : Value) :
  execK prog C L 0 79 [2] capL [1,3,4,2] [] (fs [(1,x1),(3,x3),(4,x4),(2,x2)]) h K =
   papL C L x1 x3 x4 x2 h (fun x1 x3 x4 x2 h => K .normal (fs [(1,x1),(3,x3),(4,x4),(2,x2)]) h) := by
 kernel_rfl
noncomputable def cafE : Code := cR caeQ
noncomputable def capM : Code := cL cafE
noncomputable def papM (C : CF) (L : Nat) {β : Type} (x1 x3 x4 x2 : Value) (h : H) (kn : Kv4 β) : Option β :=
 bnd (A.fieldAddr 8 x1) fun t23 =>
 bnd (A.load false 1 t23 h) fun t24 =>
 toBK t24 fun b =>
 (bif b then
 bnd2 (C 63 [x3,(.int .u8 99)] h) fun t27 hq1 =>
 toBK t27 fun bq1 =>
 bnd (A.fieldAddr 8 x4) fun t29 =>
 bnd (A.store 1 t29 (.bool bq1) hq1) fun hq2 =>
 kn x1 x3 x4 x2 hq2
 else
 bnd (A.fieldAddr 8 x4) fun t29q1 =>
 bnd (A.store 1 t29q1 (.bool false) h) fun hq3 =>
 kn x1 x3 x4 x2 hq3)
theorem epapM (x1 x3 x4 x2 : Value) :
  execK prog C L 0 79 [2] capM [1,3,4,2] [] (fs [(1,x1),(3,x3),(4,x4),(2,x2)]) h K =
   papM C L x1 x3 x4 x2 h (fun x1 x3 x4 x2 h => K .normal (fs [(1,x1),(3,x3),(4,x4),(2,x2)]) h) := by
 kernel_rfl
noncomputable def cafT : Code := cR cafE
noncomputable def carW : Code := cL cafT
noncomputable def parW (C : CF) (L : Nat) {β : Type} (x1 x3 x4 x2 : Value) (h : H) (kn : Kv3 β) : Option β :=
 bnd (A.fieldAddr 20 x1) fun t30 =>
 bnd (A.load false 1 t30 h) fun t31 =>
 toBK t31 fun b =>
 (bif b then
 bnd2 (C 63 [x3,(.int .u8 101)] h) fun t34 hq1 =>
 toBK t34 fun bq1 =>
 bnd (A.fieldAddr 20 x4) fun t36 =>
 bnd (A.store 1 t36 (.bool bq1) hq1) fun hq2 =>
 kn x3 x4 x2 hq2
 else
 bnd (A.fieldAddr 20 x4) fun t36q1 =>
 bnd (A.store 1 t36q1 (.bool false) h) fun hq3 =>
 kn x3 x4 x2 hq3)
theorem eparW (x1 x3 x4 x2 : Value) :
  execK prog C L 0 79 [2] carW [3,4,2] [] (fs [(1,x1),(3,x3),(4,x4),(2,x2)]) h K =
   parW C L x1 x3 x4 x2 h (fun x3 x4 x2 h => K .normal (fs [(3,x3),(4,x4),(2,x2)]) h) := by
 kernel_rfl
noncomputable def cagO : Code := cR cafT
noncomputable def capN : Code := cL cagO
noncomputable def papN (C : CF) (L : Nat) {β : Type} (x3 x4 x2 : Value) (h : H) (kn : Kv3 β) : Option β :=
 bnd2 (C 63 [x3,(.int .u8 113)] h) fun t38 hq1 =>
 toBK t38 fun b =>
 bnd (A.un prog .not (.bool b)) fun t39 =>
 toBK t39 fun bq1 =>
 (bif bq1 then
 bnd (A.fieldAddr 2 x4) fun t40 =>
 bnd (A.store 1 t40 (.int .u8 0) hq1) fun hq2 =>
 kn x3 x4 x2 hq2
 else
 kn x3 x4 x2 hq1)
theorem epapN (x3 x4 x2 : Value) :
  execK prog C L 0 79 [2] capN [3,4,2] [] (fs [(3,x3),(4,x4),(2,x2)]) h K =
   papN C L x3 x4 x2 h (fun x3 x4 x2 h => K .normal (fs [(3,x3),(4,x4),(2,x2)]) h) := by
 kernel_rfl
noncomputable def cahM : Code := cR cagO
noncomputable def capO : Code := cL cahM
noncomputable def papO (C : CF) (L : Nat) {β : Type} (x3 x4 x2 : Value) (h : H) (kn : Kv3 β) : Option β :=
 bnd2 (C 63 [x3,(.int .u8 105)] h) fun t42 hq1 =>
 toBK t42 fun b =>
 bnd (A.un prog .not (.bool b)) fun t43 =>
 toBK t43 fun bq1 =>
 (bif bq1 then
 bnd (A.fieldAddr 4 x4) fun t44 =>
 bnd (A.store 1 t44 (.int .u16 0) hq1) fun hq2 =>
 kn x3 x4 x2 hq2
 else
 kn x3 x4 x2 hq1)
theorem epapO (x3 x4 x2 : Value) :
  execK prog C L 0 79 [2] capO [3,4,2] [] (fs [(3,x3),(4,x4),(2,x2)]) h K =
   papO C L x3 x4 x2 h (fun x3 x4 x2 h => K .normal (fs [(3,x3),(4,x4),(2,x2)]) h) := by
 kernel_rfl
noncomputable def caiS : Code := cR cahM
noncomputable def capP : Code := cL caiS
noncomputable def papP (C : CF) (L : Nat) {β : Type} (x3 x4 x2 : Value) (h : H) (kn : Kv3 β) : Option β :=
 bnd2 (C 63 [x3,(.int .u8 116)] h) fun t46 hq1 =>
 toBK t46 fun b =>
 bnd (A.un prog .not (.bool b)) fun t47 =>
 toBK t47 fun bq1 =>
 (bif bq1 then
 bnd (A.fieldAddr 5 x4) fun t48 =>
 bnd (A.store 1 t48 (.string ⟨⟨[]⟩⟩) hq1) fun hq2 =>
 kn x3 x4 x2 hq2
 else
 kn x3 x4 x2 hq1)
theorem epapP (x3 x4 x2 : Value) :
  execK prog C L 0 79 [2] capP [3,4,2] [] (fs [(3,x3),(4,x4),(2,x2)]) h K =
   papP C L x3 x4 x2 h (fun x3 x4 x2 h => K .normal (fs [(3,x3),(4,x4),(2,x2)]) h) := by
 kernel_rfl
noncomputable def cajW : Code := cR caiS
noncomputable def capQ : Code := cL cajW
noncomputable def papQ (C : CF) (L : Nat) {β : Type} (x3 x4 x2 : Value) (h : H) (kn : Kv3 β) : Option β :=
 bnd2 (C 63 [x3,(.int .u8 112)] h) fun t50 hq1 =>
 toBK t50 fun b =>
 bnd (A.un prog .not (.bool b)) fun t51 =>
 toBK t51 fun bq1 =>
 (bif bq1 then
 bnd (A.fieldAddr 6 x4) fun t52 =>
 bnd (A.store 1 t52 (.string ⟨⟨[]⟩⟩) hq1) fun hq2 =>
 kn x3 x4 x2 hq2
 else
 kn x3 x4 x2 hq1)
theorem epapQ (x3 x4 x2 : Value) :
  execK prog C L 0 79 [2] capQ [3,4,2] [] (fs [(3,x3),(4,x4),(2,x2)]) h K =
   papQ C L x3 x4 x2 h (fun x3 x4 x2 h => K .normal (fs [(3,x3),(4,x4),(2,x2)]) h) := by
 kernel_rfl
noncomputable def calY : Code := cR cajW
noncomputable def capR : Code := cL calY
noncomputable def papR (C : CF) (L : Nat) {β : Type} (x3 x4 x2 : Value) (h : H) (kn : Kv3 β) : Option β :=
 bnd2 (C 63 [x3,(.int .u8 108)] h) fun t54 hq1 =>
 toBK t54 fun b =>
 bnd (A.un prog .not (.bool b)) fun t55 =>
 toBK t55 fun bq1 =>
 (bif bq1 then
 bnd (A.fieldAddr 7 x4) fun t56 =>
 bnd (A.store 1 t56 (.int .u8 0) hq1) fun hq2 =>
 bnd (A.fieldAddr 9 x4) fun t57 =>
 bnd (A.store 1 t57 (.int .u16 0) hq2) fun hq3 =>
 bnd (A.fieldAddr 10 x4) fun t58 =>
 bnd (A.store 1 t58 (.string ⟨⟨[]⟩⟩) hq3) fun hq4 =>
 bnd (A.fieldAddr 11 x4) fun t59 =>
 bnd (A.store 1 t59 (.bool false) hq4) fun hq5 =>
 bnd (A.build Z74L []) fun t60 =>
 bnd (A.fieldAddr 12 x4) fun t61 =>
 bnd (A.store 4 t61 t60 hq5) fun hq6 =>
 bnd (A.fieldAddr 16 x4) fun t62 =>
 bnd (A.store 1 t62 (.bool false) hq6) fun hq7 =>
 bnd (A.fieldAddr 18 x4) fun t63 =>
 bnd (A.store 1 t63 (.string ⟨⟨[]⟩⟩) hq7) fun hq8 =>
 bnd (A.fieldAddr 17 x4) fun t64 =>
 bnd (A.store 1 t64 (.bool false) hq8) fun hq9 =>
 bnd (A.fieldAddr 19 x4) fun t65 =>
 bnd (A.store 1 t65 (.string ⟨⟨[]⟩⟩) hq9) fun hq10 =>
 kn x3 x4 x2 hq10
 else
 kn x3 x4 x2 hq1)
theorem epapR (x3 x4 x2 : Value) :
  execK prog C L 0 79 [2] capR [3,4,2] [] (fs [(3,x3),(4,x4),(2,x2)]) h K =
   papR C L x3 x4 x2 h (fun x3 x4 x2 h => K .normal (fs [(3,x3),(4,x4),(2,x2)]) h) := by
 kernel_rfl
noncomputable def capS : Code := cR calY
noncomputable def papS (C : CF) (L : Nat) {β : Type} (x3 x4 x2 : Value) (h : H) (kr : Kv1 β) : Option β :=
 bnd2 (C 63 [x3,(.int .u8 111)] h) fun t67 hq1 =>
 toBK t67 fun b =>
 bnd (A.un prog .not (.bool b)) fun t68 =>
 toBK t68 fun bq1 =>
 (bif bq1 then
 bnd (A.fieldAddr 21 x4) fun t69 =>
 bnd (A.store 1 t69 (.int .u8 0) hq1) fun hq2 =>
 bnd2 (C 63 [x3,(.int .u8 98)] hq2) fun t71 hq3 =>
 toBK t71 fun bq2 =>
 bnd (A.un prog .not (.bool bq2)) fun t72 =>
 toBK t72 fun bq3 =>
 (bif bq3 then
 bnd (A.fieldAddr 22 x4) fun t73 =>
 bnd (A.store 1 t73 (.slice none 0 0) hq3) fun hq4 =>
 bnd2 (C 63 [x3,(.int .u8 109)] hq4) fun t75 hq5 =>
 toBK t75 fun bq4 =>
 bnd (A.un prog .not (.bool bq4)) fun t76 =>
 toBK t76 fun bq5 =>
 (bif bq5 then
 bnd (A.fieldAddr 23 x4) fun t77 =>
 bnd (A.store 1 t77 (.string ⟨⟨[]⟩⟩) hq5) fun hq6 =>
 bnd (A.load true 24 x4 hq6) fun t78 =>
 bnd (A.store 24 x2 t78 hq6) fun hq7 =>
 kr x2 hq7
 else
 bnd (A.load true 24 x4 hq5) fun t78q1 =>
 bnd (A.store 24 x2 t78q1 hq5) fun hq8 =>
 kr x2 hq8)
 else
 bnd2 (C 63 [x3,(.int .u8 109)] hq3) fun t75q1 hq9 =>
 toBK t75q1 fun bq6 =>
 bnd (A.un prog .not (.bool bq6)) fun t76q1 =>
 toBK t76q1 fun bq7 =>
 (bif bq7 then
 bnd (A.fieldAddr 23 x4) fun t77q1 =>
 bnd (A.store 1 t77q1 (.string ⟨⟨[]⟩⟩) hq9) fun hq10 =>
 bnd (A.load true 24 x4 hq10) fun t78q2 =>
 bnd (A.store 24 x2 t78q2 hq10) fun hq11 =>
 kr x2 hq11
 else
 bnd (A.load true 24 x4 hq9) fun t78q3 =>
 bnd (A.store 24 x2 t78q3 hq9) fun hq12 =>
 kr x2 hq12))
 else
 bnd2 (C 63 [x3,(.int .u8 98)] hq1) fun t71q1 hq13 =>
 toBK t71q1 fun bq8 =>
 bnd (A.un prog .not (.bool bq8)) fun t72q1 =>
 toBK t72q1 fun bq9 =>
 (bif bq9 then
 bnd (A.fieldAddr 22 x4) fun t73q1 =>
 bnd (A.store 1 t73q1 (.slice none 0 0) hq13) fun hq14 =>
 bnd2 (C 63 [x3,(.int .u8 109)] hq14) fun t75q2 hq15 =>
 toBK t75q2 fun bq10 =>
 bnd (A.un prog .not (.bool bq10)) fun t76q2 =>
 toBK t76q2 fun bq11 =>
 (bif bq11 then
 bnd (A.fieldAddr 23 x4) fun t77q2 =>
 bnd (A.store 1 t77q2 (.string ⟨⟨[]⟩⟩) hq15) fun hq16 =>
 bnd (A.load true 24 x4 hq16) fun t78q4 =>
 bnd (A.store 24 x2 t78q4 hq16) fun hq17 =>
 kr x2 hq17
 else
 bnd (A.load true 24 x4 hq15) fun t78q5 =>
 bnd (A.store 24 x2 t78q5 hq15) fun hq18 =>
 kr x2 hq18)
 else
 bnd2 (C 63 [x3,(.int .u8 109)] hq13) fun t75q3 hq19 =>
 toBK t75q3 fun bq12 =>
 bnd (A.un prog .not (.bool bq12)) fun t76q3 =>
 toBK t76q3 fun bq13 =>
 (bif bq13 then
 bnd (A.fieldAddr 23 x4) fun t77q3 =>
 bnd (A.store 1 t77q3 (.string ⟨⟨[]⟩⟩) hq19) fun hq20 =>
 bnd (A.load true 24 x4 hq20) fun t78q6 =>
 bnd (A.store 24 x2 t78q6 hq20) fun hq21 =>
 kr x2 hq21
 else
 bnd (A.load true 24 x4 hq19) fun t78q7 =>
 bnd (A.store 24 x2 t78q7 hq19) fun hq22 =>
 kr x2 hq22)))
theorem epapS (x3 x4 x2 : Value) :
  execK prog C L 0 79 [2] capS [2] [] (fs [(3,x3),(4,x4),(2,x2)]) h K =
   papS C L x3 x4 x2 h (fun x2 h => K .ret (fs [(2,x2)]) h) := by
 kernel_rfl
noncomputable def p59a (C : CF) (L : Nat) {β : Type} (x0 : Value) (h : H) (kr : Kv1 β) : Option β :=
 pawK C L x0 h (fun x1 x2 h => pawL C L x1 x2 h (fun x1 x3 x2 h => pawM C L x1 x3 x2 h (fun x1 x3 x4 x2 h => papK C L x1 x3 x4 x2 h (fun x1 x3 x4 x2 h => papL C L x1 x3 x4 x2 h (fun x1 x3 x4 x2 h => papM C L x1 x3 x4 x2 h (fun x1 x3 x4 x2 h => parW C L x1 x3 x4 x2 h (fun x3 x4 x2 h => papN C L x3 x4 x2 h (fun x3 x4 x2 h => papO C L x3 x4 x2 h (fun x3 x4 x2 h => papP C L x3 x4 x2 h (fun x3 x4 x2 h => papQ C L x3 x4 x2 h (fun x3 x4 x2 h => papR C L x3 x4 x2 h (fun x3 x4 x2 h => papS C L x3 x4 x2 h kr))))))))))))
theorem ep59a (x0 : Value) :
  execK prog C L 0 79 [2] c59a [2] [] (fs [(0,x0)]) h K =
   p59a C L x0 h (fun x2 h => K .ret (fs [(2,x2)]) h) := by
 rw [execK_seq (a := cawK) (b := cadL) (by kernel_rfl) (show live [2] cadL [2] [] = [1,2] by kernel_rfl),epawK]
 unfold p59a
 exact (congrArg (pawK C L x0 h) (funext fun x1=>funext fun x2=>funext fun h => (seqK_n _ _ _).trans (by rw [execK_seq (a := cawL) (b := cadY) (by kernel_rfl) (show live [2] cadY [2] [] = [1,3,2] by kernel_rfl),epawL]; exact (congrArg (pawL C L x1 x2 h) (funext fun x1=>funext fun x3=>funext fun x2=>funext fun h => (seqK_n _ _ _).trans (by rw [execK_seq (a := cawM) (b := caeB) (by kernel_rfl) (show live [2] caeB [2] [] = [1,3,4,2] by kernel_rfl),epawM]; exact (congrArg (pawM C L x1 x3 x2 h) (funext fun x1=>funext fun x3=>funext fun x4=>funext fun x2=>funext fun h => (seqK_n _ _ _).trans (by rw [execK_seq (a := capK) (b := caeQ) (by kernel_rfl) (show live [2] caeQ [2] [] = [1,3,4,2] by kernel_rfl),epapK]; exact (congrArg (papK C L x1 x3 x4 x2 h) (funext fun x1=>funext fun x3=>funext fun x4=>funext fun x2=>funext fun h => (seqK_n _ _ _).trans (by rw [execK_seq (a := capL) (b := cafE) (by kernel_rfl) (show live [2] cafE [2] [] = [1,3,4,2] by kernel_rfl),epapL]; exact (congrArg (papL C L x1 x3 x4 x2 h) (funext fun x1=>funext fun x3=>funext fun x4=>funext fun x2=>funext fun h => (seqK_n _ _ _).trans (by rw [execK_seq (a := capM) (b := cafT) (by kernel_rfl) (show live [2] cafT [2] [] = [1,3,4,2] by kernel_rfl),epapM]; exact (congrArg (papM C L x1 x3 x4 x2 h) (funext fun x1=>funext fun x3=>funext fun x4=>funext fun x2=>funext fun h => (seqK_n _ _ _).trans (by rw [execK_seq (a := carW) (b := cagO) (by kernel_rfl) (show live [2] cagO [2] [] = [3,4,2] by kernel_rfl),eparW]; exact (congrArg (parW C L x1 x3 x4 x2 h) (funext fun x3=>funext fun x4=>funext fun x2=>funext fun h => (seqK_n _ _ _).trans (by rw [execK_seq (a := capN) (b := cahM) (by kernel_rfl) (show live [2] cahM [2] [] = [3,4,2] by kernel_rfl),epapN]; exact (congrArg (papN C L x3 x4 x2 h) (funext fun x3=>funext fun x4=>funext fun x2=>funext fun h => (seqK_n _ _ _).trans (by rw [execK_seq (a := capO) (b := caiS) (by kernel_rfl) (show live [2] caiS [2] [] = [3,4,2] by kernel_rfl),epapO]; exact (congrArg (papO C L x3 x4 x2 h) (funext fun x3=>funext fun x4=>funext fun x2=>funext fun h => (seqK_n _ _ _).trans (by rw [execK_seq (a := capP) (b := cajW) (by kernel_rfl) (show live [2] cajW [2] [] = [3,4,2] by kernel_rfl),epapP]; exact (congrArg (papP C L x3 x4 x2 h) (funext fun x3=>funext fun x4=>funext fun x2=>funext fun h => (seqK_n _ _ _).trans (by rw [execK_seq (a := capQ) (b := calY) (by kernel_rfl) (show live [2] calY [2] [] = [3,4,2] by kernel_rfl),epapQ]; exact (congrArg (papQ C L x3 x4 x2 h) (funext fun x3=>funext fun x4=>funext fun x2=>funext fun h => (seqK_n _ _ _).trans (by rw [execK_seq (a := capR) (b := capS) (by kernel_rfl) (show live [2] capS [2] [] = [3,4,2] by kernel_rfl),epapR]; exact (congrArg (papR C L x3 x4 x2 h) (funext fun x3=>funext fun x4=>funext fun x2=>funext fun h => (seqK_n _ _ _).trans (epapS C L h K x3 x4 x2))))))))))))))))))))))))))))))))))))
noncomputable def F59 (C : CF) (L : Nat) (x0 : Value) (h : H) : Option (Value × H) :=
 p59a C L x0 h
  (fun x2 h => bnd (resC (A.load true 24 x2 h) (some [])) fun vs => some (packA vs,h))
theorem F59eq (Q : Orc) (n : Nat) (x0 : Value) (h : H) (hQ : Q 59 [x0] = none) : callO prog 0 Q (n + 1) 59 [x0] h = F59 (callO prog 0 Q n) n x0 h := by
 rw [callO_eq hQ (c := c59a) (nt := 79) (RR := [2]) (fr := (fs [(0,x0)])) Tryz.func59 (by kernel_rfl) (by kernel_rfl) (by kernel_rfl) (by kernel_rfl) (by kernel_rfl),ep59a]
 kernel_rfl
noncomputable def c60a : Code := (Tryz.f60.body).getD .skip
noncomputable def cawS : Code := cL c60a
noncomputable def pawS (C : CF) (L : Nat) {β : Type} (x0 : Value) (h : H) (kn : Kv1 β) : Option β :=
 bnd2 (A.box 24 x0 h) fun t1 hq1 =>
 kn t1 hq1
theorem epawS (x0 : Value) :
  execK prog C L 0 85 [2] cawS [1] [] (fs [(0,x0)]) h K =
   pawS C L x0 h (fun x1 h => K .normal (fs [(1,x1)]) h) := by
 kernel_rfl
noncomputable def cacF : Code := cR c60a
noncomputable def caeN : Code := cL cacF
noncomputable def cawT : Code := cL caeN
noncomputable def pawT (C : CF) (L : Nat) {β : Type} (x1 : Value) (h : H) (kn : Kv2 β) : Option β :=
 kn (.int .i64 0) x1 h
theorem epawT (x1 : Value) :
  execK prog C L 0 85 [2] cawT [3,1] [] (fs [(1,x1)]) h K =
   pawT C L x1 h (fun x3 x1 h => K .normal (fs [(3,x3),(1,x1)]) h) := by
 kernel_rfl
noncomputable def cafI : Code := cR caeN
noncomputable def cafR : Code := cL cafI
noncomputable def cagX : Code := cL cafR
noncomputable def capT : Code := cL cagX
noncomputable def papT (C : CF) (L : Nat) {β : Type} (x3 x1 : Value) (h : H) (kn : Kv2 β) (kx0 : Kv1 β) : Option β :=
 bnd (A.fieldAddr 22 x1) fun t6 =>
 bnd (A.load false 1 t6 h) fun t7 =>
 bnd (A.lenS t7) fun t8 =>
 bnd (A.bin prog .lss 3 x3 t8) fun t9 =>
 toBK t9 fun b =>
 (bif b then
 kn x3 x1 h
 else
 kx0 x1 h)
theorem epapT (x3 x1 : Value) :
  execK prog C L 0 85 [2] capT [3,1] [(0,[1])] (fs [(3,x3),(1,x1)]) h K =
   papT C L x3 x1 h (fun x3 x1 h => K .normal (fs [(3,x3),(1,x1)]) h) (fun x1 h => K (.exit 0) (fs [(1,x1)]) h) := by
 kernel_rfl
noncomputable def caiR : Code := cR cagX
noncomputable def cajS : Code := cL caiR
noncomputable def calC : Code := cL cajS
noncomputable def carZ : Code := cL calC
noncomputable def parZ (C : CF) (L : Nat) {β : Type} (x3 x1 : Value) (h : H) (kn : Kv3 β) : Option β :=
 bnd (A.fieldAddr 22 x1) fun t12 =>
 bnd (A.load false 1 t12 h) fun t13 =>
 bnd (A.idxS 2 t13 x3) fun t15 =>
 bnd (A.fieldAddr 0 t15) fun t16 =>
 bnd (A.load false 1 t16 h) fun t17 =>
 bnd2 (C 88 [t17] h) fun t18 hq1 =>
 toBK t18 fun b =>
 bnd (A.un prog .not (.bool b)) fun t19 =>
 toBK t19 fun bq1 =>
 (bif bq1 then
 kn (.bool true) x3 x1 hq1
 else
 bnd (A.fieldAddr 22 x1) fun t21 =>
 bnd (A.load false 1 t21 hq1) fun t22 =>
 bnd (A.idxS 2 t22 x3) fun t24 =>
 bnd (A.fieldAddr 1 t24) fun t25 =>
 bnd (A.load false 1 t25 hq1) fun t26 =>
 bnd (A.bin prog .gtr 5 t26 (.int .u8 2)) fun t27 =>
 toBK t27 fun bq2 =>
 (bif bq2 then
 kn (.bool true) x3 x1 hq1
 else
 bnd (A.fieldAddr 0 x1) fun t30 =>
 bnd (A.load false 1 t30 hq1) fun t31 =>
 bnd (A.bin prog .eql 5 t31 (.int .u8 10)) fun t32 =>
 toBK t32 fun bq3 =>
 (bif bq3 then
 bnd (A.fieldAddr 22 x1) fun t34 =>
 bnd (A.load false 1 t34 hq1) fun t35 =>
 bnd (A.idxS 2 t35 x3) fun t37 =>
 bnd (A.fieldAddr 1 t37) fun t38 =>
 bnd (A.load false 1 t38 hq1) fun t39 =>
 bnd (A.bin prog .gtr 5 t39 (.int .u8 0)) fun t40 =>
 toBK t40 fun bq4 =>
 kn (.bool bq4) x3 x1 hq1
 else
 kn (.bool false) x3 x1 hq1)))
theorem eparZ (x3 x1 : Value) :
  execK prog C L 0 85 [2] carZ [42,3,1] [(1,[3,1]),(0,[1])] (fs [(3,x3),(1,x1)]) h K =
   parZ C L x3 x1 h (fun x42 x3 x1 h => K .normal (fs [(42,x42),(3,x3),(1,x1)]) h) := by
 kernel_rfl
noncomputable def casA : Code := cR calC
noncomputable def pasA (C : CF) (L : Nat) {β : Type} (x42 x3 x1 : Value) (h : H) (kr : Kv1 β) (kn : Kv2 β) : Option β :=
 condV x42 (
 kr (.bool false) h) (
 kn x3 x1 h)
theorem epasA (x42 x3 x1 : Value) :
  execK prog C L 0 85 [2] casA [3,1] [(1,[3,1]),(0,[1])] (fs [(42,x42),(3,x3),(1,x1)]) h K =
   pasA C L x42 x3 x1 h (fun x2 h => K .ret (fs [(2,x2)]) h) (fun x3 x1 h => K .normal (fs [(3,x3),(1,x1)]) h) := by
 kernel_rfl
noncomputable def palC (C : CF) (L : Nat) {β : Type} (x3 x1 : Value) (h : H) (kr : Kv1 β) (kn : Kv2 β) : Option β :=
 parZ C L x3 x1 h (fun x42 x3 x1 h => pasA C L x42 x3 x1 h kr kn)
theorem epalC (x3 x1 : Value) :
  execK prog C L 0 85 [2] calC [3,1] [(1,[3,1]),(0,[1])] (fs [(3,x3),(1,x1)]) h K =
   palC C L x3 x1 h (fun x2 h => K .ret (fs [(2,x2)]) h) (fun x3 x1 h => K .normal (fs [(3,x3),(1,x1)]) h) := by
 rw [execK_seq (a := carZ) (b := casA) (by kernel_rfl) (show live [2] casA [3,1] [(1,[3,1]),(0,[1])] = [42,3,1] by kernel_rfl),eparZ]
 unfold palC
 exact (congrArg (parZ C L x3 x1 h) (funext fun x42=>funext fun x3=>funext fun x1=>funext fun h => (seqK_n _ _ _).trans (epasA C L h K x42 x3 x1)))
noncomputable def pajS (C : CF) (L : Nat) {β : Type} (x3 x1 : Value) (h : H) (kr : Kv1 β) (kn : Kv2 β) : Option β :=
 palC C L x3 x1 h kr kn
theorem epajS (x3 x1 : Value) :
  execK prog C L 0 85 [2] cajS [3,1] [(0,[1])] (fs [(3,x3),(1,x1)]) h K =
   pajS C L x3 x1 h (fun x2 h => K .ret (fs [(2,x2)]) h) (fun x3 x1 h => K .normal (fs [(3,x3),(1,x1)]) h) := by
 rw [execK_block (b := calC) (id := 1) (by kernel_rfl),epalC]
 unfold pajS
 rfl
noncomputable def casB : Code := cR caiR
noncomputable def pasB (C : CF) (L : Nat) {β : Type} (x3 x1 : Value) (h : H) (kn : Kv2 β) : Option β :=
 bnd (A.bin prog .add 3 x3 (.int .i64 1)) fun t11 =>
 kn t11 x1 h
theorem epasB (x3 x1 : Value) :
  execK prog C L 0 85 [2] casB [3,1] [(0,[1])] (fs [(3,x3),(1,x1)]) h K =
   pasB C L x3 x1 h (fun x3 x1 h => K .normal (fs [(3,x3),(1,x1)]) h) := by
 kernel_rfl
noncomputable def pagX (C : CF) (L : Nat) {β : Type} (x3 x1 : Value) (h : H) (kn : Kv2 β) (kr : Kv1 β) (kx0 : Kv1 β) : Option β :=
 papT C L x3 x1 h (fun x3 x1 h => pajS C L x3 x1 h kr (fun x3 x1 h => pasB C L x3 x1 h kn)) kx0
theorem epagX (x3 x1 : Value) :
  execK prog C L 0 85 [2] cagX [3,1] [(0,[1])] (fs [(3,x3),(1,x1)]) h K =
   pagX C L x3 x1 h (fun x3 x1 h => K .normal (fs [(3,x3),(1,x1)]) h) (fun x2 h => K .ret (fs [(2,x2)]) h) (fun x1 h => K (.exit 0) (fs [(1,x1)]) h) := by
 rw [execK_seq (a := capT) (b := caiR) (by kernel_rfl) (show live [2] caiR [3,1] [(0,[1])] = [3,1] by kernel_rfl),epapT]
 unfold pagX
 exact (congr (congrArg (papT C L x3 x1 h) (funext fun x3=>funext fun x1=>funext fun h => (seqK_n _ _ _).trans (by rw [execK_seq (a := cajS) (b := casB) (by kernel_rfl) (show live [2] casB [3,1] [(0,[1])] = [3,1] by kernel_rfl),epajS]; exact (congr (congrArg (pajS C L x3 x1 h) (funext fun x2=>funext fun h => seqK_r _ _ _)) (funext fun x3=>funext fun x1=>funext fun h => (seqK_n _ _ _).trans (epasB C L h K x3 x1)))))) (funext fun x1=>funext fun h => seqK_x _ _ _ _))
noncomputable def pasC (C : CF) (L : Nat) {β : Type} (kr : Kv1 β) (kx0 : Kv1 β) : Nat → Kv2 β
 | 0,_,_,_ => none
 | n + 1,x3,x1,h => pagX C L x3 x1 h (fun x3 x1 h => pasC C L kr kx0 n x3 x1 h) kr kx0
theorem epasC (C : CF) (L : Nat) {β : Type} (K : Ex → T Value → Kv0 β) : ∀ (n : Nat) (x3 x1 : Value) (h : H),
  loopK (fun fr h K => execK prog C L 0 85 [2] cagX [3,1] [(0,[1])] fr h K) n (fs [(3,x3),(1,x1)]) h K =
   pasC C L (fun x2 h => K .ret (fs [(2,x2)]) h) (fun x1 h => K (.exit 0) (fs [(1,x1)]) h) n x3 x1 h := by
 intro n
 induction n with
 | zero => intros; rfl
 | succ n ih =>
  intros
  simp only [loopK]
  rw [epagX]
  simp only [seqK_n,seqK_x,seqK_r,ih]
  rfl
noncomputable def pafR (C : CF) (L : Nat) {β : Type} (x3 x1 : Value) (h : H) (kr : Kv1 β) (kx0 : Kv1 β) : Option β :=
 pasC C L kr kx0 L x3 x1 h
theorem epafR (x3 x1 : Value) :
  execK prog C L 0 85 [2] cafR [1] [(0,[1])] (fs [(3,x3),(1,x1)]) h K =
   pafR C L x3 x1 h (fun x2 h => K .ret (fs [(2,x2)]) h) (fun x1 h => K (.exit 0) (fs [(1,x1)]) h) := by
 rw [execK_loop (b := cagX) (fr1 := (fs [(3,x3),(1,x1)])) (by kernel_rfl) (show live [2] cagX [] [(0,[1])] = [3,1] by kernel_rfl) (by kernel_rfl),epasC]
 unfold pafR
 rfl
noncomputable def pafI (C : CF) (L : Nat) {β : Type} (x3 x1 : Value) (h : H) (kr : Kv1 β) (kn : Kv1 β) : Option β :=
 pafR C L x3 x1 h kr kn
theorem epafI (x3 x1 : Value) :
  execK prog C L 0 85 [2] cafI [1] [] (fs [(3,x3),(1,x1)]) h K =
   pafI C L x3 x1 h (fun x2 h => K .ret (fs [(2,x2)]) h) (fun x1 h => K .normal (fs [(1,x1)]) h) := by
 rw [execK_block (b := cafR) (id := 0) (by kernel_rfl),epafR]
 unfold pafI
 rfl
noncomputable def paeN (C : CF) (L : Nat) {β : Type} (x1 : Value) (h : H) (kr : Kv1 β) (kn : Kv1 β) : Option β :=
 pawT C L x1 h (fun x3 x1 h => pafI C L x3 x1 h kr kn)
theorem epaeN (x1 : Value) :
  execK prog C L 0 85 [2] caeN [1] [] (fs [(1,x1)]) h K =
   paeN C L x1 h (fun x2 h => K .ret (fs [(2,x2)]) h) (fun x1 h => K .normal (fs [(1,x1)]) h) := by
 rw [execK_seq (a := cawT) (b := cafI) (by kernel_rfl) (show live [2] cafI [1] [] = [3,1] by kernel_rfl),epawT]
 unfold paeN
 exact (congrArg (pawT C L x1 h) (funext fun x3=>funext fun x1=>funext fun h => (seqK_n _ _ _).trans (epafI C L h K x3 x1)))
noncomputable def cafF : Code := cR cacF
noncomputable def cafW : Code := cL cafF
noncomputable def cawU : Code := cL cafW
noncomputable def pawU (C : CF) (L : Nat) {β : Type} (x1 : Value) (h : H) (kn : Kv2 β) : Option β :=
 kn (.int .i64 0) x1 h
theorem epawU (x1 : Value) :
  execK prog C L 0 85 [2] cawU [4,1] [] (fs [(1,x1)]) h K =
   pawU C L x1 h (fun x4 x1 h => K .normal (fs [(4,x4),(1,x1)]) h) := by
 kernel_rfl
noncomputable def cahD : Code := cR cafW
noncomputable def cahU : Code := cL cahD
noncomputable def cajD : Code := cL cahU
noncomputable def cawV : Code := cL cajD
noncomputable def pawV (C : CF) (L : Nat) {β : Type} (x4 x1 : Value) (h : H) (kn : Kv2 β) (kx2 : Kv1 β) : Option β :=
 bnd (A.fieldAddr 23 x1) fun t44 =>
 bnd (A.load false 1 t44 h) fun t45 =>
 bnd (A.lenStr t45) fun t46 =>
 bnd (A.bin prog .lss 3 x4 t46) fun t47 =>
 toBK t47 fun b =>
 (bif b then
 kn x4 x1 h
 else
 kx2 x1 h)
theorem epawV (x4 x1 : Value) :
  execK prog C L 0 85 [2] cawV [4,1] [(2,[1])] (fs [(4,x4),(1,x1)]) h K =
   pawV C L x4 x1 h (fun x4 x1 h => K .normal (fs [(4,x4),(1,x1)]) h) (fun x1 h => K (.exit 2) (fs [(1,x1)]) h) := by
 kernel_rfl
noncomputable def calQ : Code := cR cajD
noncomputable def camU : Code := cL calQ
noncomputable def cayR : Code := cL camU
noncomputable def payR (C : CF) (L : Nat) {β : Type} (x4 x1 : Value) (h : H) (kr : Kv1 β) (kn : Kv2 β) : Option β :=
 bnd (A.fieldAddr 23 x1) fun t50 =>
 bnd (A.load false 1 t50 h) fun t51 =>
 bnd (A.indexStr t51 x4) fun t53 =>
 bnd (A.bin prog .gtr 5 t53 (.int .u8 2)) fun t54 =>
 toBK t54 fun b =>
 (bif b then
 bnd (A.fieldAddr 23 x1) fun t56 =>
 bnd (A.load false 1 t56 h) fun t57 =>
 bnd (A.indexStr t57 x4) fun t59 =>
 bnd (A.bin prog .neq 5 t59 (.int .u8 128)) fun t60 =>
 toBK t60 fun bq1 =>
 (bif bq1 then
 kr (.bool false) h
 else
 kn x4 x1 h)
 else
 kn x4 x1 h)
theorem epayR (x4 x1 : Value) :
  execK prog C L 0 85 [2] cayR [4,1] [(3,[4,1]),(2,[1])] (fs [(4,x4),(1,x1)]) h K =
   payR C L x4 x1 h (fun x2 h => K .ret (fs [(2,x2)]) h) (fun x4 x1 h => K .normal (fs [(4,x4),(1,x1)]) h) := by
 kernel_rfl
noncomputable def pamU (C : CF) (L : Nat) {β : Type} (x4 x1 : Value) (h : H) (kr : Kv1 β) (kn : Kv2 β) : Option β :=
 payR C L x4 x1 h kr kn
theorem epamU (x4 x1 : Value) :
  execK prog C L 0 85 [2] camU [4,1] [(2,[1])] (fs [(4,x4),(1,x1)]) h K =
   pamU C L x4 x1 h (fun x2 h => K .ret (fs [(2,x2)]) h) (fun x4 x1 h => K .normal (fs [(4,x4),(1,x1)]) h) := by
 rw [execK_block (b := cayR) (id := 3) (by kernel_rfl),epayR]
 unfold pamU
 rfl
noncomputable def caxX : Code := cR calQ
noncomputable def paxX (C : CF) (L : Nat) {β : Type} (x4 x1 : Value) (h : H) (kn : Kv2 β) : Option β :=
 bnd (A.bin prog .add 3 x4 (.int .i64 1)) fun t49 =>
 kn t49 x1 h
theorem epaxX (x4 x1 : Value) :
  execK prog C L 0 85 [2] caxX [4,1] [(2,[1])] (fs [(4,x4),(1,x1)]) h K =
   paxX C L x4 x1 h (fun x4 x1 h => K .normal (fs [(4,x4),(1,x1)]) h) := by
 kernel_rfl
noncomputable def pajD (C : CF) (L : Nat) {β : Type} (x4 x1 : Value) (h : H) (kn : Kv2 β) (kr : Kv1 β) (kx2 : Kv1 β) : Option β :=
 pawV C L x4 x1 h (fun x4 x1 h => pamU C L x4 x1 h kr (fun x4 x1 h => paxX C L x4 x1 h kn)) kx2
theorem epajD (x4 x1 : Value) :
  execK prog C L 0 85 [2] cajD [4,1] [(2,[1])] (fs [(4,x4),(1,x1)]) h K =
   pajD C L x4 x1 h (fun x4 x1 h => K .normal (fs [(4,x4),(1,x1)]) h) (fun x2 h => K .ret (fs [(2,x2)]) h) (fun x1 h => K (.exit 2) (fs [(1,x1)]) h) := by
 rw [execK_seq (a := cawV) (b := calQ) (by kernel_rfl) (show live [2] calQ [4,1] [(2,[1])] = [4,1] by kernel_rfl),epawV]
 unfold pajD
 exact (congr (congrArg (pawV C L x4 x1 h) (funext fun x4=>funext fun x1=>funext fun h => (seqK_n _ _ _).trans (by rw [execK_seq (a := camU) (b := caxX) (by kernel_rfl) (show live [2] caxX [4,1] [(2,[1])] = [4,1] by kernel_rfl),epamU]; exact (congr (congrArg (pamU C L x4 x1 h) (funext fun x2=>funext fun h => seqK_r _ _ _)) (funext fun x4=>funext fun x1=>funext fun h => (seqK_n _ _ _).trans (epaxX C L h K x4 x1)))))) (funext fun x1=>funext fun h => seqK_x _ _ _ _))
noncomputable def paxY (C : CF) (L : Nat) {β : Type} (kr : Kv1 β) (kx2 : Kv1 β) : Nat → Kv2 β
 | 0,_,_,_ => none
 | n + 1,x4,x1,h => pajD C L x4 x1 h (fun x4 x1 h => paxY C L kr kx2 n x4 x1 h) kr kx2
theorem epaxY (C : CF) (L : Nat) {β : Type} (K : Ex → T Value → Kv0 β) : ∀ (n : Nat) (x4 x1 : Value) (h : H),
  loopK (fun fr h K => execK prog C L 0 85 [2] cajD [4,1] [(2,[1])] fr h K) n (fs [(4,x4),(1,x1)]) h K =
   paxY C L (fun x2 h => K .ret (fs [(2,x2)]) h) (fun x1 h => K (.exit 2) (fs [(1,x1)]) h) n x4 x1 h := by
 intro n
 induction n with
 | zero => intros; rfl
 | succ n ih =>
  intros
  simp only [loopK]
  rw [epajD]
  simp only [seqK_n,seqK_x,seqK_r,ih]
  rfl
noncomputable def pahU (C : CF) (L : Nat) {β : Type} (x4 x1 : Value) (h : H) (kr : Kv1 β) (kx2 : Kv1 β) : Option β :=
 paxY C L kr kx2 L x4 x1 h
theorem epahU (x4 x1 : Value) :
  execK prog C L 0 85 [2] cahU [1] [(2,[1])] (fs [(4,x4),(1,x1)]) h K =
   pahU C L x4 x1 h (fun x2 h => K .ret (fs [(2,x2)]) h) (fun x1 h => K (.exit 2) (fs [(1,x1)]) h) := by
 rw [execK_loop (b := cajD) (fr1 := (fs [(4,x4),(1,x1)])) (by kernel_rfl) (show live [2] cajD [] [(2,[1])] = [4,1] by kernel_rfl) (by kernel_rfl),epaxY]
 unfold pahU
 rfl
noncomputable def pahD (C : CF) (L : Nat) {β : Type} (x4 x1 : Value) (h : H) (kr : Kv1 β) (kn : Kv1 β) : Option β :=
 pahU C L x4 x1 h kr kn
theorem epahD (x4 x1 : Value) :
  execK prog C L 0 85 [2] cahD [1] [] (fs [(4,x4),(1,x1)]) h K =
   pahD C L x4 x1 h (fun x2 h => K .ret (fs [(2,x2)]) h) (fun x1 h => K .normal (fs [(1,x1)]) h) := by
 rw [execK_block (b := cahU) (id := 2) (by kernel_rfl),epahU]
 unfold pahD
 rfl
noncomputable def pafW (C : CF) (L : Nat) {β : Type} (x1 : Value) (h : H) (kr : Kv1 β) (kn : Kv1 β) : Option β :=
 pawU C L x1 h (fun x4 x1 h => pahD C L x4 x1 h kr kn)
theorem epafW (x1 : Value) :
  execK prog C L 0 85 [2] cafW [1] [] (fs [(1,x1)]) h K =
   pafW C L x1 h (fun x2 h => K .ret (fs [(2,x2)]) h) (fun x1 h => K .normal (fs [(1,x1)]) h) := by
 rw [execK_seq (a := cawU) (b := cahD) (by kernel_rfl) (show live [2] cahD [1] [] = [4,1] by kernel_rfl),epawU]
 unfold pafW
 exact (congrArg (pawU C L x1 h) (funext fun x4=>funext fun x1=>funext fun h => (seqK_n _ _ _).trans (epahD C L h K x4 x1)))
noncomputable def capU : Code := cR cafF
noncomputable def papU (C : CF) (L : Nat) {β : Type} (x1 : Value) (h : H) (kr : Kv1 β) : Option β :=
 bnd (A.fieldAddr 0 x1) fun t62 =>
 bnd (A.load false 1 t62 h) fun t63 =>
 bnd (A.bin prog .eql 5 t63 (.int .u8 8)) fun t64 =>
 toBK t64 fun b =>
 (bif b then
 bnd (A.fieldAddr 22 x1) fun t70 =>
 bnd (A.load false 1 t70 h) fun t71 =>
 bnd (A.lenS t71) fun t72 =>
 bnd (A.bin prog .gtr 3 t72 (.int .i64 0)) fun t73 =>
 toBK t73 fun bq1 =>
 bnd (A.bin prog .eql 4 (.bool true) (.bool bq1)) fun t74 =>
 toBK t74 fun bq2 =>
 (bif bq2 then
 bnd (A.fieldAddr 0 x1) fun t76 =>
 bnd (A.load false 1 t76 h) fun t77 =>
 bnd (A.bin prog .eql 5 t77 (.int .u8 9)) fun t78 =>
 toBK t78 fun bq3 =>
 bnd (A.fieldAddr 23 x1) fun t79 =>
 bnd (A.load false 1 t79 h) fun t80 =>
 bnd (A.lenStr t80) fun t81 =>
 bnd (A.bin prog .gtr 3 t81 (.int .i64 0)) fun t82 =>
 toBK t82 fun bq4 =>
 bnd (A.bin prog .eql 4 (.bool bq3) (.bool bq4)) fun t83 =>
 toBK t83 fun bq5 =>
 kr (.bool bq5) h
 else
 kr (.bool false) h)
 else
 bnd (A.fieldAddr 0 x1) fun t66 =>
 bnd (A.load false 1 t66 h) fun t67 =>
 bnd (A.bin prog .eql 5 t67 (.int .u8 10)) fun t68 =>
 toBK t68 fun bq6 =>
 bnd (A.fieldAddr 22 x1) fun t70q1 =>
 bnd (A.load false 1 t70q1 h) fun t71q1 =>
 bnd (A.lenS t71q1) fun t72q1 =>
 bnd (A.bin prog .gtr 3 t72q1 (.int .i64 0)) fun t73q1 =>
 toBK t73q1 fun bq7 =>
 bnd (A.bin prog .eql 4 (.bool bq6) (.bool bq7)) fun t74q1 =>
 toBK t74q1 fun bq8 =>
 (bif bq8 then
 bnd (A.fieldAddr 0 x1) fun t76q1 =>
 bnd (A.load false 1 t76q1 h) fun t77q1 =>
 bnd (A.bin prog .eql 5 t77q1 (.int .u8 9)) fun t78q1 =>
 toBK t78q1 fun bq9 =>
 bnd (A.fieldAddr 23 x1) fun t79q1 =>
 bnd (A.load false 1 t79q1 h) fun t80q1 =>
 bnd (A.lenStr t80q1) fun t81q1 =>
 bnd (A.bin prog .gtr 3 t81q1 (.int .i64 0)) fun t82q1 =>
 toBK t82q1 fun bq10 =>
 bnd (A.bin prog .eql 4 (.bool bq9) (.bool bq10)) fun t83q1 =>
 toBK t83q1 fun bq11 =>
 kr (.bool bq11) h
 else
 kr (.bool false) h))
theorem epapU (x1 : Value) :
  execK prog C L 0 85 [2] capU [2] [] (fs [(1,x1)]) h K =
   papU C L x1 h (fun x2 h => K .ret (fs [(2,x2)]) h) := by
 kernel_rfl
noncomputable def p60a (C : CF) (L : Nat) {β : Type} (x0 : Value) (h : H) (kr : Kv1 β) : Option β :=
 pawS C L x0 h (fun x1 h => paeN C L x1 h kr (fun x1 h => pafW C L x1 h kr (fun x1 h => papU C L x1 h kr)))
theorem ep60a (x0 : Value) :
  execK prog C L 0 85 [2] c60a [2] [] (fs [(0,x0)]) h K =
   p60a C L x0 h (fun x2 h => K .ret (fs [(2,x2)]) h) := by
 rw [execK_seq (a := cawS) (b := cacF) (by kernel_rfl) (show live [2] cacF [2] [] = [1] by kernel_rfl),epawS]
 unfold p60a
 exact (congrArg (pawS C L x0 h) (funext fun x1=>funext fun h => (seqK_n _ _ _).trans (by rw [execK_seq (a := caeN) (b := cafF) (by kernel_rfl) (show live [2] cafF [2] [] = [1] by kernel_rfl),epaeN]; exact (congr (congrArg (paeN C L x1 h) (funext fun x2=>funext fun h => seqK_r _ _ _)) (funext fun x1=>funext fun h => (seqK_n _ _ _).trans (by rw [execK_seq (a := cafW) (b := capU) (by kernel_rfl) (show live [2] capU [2] [] = [1] by kernel_rfl),epafW]; exact (congr (congrArg (pafW C L x1 h) (funext fun x2=>funext fun h => seqK_r _ _ _)) (funext fun x1=>funext fun h => (seqK_n _ _ _).trans (epapU C L h K x1)))))))))
noncomputable def F60 (C : CF) (L : Nat) (x0 : Value) (h : H) : Option (Value × H) :=
 p60a C L x0 h
  (fun x2 h => some (x2,h))
theorem F60eq (Q : Orc) (n : Nat) (x0 : Value) (h : H) (hQ : Q 60 [x0] = none) : callO prog 0 Q (n + 1) 60 [x0] h = F60 (callO prog 0 Q n) n x0 h := by
 rw [callO_eq hQ (c := c60a) (nt := 85) (RR := [2]) (fr := (fs [(0,x0)])) Tryz.func60 (by kernel_rfl) (by kernel_rfl) (by kernel_rfl) (by kernel_rfl) (by kernel_rfl),ep60a]
 kernel_rfl
noncomputable def c61a : Code := (Tryz.f61.body).getD .skip
noncomputable def casD : Code := cL c61a
noncomputable def pasD (C : CF) (L : Nat) {β : Type} (x0 : Value) (h : H) (kn : Kv1 β) : Option β :=
 bnd2 (A.box 24 x0 h) fun t1 hq1 =>
 kn t1 hq1
theorem epasD (x0 : Value) :
  execK prog C L 0 100 [2] casD [1] [] (fs [(0,x0)]) h K =
   pasD C L x0 h (fun x1 h => K .normal (fs [(1,x1)]) h) := by
 kernel_rfl
noncomputable def caeL : Code := cR c61a
noncomputable def casE : Code := cL caeL
noncomputable def pasE (C : CF) (L : Nat) {β : Type} (x1 : Value) (h : H) (kr : Kv1 β) (kn : Kv1 β) : Option β :=
 bnd (A.fieldAddr 7 x1) fun t3 =>
 bnd (A.load false 1 t3 h) fun t4 =>
 bnd (A.bin prog .neq 5 t4 (.int .u8 4)) fun t5 =>
 toBK t5 fun b =>
 (bif b then
 kr (.bool false) h
 else
 bnd (A.fieldAddr 10 x1) fun t7 =>
 bnd (A.load false 1 t7 h) fun t8 =>
 bnd2 (C 89 [t8] h) fun t9 hq1 =>
 toBK t9 fun bq1 =>
 bnd (A.un prog .not (.bool bq1)) fun t10 =>
 toBK t10 fun bq2 =>
 (bif bq2 then
 kr (.bool false) hq1
 else
 kn x1 hq1))
theorem epasE (x1 : Value) :
  execK prog C L 0 100 [2] casE [1] [] (fs [(1,x1)]) h K =
   pasE C L x1 h (fun x2 h => K .ret (fs [(2,x2)]) h) (fun x1 h => K .normal (fs [(1,x1)]) h) := by
 kernel_rfl
noncomputable def caeY : Code := cR caeL
noncomputable def cakX : Code := cL caeY
noncomputable def casF : Code := cL cakX
noncomputable def pasF (C : CF) (L : Nat) {β : Type} (x1 : Value) (h : H) (kn : Kv2 β) : Option β :=
 bnd (A.fieldAddr 11 x1) fun t12 =>
 bnd (A.load false 1 t12 h) fun t13 =>
 toBK t13 fun b =>
 (bif b then
 bnd (A.fieldAddr 12 x1) fun t15 =>
 bnd (A.fieldAddr 0 t15) fun t16 =>
 bnd (A.load false 1 t16 h) fun t17 =>
 bnd2 (C 62 [t17] h) fun t18 hq1 =>
 toBK t18 fun bq1 =>
 bnd (A.un prog .not (.bool bq1)) fun t19 =>
 toBK t19 fun bq2 =>
 (bif bq2 then
 kn (.bool true) x1 hq1
 else
 bnd (A.fieldAddr 12 x1) fun t21 =>
 bnd (A.fieldAddr 1 t21) fun t22 =>
 bnd (A.load false 1 t22 hq1) fun t23 =>
 bnd (A.lenStr t23) fun t24 =>
 bnd (A.bin prog .gtr 3 t24 (.int .i64 65535)) fun t25 =>
 toBK t25 fun bq3 =>
 (bif bq3 then
 kn (.bool true) x1 hq1
 else
 bnd (A.fieldAddr 12 x1) fun t28 =>
 bnd (A.fieldAddr 2 t28) fun t29 =>
 bnd (A.load false 1 t29 hq1) fun t30 =>
 bnd (A.bin prog .gtr 5 t30 (.int .u8 2)) fun t31 =>
 toBK t31 fun bq4 =>
 kn (.bool bq4) x1 hq1))
 else
 kn (.bool false) x1 h)
theorem epasF (x1 : Value) :
  execK prog C L 0 100 [2] casF [33,1] [] (fs [(1,x1)]) h K =
   pasF C L x1 h (fun x33 x1 h => K .normal (fs [(33,x33),(1,x1)]) h) := by
 kernel_rfl
noncomputable def casG : Code := cR cakX
noncomputable def pasG (C : CF) (L : Nat) {β : Type} (x33 x1 : Value) (h : H) (kr : Kv1 β) (kn : Kv1 β) : Option β :=
 condV x33 (
 kr (.bool false) h) (
 kn x1 h)
theorem epasG (x33 x1 : Value) :
  execK prog C L 0 100 [2] casG [1] [] (fs [(33,x33),(1,x1)]) h K =
   pasG C L x33 x1 h (fun x2 h => K .ret (fs [(2,x2)]) h) (fun x1 h => K .normal (fs [(1,x1)]) h) := by
 kernel_rfl
noncomputable def pakX (C : CF) (L : Nat) {β : Type} (x1 : Value) (h : H) (kr : Kv1 β) (kn : Kv1 β) : Option β :=
 pasF C L x1 h (fun x33 x1 h => pasG C L x33 x1 h kr kn)
theorem epakX (x1 : Value) :
  execK prog C L 0 100 [2] cakX [1] [] (fs [(1,x1)]) h K =
   pakX C L x1 h (fun x2 h => K .ret (fs [(2,x2)]) h) (fun x1 h => K .normal (fs [(1,x1)]) h) := by
 rw [execK_seq (a := casF) (b := casG) (by kernel_rfl) (show live [2] casG [1] [] = [33,1] by kernel_rfl),epasF]
 unfold pakX
 exact (congrArg (pasF C L x1 h) (funext fun x33=>funext fun x1=>funext fun h => (seqK_n _ _ _).trans (epasG C L h K x33 x1)))
noncomputable def cagU : Code := cR caeY
noncomputable def cakY : Code := cL cagU
noncomputable def casH : Code := cL cakY
noncomputable def pasH (C : CF) (L : Nat) {β : Type} (x1 : Value) (h : H) (kn : Kv2 β) : Option β :=
 bnd (A.fieldAddr 11 x1) fun t34 =>
 bnd (A.load false 1 t34 h) fun t35 =>
 toBK t35 fun b =>
 bnd (A.un prog .not (.bool b)) fun t36 =>
 toBK t36 fun bq1 =>
 (bif bq1 then
 bnd (A.fieldAddr 12 x1) fun t38 =>
 bnd (A.fieldAddr 0 t38) fun t39 =>
 bnd (A.load false 1 t39 h) fun t40 =>
 bnd (A.bin prog .neq 9 t40 (.string ⟨⟨[]⟩⟩)) fun t41 =>
 toBK t41 fun bq2 =>
 (bif bq2 then
 kn (.bool true) x1 h
 else
 bnd (A.fieldAddr 12 x1) fun t43 =>
 bnd (A.fieldAddr 1 t43) fun t44 =>
 bnd (A.load false 1 t44 h) fun t45 =>
 bnd (A.bin prog .neq 9 t45 (.string ⟨⟨[]⟩⟩)) fun t46 =>
 toBK t46 fun bq3 =>
 (bif bq3 then
 kn (.bool true) x1 h
 else
 bnd (A.fieldAddr 12 x1) fun t49 =>
 bnd (A.fieldAddr 2 t49) fun t50 =>
 bnd (A.load false 1 t50 h) fun t51 =>
 bnd (A.bin prog .neq 5 t51 (.int .u8 0)) fun t52 =>
 toBK t52 fun bq4 =>
 (bif bq4 then
 kn (.bool true) x1 h
 else
 bnd (A.fieldAddr 12 x1) fun t55 =>
 bnd (A.fieldAddr 3 t55) fun t56 =>
 bnd (A.load false 1 t56 h) fun t57 =>
 toBK t57 fun bq5 =>
 kn (.bool bq5) x1 h)))
 else
 kn (.bool false) x1 h)
theorem epasH (x1 : Value) :
  execK prog C L 0 100 [2] casH [59,1] [] (fs [(1,x1)]) h K =
   pasH C L x1 h (fun x59 x1 h => K .normal (fs [(59,x59),(1,x1)]) h) := by
 kernel_rfl
noncomputable def casI : Code := cR cakY
noncomputable def pasI (C : CF) (L : Nat) {β : Type} (x59 x1 : Value) (h : H) (kr : Kv1 β) (kn : Kv1 β) : Option β :=
 condV x59 (
 kr (.bool false) h) (
 kn x1 h)
theorem epasI (x59 x1 : Value) :
  execK prog C L 0 100 [2] casI [1] [] (fs [(59,x59),(1,x1)]) h K =
   pasI C L x59 x1 h (fun x2 h => K .ret (fs [(2,x2)]) h) (fun x1 h => K .normal (fs [(1,x1)]) h) := by
 kernel_rfl
noncomputable def pakY (C : CF) (L : Nat) {β : Type} (x1 : Value) (h : H) (kr : Kv1 β) (kn : Kv1 β) : Option β :=
 pasH C L x1 h (fun x59 x1 h => pasI C L x59 x1 h kr kn)
theorem epakY (x1 : Value) :
  execK prog C L 0 100 [2] cakY [1] [] (fs [(1,x1)]) h K =
   pakY C L x1 h (fun x2 h => K .ret (fs [(2,x2)]) h) (fun x1 h => K .normal (fs [(1,x1)]) h) := by
 rw [execK_seq (a := casH) (b := casI) (by kernel_rfl) (show live [2] casI [1] [] = [59,1] by kernel_rfl),epasH]
 unfold pakY
 exact (congrArg (pasH C L x1 h) (funext fun x59=>funext fun x1=>funext fun h => (seqK_n _ _ _).trans (epasI C L h K x59 x1)))
noncomputable def cajK : Code := cR cagU
noncomputable def cakZ : Code := cL cajK
noncomputable def casJ : Code := cL cakZ
noncomputable def pasJ (C : CF) (L : Nat) {β : Type} (x1 : Value) (h : H) (kn : Kv2 β) : Option β :=
 bnd (A.fieldAddr 16 x1) fun t60 =>
 bnd (A.load false 1 t60 h) fun t61 =>
 toBK t61 fun b =>
 (bif b then
 bnd (A.fieldAddr 18 x1) fun t63 =>
 bnd (A.load false 1 t63 h) fun t64 =>
 bnd2 (C 89 [t64] h) fun t65 hq1 =>
 toBK t65 fun bq1 =>
 bnd (A.un prog .not (.bool bq1)) fun t66 =>
 toBK t66 fun bq2 =>
 (bif bq2 then
 kn (.bool true) x1 hq1
 else
 bnd (A.fieldAddr 16 x1) fun t69 =>
 bnd (A.load false 1 t69 hq1) fun t70 =>
 toBK t70 fun bq3 =>
 bnd (A.un prog .not (.bool bq3)) fun t71 =>
 toBK t71 fun bq4 =>
 (bif bq4 then
 bnd (A.fieldAddr 18 x1) fun t73 =>
 bnd (A.load false 1 t73 hq1) fun t74 =>
 bnd (A.bin prog .neq 9 t74 (.string ⟨⟨[]⟩⟩)) fun t75 =>
 toBK t75 fun bq5 =>
 (bif bq5 then
 kn (.bool true) x1 hq1
 else
 bnd (A.fieldAddr 17 x1) fun t77 =>
 bnd (A.load false 1 t77 hq1) fun t78 =>
 toBK t78 fun bq6 =>
 kn (.bool bq6) x1 hq1)
 else
 kn (.bool false) x1 hq1))
 else
 bnd (A.fieldAddr 16 x1) fun t69q1 =>
 bnd (A.load false 1 t69q1 h) fun t70q1 =>
 toBK t70q1 fun bq7 =>
 bnd (A.un prog .not (.bool bq7)) fun t71q1 =>
 toBK t71q1 fun bq8 =>
 (bif bq8 then
 bnd (A.fieldAddr 18 x1) fun t73q1 =>
 bnd (A.load false 1 t73q1 h) fun t74q1 =>
 bnd (A.bin prog .neq 9 t74q1 (.string ⟨⟨[]⟩⟩)) fun t75q1 =>
 toBK t75q1 fun bq9 =>
 (bif bq9 then
 kn (.bool true) x1 h
 else
 bnd (A.fieldAddr 17 x1) fun t77q1 =>
 bnd (A.load false 1 t77q1 h) fun t78q1 =>
 toBK t78q1 fun bq10 =>
 kn (.bool bq10) x1 h)
 else
 kn (.bool false) x1 h))
theorem epasJ (x1 : Value) :
  execK prog C L 0 100 [2] casJ [81,1] [] (fs [(1,x1)]) h K =
   pasJ C L x1 h (fun x81 x1 h => K .normal (fs [(81,x81),(1,x1)]) h) := by
 kernel_rfl
noncomputable def casK : Code := cR cakZ
noncomputable def pasK (C : CF) (L : Nat) {β : Type} (x81 x1 : Value) (h : H) (kr : Kv1 β) (kn : Kv1 β) : Option β :=
 condV x81 (
 kr (.bool false) h) (
 kn x1 h)
theorem epasK (x81 x1 : Value) :
  execK prog C L 0 100 [2] casK [1] [] (fs [(81,x81),(1,x1)]) h K =
   pasK C L x81 x1 h (fun x2 h => K .ret (fs [(2,x2)]) h) (fun x1 h => K .normal (fs [(1,x1)]) h) := by
 kernel_rfl
noncomputable def pakZ (C : CF) (L : Nat) {β : Type} (x1 : Value) (h : H) (kr : Kv1 β) (kn : Kv1 β) : Option β :=
 pasJ C L x1 h (fun x81 x1 h => pasK C L x81 x1 h kr kn)
theorem epakZ (x1 : Value) :
  execK prog C L 0 100 [2] cakZ [1] [] (fs [(1,x1)]) h K =
   pakZ C L x1 h (fun x2 h => K .ret (fs [(2,x2)]) h) (fun x1 h => K .normal (fs [(1,x1)]) h) := by
 rw [execK_seq (a := casJ) (b := casK) (by kernel_rfl) (show live [2] casK [1] [] = [81,1] by kernel_rfl),epasJ]
 unfold pakZ
 exact (congrArg (pasJ C L x1 h) (funext fun x81=>funext fun x1=>funext fun h => (seqK_n _ _ _).trans (epasK C L h K x81 x1)))
noncomputable def casL : Code := cR cajK
noncomputable def pasL (C : CF) (L : Nat) {β : Type} (x1 : Value) (h : H) (kr : Kv1 β) : Option β :=
 bnd (A.fieldAddr 17 x1) fun t82 =>
 bnd (A.load false 1 t82 h) fun t83 =>
 toBK t83 fun b =>
 (bif b then
 bnd (A.fieldAddr 19 x1) fun t85 =>
 bnd (A.load false 1 t85 h) fun t86 =>
 bnd (A.lenStr t86) fun t87 =>
 bnd (A.bin prog .leq 3 t87 (.int .i64 65535)) fun t88 =>
 toBK t88 fun bq1 =>
 (bif bq1 then
 kr (.bool true) h
 else
 bnd (A.fieldAddr 17 x1) fun t91 =>
 bnd (A.load false 1 t91 h) fun t92 =>
 toBK t92 fun bq2 =>
 bnd (A.un prog .not (.bool bq2)) fun t93 =>
 toBK t93 fun bq3 =>
 (bif bq3 then
 bnd (A.fieldAddr 19 x1) fun t95 =>
 bnd (A.load false 1 t95 h) fun t96 =>
 bnd (A.bin prog .eql 9 t96 (.string ⟨⟨[]⟩⟩)) fun t97 =>
 toBK t97 fun bq4 =>
 kr (.bool bq4) h
 else
 kr (.bool false) h))
 else
 bnd (A.fieldAddr 17 x1) fun t91q1 =>
 bnd (A.load false 1 t91q1 h) fun t92q1 =>
 toBK t92q1 fun bq5 =>
 bnd (A.un prog .not (.bool bq5)) fun t93q1 =>
 toBK t93q1 fun bq6 =>
 (bif bq6 then
 bnd (A.fieldAddr 19 x1) fun t95q1 =>
 bnd (A.load false 1 t95q1 h) fun t96q1 =>
 bnd (A.bin prog .eql 9 t96q1 (.string ⟨⟨[]⟩⟩)) fun t97q1 =>
 toBK t97q1 fun bq7 =>
 kr (.bool bq7) h
 else
 kr (.bool false) h))
theorem epasL (x1 : Value) :
  execK prog C L 0 100 [2] casL [2] [] (fs [(1,x1)]) h K =
   pasL C L x1 h (fun x2 h => K .ret (fs [(2,x2)]) h) := by
 kernel_rfl
noncomputable def p61a (C : CF) (L : Nat) {β : Type} (x0 : Value) (h : H) (kr : Kv1 β) : Option β :=
 pasD C L x0 h (fun x1 h => pasE C L x1 h kr (fun x1 h => pakX C L x1 h kr (fun x1 h => pakY C L x1 h kr (fun x1 h => pakZ C L x1 h kr (fun x1 h => pasL C L x1 h kr)))))
theorem ep61a (x0 : Value) :
  execK prog C L 0 100 [2] c61a [2] [] (fs [(0,x0)]) h K =
   p61a C L x0 h (fun x2 h => K .ret (fs [(2,x2)]) h) := by
 rw [execK_seq (a := casD) (b := caeL) (by kernel_rfl) (show live [2] caeL [2] [] = [1] by kernel_rfl),epasD]
 unfold p61a
 exact (congrArg (pasD C L x0 h) (funext fun x1=>funext fun h => (seqK_n _ _ _).trans (by rw [execK_seq (a := casE) (b := caeY) (by kernel_rfl) (show live [2] caeY [2] [] = [1] by kernel_rfl),epasE]; exact (congr (congrArg (pasE C L x1 h) (funext fun x2=>funext fun h => seqK_r _ _ _)) (funext fun x1=>funext fun h => (seqK_n _ _ _).trans (by rw [execK_seq (a := cakX) (b := cagU) (by kernel_rfl) (show live [2] cagU [2] [] = [1] by kernel_rfl),epakX]; exact (congr (congrArg (pakX C L x1 h) (funext fun x2=>funext fun h => seqK_r _ _ _)) (funext fun x1=>funext fun h => (seqK_n _ _ _).trans (by rw [execK_seq (a := cakY) (b := cajK) (by kernel_rfl) (show live [2] cajK [2] [] = [1] by kernel_rfl),epakY]; exact (congr (congrArg (pakY C L x1 h) (funext fun x2=>funext fun h => seqK_r _ _ _)) (funext fun x1=>funext fun h => (seqK_n _ _ _).trans (by rw [execK_seq (a := cakZ) (b := casL) (by kernel_rfl) (show live [2] casL [2] [] = [1] by kernel_rfl),epakZ]; exact (congr (congrArg (pakZ C L x1 h) (funext fun x2=>funext fun h => seqK_r _ _ _)) (funext fun x1=>funext fun h => (seqK_n _ _ _).trans (epasL C L h K x1)))))))))))))))
noncomputable def F61 (C : CF) (L : Nat) (x0 : Value) (h : H) : Option (Value × H) :=
 p61a C L x0 h
  (fun x2 h => some (x2,h))
theorem F61eq (Q : Orc) (n : Nat) (x0 : Value) (h : H) (hQ : Q 61 [x0] = none) : callO prog 0 Q (n + 1) 61 [x0] h = F61 (callO prog 0 Q n) n x0 h := by
 rw [callO_eq hQ (c := c61a) (nt := 100) (RR := [2]) (fr := (fs [(0,x0)])) Tryz.func61 (by kernel_rfl) (by kernel_rfl) (by kernel_rfl) (by kernel_rfl) (by kernel_rfl),ep61a]
 kernel_rfl
noncomputable def c64a : Code := (Tryz.f64.body).getD .skip
noncomputable def casM : Code := cL c64a
noncomputable def pasM (C : CF) (L : Nat) {β : Type} (x0 : Value) (h : H) (kn : Kv1 β) : Option β :=
 bnd2 (A.box 24 x0 h) fun t1 hq1 =>
 kn t1 hq1
theorem epasM (x0 : Value) :
  execK prog C L 0 92 [2] casM [1] [] (fs [(0,x0)]) h K =
   pasM C L x0 h (fun x1 h => K .normal (fs [(1,x1)]) h) := by
 kernel_rfl
noncomputable def cacC : Code := cR c64a
noncomputable def casN : Code := cL cacC
noncomputable def pasN (C : CF) (L : Nat) {β : Type} (x1 : Value) (h : H) (kn : Kv2 β) : Option β :=
 bnd (A.fieldAddr 6 x1) fun t5 =>
 bnd (A.load false 1 t5 h) fun t6 =>
 bnd (A.lenStr t6) fun t7 =>
 bnd (A.fieldAddr 23 x1) fun t8 =>
 bnd (A.load false 1 t8 h) fun t9 =>
 bnd (A.lenStr t9) fun t10 =>
 bnd (A.bin prog .add 3 t7 t10) fun t11 =>
 kn x1 t11 h
theorem epasN (x1 : Value) :
  execK prog C L 0 92 [2] casN [1,3] [] (fs [(1,x1)]) h K =
   pasN C L x1 h (fun x1 x3 h => K .normal (fs [(1,x1),(3,x3)]) h) := by
 kernel_rfl
noncomputable def cacK : Code := cR cacC
noncomputable def casO : Code := cL cacK
noncomputable def pasO (C : CF) (L : Nat) {β : Type} (x1 x3 : Value) (h : H) (kn : Kv2 β) : Option β :=
 bnd (A.fieldAddr 4 x1) fun t12 =>
 bnd (A.load false 1 t12 h) fun t13 =>
 bnd (A.bin prog .gtr 72 t13 (.int .u16 0)) fun t14 =>
 toBK t14 fun b =>
 (bif b then
 bnd (A.bin prog .add 3 x3 (.int .i64 2)) fun t16 =>
 kn x1 t16 h
 else
 kn x1 x3 h)
theorem epasO (x1 x3 : Value) :
  execK prog C L 0 92 [2] casO [1,3] [] (fs [(1,x1),(3,x3)]) h K =
   pasO C L x1 x3 h (fun x1 x3 h => K .normal (fs [(1,x1),(3,x3)]) h) := by
 kernel_rfl
noncomputable def cacP : Code := cR cacK
noncomputable def caiA : Code := cL cacP
noncomputable def cawW : Code := cL caiA
noncomputable def pawW (C : CF) (L : Nat) {β : Type} (x1 x3 : Value) (h : H) (kn : Kv3 β) : Option β :=
 kn (.int .i64 0) x1 x3 h
theorem epawW (x1 x3 : Value) :
  execK prog C L 0 92 [2] cawW [4,1,3] [] (fs [(1,x1),(3,x3)]) h K =
   pawW C L x1 x3 h (fun x4 x1 x3 h => K .normal (fs [(4,x4),(1,x1),(3,x3)]) h) := by
 kernel_rfl
noncomputable def cajV : Code := cR caiA
noncomputable def calD : Code := cL cajV
noncomputable def caoO : Code := cL calD
noncomputable def paoO (C : CF) (L : Nat) {β : Type} (x4 x1 x3 : Value) (h : H) (kn : Kv3 β) (kx0 : Kv2 β) : Option β :=
 bnd (A.fieldAddr 22 x1) fun t18 =>
 bnd (A.load false 1 t18 h) fun t19 =>
 bnd (A.lenS t19) fun t20 =>
 bnd (A.bin prog .lss 3 x4 t20) fun t21 =>
 toBK t21 fun b =>
 (bif b then
 bnd (A.bin prog .add 3 x3 (.int .i64 2)) fun t25 =>
 bnd (A.fieldAddr 22 x1) fun t26 =>
 bnd (A.load false 1 t26 h) fun t27 =>
 bnd (A.idxS 2 t27 x4) fun t29 =>
 bnd (A.fieldAddr 0 t29) fun t30 =>
 bnd (A.load false 1 t30 h) fun t31 =>
 bnd (A.lenStr t31) fun t32 =>
 bnd (A.bin prog .add 3 t25 t32) fun t33 =>
 bnd (A.fieldAddr 0 x1) fun t34 =>
 bnd (A.load false 1 t34 h) fun t35 =>
 bnd (A.bin prog .eql 5 t35 (.int .u8 8)) fun t36 =>
 toBK t36 fun bq1 =>
 (bif bq1 then
 bnd (A.bin prog .add 3 t33 (.int .i64 1)) fun t38 =>
 bnd (A.bin prog .add 3 x4 (.int .i64 1)) fun t23 =>
 kn t23 x1 t38 h
 else
 bnd (A.bin prog .add 3 x4 (.int .i64 1)) fun t23q1 =>
 kn t23q1 x1 t33 h)
 else
 kx0 x1 x3 h)
theorem epaoO (x4 x1 x3 : Value) :
  execK prog C L 0 92 [2] caoO [4,1,3] [(0,[1,3])] (fs [(4,x4),(1,x1),(3,x3)]) h K =
   paoO C L x4 x1 x3 h (fun x4 x1 x3 h => K .normal (fs [(4,x4),(1,x1),(3,x3)]) h) (fun x1 x3 h => K (.exit 0) (fs [(1,x1),(3,x3)]) h) := by
 kernel_rfl
noncomputable def pasP (C : CF) (L : Nat) {β : Type} (kx0 : Kv2 β) : Nat → Kv3 β
 | 0,_,_,_,_ => none
 | n + 1,x4,x1,x3,h => paoO C L x4 x1 x3 h (fun x4 x1 x3 h => pasP C L kx0 n x4 x1 x3 h) kx0
theorem epasP (C : CF) (L : Nat) {β : Type} (K : Ex → T Value → Kv0 β) : ∀ (n : Nat) (x4 x1 x3 : Value) (h : H),
  loopK (fun fr h K => execK prog C L 0 92 [2] caoO [4,1,3] [(0,[1,3])] fr h K) n (fs [(4,x4),(1,x1),(3,x3)]) h K =
   pasP C L (fun x1 x3 h => K (.exit 0) (fs [(1,x1),(3,x3)]) h) n x4 x1 x3 h := by
 intro n
 induction n with
 | zero => intros; rfl
 | succ n ih =>
  intros
  simp only [loopK]
  rw [epaoO]
  simp only [seqK_n,seqK_x,seqK_r,ih]
  rfl
noncomputable def palD (C : CF) (L : Nat) {β : Type} (x4 x1 x3 : Value) (h : H) (kx0 : Kv2 β) : Option β :=
 pasP C L kx0 L x4 x1 x3 h
theorem epalD (x4 x1 x3 : Value) :
  execK prog C L 0 92 [2] calD [1,3] [(0,[1,3])] (fs [(4,x4),(1,x1),(3,x3)]) h K =
   palD C L x4 x1 x3 h (fun x1 x3 h => K (.exit 0) (fs [(1,x1),(3,x3)]) h) := by
 rw [execK_loop (b := caoO) (fr1 := (fs [(4,x4),(1,x1),(3,x3)])) (by kernel_rfl) (show live [2] caoO [] [(0,[1,3])] = [4,1,3] by kernel_rfl) (by kernel_rfl),epasP]
 unfold palD
 rfl
noncomputable def pajV (C : CF) (L : Nat) {β : Type} (x4 x1 x3 : Value) (h : H) (kn : Kv2 β) : Option β :=
 palD C L x4 x1 x3 h kn
theorem epajV (x4 x1 x3 : Value) :
  execK prog C L 0 92 [2] cajV [1,3] [] (fs [(4,x4),(1,x1),(3,x3)]) h K =
   pajV C L x4 x1 x3 h (fun x1 x3 h => K .normal (fs [(1,x1),(3,x3)]) h) := by
 rw [execK_block (b := calD) (id := 0) (by kernel_rfl),epalD]
 unfold pajV
 rfl
noncomputable def paiA (C : CF) (L : Nat) {β : Type} (x1 x3 : Value) (h : H) (kn : Kv2 β) : Option β :=
 pawW C L x1 x3 h (fun x4 x1 x3 h => pajV C L x4 x1 x3 h kn)
theorem epaiA (x1 x3 : Value) :
  execK prog C L 0 92 [2] caiA [1,3] [] (fs [(1,x1),(3,x3)]) h K =
   paiA C L x1 x3 h (fun x1 x3 h => K .normal (fs [(1,x1),(3,x3)]) h) := by
 rw [execK_seq (a := cawW) (b := cajV) (by kernel_rfl) (show live [2] cajV [1,3] [] = [4,1,3] by kernel_rfl),epawW]
 unfold paiA
 exact (congrArg (pawW C L x1 x3 h) (funext fun x4=>funext fun x1=>funext fun x3=>funext fun h => (seqK_n _ _ _).trans (epajV C L h K x4 x1 x3)))
noncomputable def cadW : Code := cR cacP
noncomputable def caeK : Code := cL cadW
noncomputable def canT : Code := cL caeK
noncomputable def panT (C : CF) (L : Nat) {β : Type} (x1 x3 : Value) (h : H) (kn : Kv3 β) : Option β :=
 bnd (A.fieldAddr 0 x1) fun t39 =>
 bnd (A.load false 1 t39 h) fun t40 =>
 kn t40 x1 x3 h
theorem epanT (x1 x3 : Value) :
  execK prog C L 0 92 [2] canT [40,1,3] [] (fs [(1,x1),(3,x3)]) h K =
   panT C L x1 x3 h (fun x40 x1 x3 h => K .normal (fs [(40,x40),(1,x1),(3,x3)]) h) := by
 kernel_rfl
noncomputable def cafJ : Code := cR caeK
noncomputable def cagA : Code := cL cafJ
noncomputable def canU : Code := cL cagA
noncomputable def panU (C : CF) (L : Nat) {β : Type} (x40 x1 x3 : Value) (h : H) (kn : Kv4 β) : Option β :=
 bnd (A.bin prog .eql 5 x40 (.int .u8 1)) fun t42 =>
 toBK t42 fun b =>
 kn (.bool b) x40 x1 x3 h
theorem epanU (x40 x1 x3 : Value) :
  execK prog C L 0 92 [2] canU [41,40,1,3] [(2,[3])] (fs [(40,x40),(1,x1),(3,x3)]) h K =
   panU C L x40 x1 x3 h (fun x41 x40 x1 x3 h => K .normal (fs [(41,x41),(40,x40),(1,x1),(3,x3)]) h) := by
 kernel_rfl
noncomputable def cahQ : Code := cR cagA
noncomputable def cajM : Code := cL cahQ
noncomputable def casR : Code := cL cajM
noncomputable def pasR (C : CF) (L : Nat) {β : Type} (x41 x40 x1 x3 : Value) (h : H) (kn : Kv2 β) : Option β :=
 bnd (A.bin prog .add 3 x3 (.int .i64 12)) fun t44 =>
 bnd (A.fieldAddr 10 x1) fun t45 =>
 bnd (A.load false 1 t45 h) fun t46 =>
 bnd (A.lenStr t46) fun t47 =>
 bnd (A.bin prog .add 3 t44 t47) fun t48 =>
 kn x1 t48 h
theorem epasR (x41 x40 x1 x3 : Value) :
  execK prog C L 0 92 [2] casR [1,3] [(2,[3])] (fs [(41,x41),(40,x40),(1,x1),(3,x3)]) h K =
   pasR C L x41 x40 x1 x3 h (fun x1 x3 h => K .normal (fs [(1,x1),(3,x3)]) h) := by
 kernel_rfl
noncomputable def camF : Code := cR cajM
noncomputable def casS : Code := cL camF
noncomputable def pasS (C : CF) (L : Nat) {β : Type} (x1 x3 : Value) (h : H) (kn : Kv2 β) : Option β :=
 bnd (A.fieldAddr 11 x1) fun t49 =>
 bnd (A.load false 1 t49 h) fun t50 =>
 toBK t50 fun b =>
 (bif b then
 bnd (A.bin prog .add 3 x3 (.int .i64 4)) fun t52 =>
 bnd (A.fieldAddr 12 x1) fun t53 =>
 bnd (A.fieldAddr 0 t53) fun t54 =>
 bnd (A.load false 1 t54 h) fun t55 =>
 bnd (A.lenStr t55) fun t56 =>
 bnd (A.bin prog .add 3 t52 t56) fun t57 =>
 bnd (A.fieldAddr 12 x1) fun t58 =>
 bnd (A.fieldAddr 1 t58) fun t59 =>
 bnd (A.load false 1 t59 h) fun t60 =>
 bnd (A.lenStr t60) fun t61 =>
 bnd (A.bin prog .add 3 t57 t61) fun t62 =>
 kn x1 t62 h
 else
 kn x1 x3 h)
theorem epasS (x1 x3 : Value) :
  execK prog C L 0 92 [2] casS [1,3] [(2,[3])] (fs [(1,x1),(3,x3)]) h K =
   pasS C L x1 x3 h (fun x1 x3 h => K .normal (fs [(1,x1),(3,x3)]) h) := by
 kernel_rfl
noncomputable def casT : Code := cR camF
noncomputable def pasT (C : CF) (L : Nat) {β : Type} (x1 x3 : Value) (h : H) (kn : Kv1 β) : Option β :=
 bnd (A.fieldAddr 16 x1) fun t63 =>
 bnd (A.load false 1 t63 h) fun t64 =>
 toBK t64 fun b =>
 (bif b then
 bnd (A.bin prog .add 3 x3 (.int .i64 2)) fun t66 =>
 bnd (A.fieldAddr 18 x1) fun t67 =>
 bnd (A.load false 1 t67 h) fun t68 =>
 bnd (A.lenStr t68) fun t69 =>
 bnd (A.bin prog .add 3 t66 t69) fun t70 =>
 bnd (A.fieldAddr 17 x1) fun t71 =>
 bnd (A.load false 1 t71 h) fun t72 =>
 toBK t72 fun bq1 =>
 (bif bq1 then
 bnd (A.bin prog .add 3 t70 (.int .i64 2)) fun t74 =>
 bnd (A.fieldAddr 19 x1) fun t75 =>
 bnd (A.load false 1 t75 h) fun t76 =>
 bnd (A.lenStr t76) fun t77 =>
 bnd (A.bin prog .add 3 t74 t77) fun t78 =>
 kn t78 h
 else
 kn t70 h)
 else
 bnd (A.fieldAddr 17 x1) fun t71q1 =>
 bnd (A.load false 1 t71q1 h) fun t72q1 =>
 toBK t72q1 fun bq2 =>
 (bif bq2 then
 bnd (A.bin prog .add 3 x3 (.int .i64 2)) fun t74q1 =>
 bnd (A.fieldAddr 19 x1) fun t75q1 =>
 bnd (A.load false 1 t75q1 h) fun t76q1 =>
 bnd (A.lenStr t76q1) fun t77q1 =>
 bnd (A.bin prog .add 3 t74q1 t77q1) fun t78q1 =>
 kn t78q1 h
 else
 kn x3 h))
theorem epasT (x1 x3 : Value) :
  execK prog C L 0 92 [2] casT [3] [(2,[3])] (fs [(1,x1),(3,x3)]) h K =
   pasT C L x1 x3 h (fun x3 h => K .normal (fs [(3,x3)]) h) := by
 kernel_rfl
noncomputable def pajM (C : CF) (L : Nat) {β : Type} (x41 x40 x1 x3 : Value) (h : H) (kn : Kv1 β) : Option β :=
 pasR C L x41 x40 x1 x3 h (fun x1 x3 h => pasS C L x1 x3 h (fun x1 x3 h => pasT C L x1 x3 h kn))
theorem epajM (x41 x40 x1 x3 : Value) :
  execK prog C L 0 92 [2] cajM [3] [(2,[3])] (fs [(41,x41),(40,x40),(1,x1),(3,x3)]) h K =
   pajM C L x41 x40 x1 x3 h (fun x3 h => K .normal (fs [(3,x3)]) h) := by
 rw [execK_seq (a := casR) (b := camF) (by kernel_rfl) (show live [2] camF [3] [(2,[3])] = [1,3] by kernel_rfl),epasR]
 unfold pajM
 exact (congrArg (pasR C L x41 x40 x1 x3 h) (funext fun x1=>funext fun x3=>funext fun h => (seqK_n _ _ _).trans (by rw [execK_seq (a := casS) (b := casT) (by kernel_rfl) (show live [2] casT [3] [(2,[3])] = [1,3] by kernel_rfl),epasS]; exact (congrArg (pasS C L x1 x3 h) (funext fun x1=>funext fun x3=>funext fun h => (seqK_n _ _ _).trans (epasT C L h K x1 x3))))))
noncomputable def casQ : Code := cR cahQ
noncomputable def pasQ (C : CF) (L : Nat) {β : Type} (x41 x40 x1 x3 : Value) (h : H) (kn : Kv1 β) : Option β :=
 bnd (A.bin prog .eql 5 x40 (.int .u8 2)) fun t80 =>
 toBK t80 fun b =>
 (bif b then
 bnd (A.bin prog .add 3 x3 (.int .i64 2)) fun t82 =>
 kn t82 h
 else
 bnd (A.bin prog .eql 5 x40 (.int .u8 3)) fun t84 =>
 toBK t84 fun bq1 =>
 (bif bq1 then
 bnd (A.bin prog .add 3 x3 (.int .i64 2)) fun t86 =>
 bnd (A.fieldAddr 5 x1) fun t87 =>
 bnd (A.load false 1 t87 h) fun t88 =>
 bnd (A.lenStr t88) fun t89 =>
 bnd (A.bin prog .add 3 t86 t89) fun t90 =>
 kn t90 h
 else
 kn x3 h))
theorem epasQ (x41 x40 x1 x3 : Value) :
  execK prog C L 0 92 [2] casQ [3] [(2,[3])] (fs [(41,x41),(40,x40),(1,x1),(3,x3)]) h K =
   pasQ C L x41 x40 x1 x3 h (fun x3 h => K .normal (fs [(3,x3)]) h) := by
 kernel_rfl
noncomputable def pahQ (C : CF) (L : Nat) {β : Type} (x41 x40 x1 x3 : Value) (h : H) (kn : Kv1 β) : Option β :=
 condV x41 (pajM C L x41 x40 x1 x3 h kn) (pasQ C L x41 x40 x1 x3 h kn)
theorem epahQ (x41 x40 x1 x3 : Value) :
  execK prog C L 0 92 [2] cahQ [3] [(2,[3])] (fs [(41,x41),(40,x40),(1,x1),(3,x3)]) h K =
   pahQ C L x41 x40 x1 x3 h (fun x3 h => K .normal (fs [(3,x3)]) h) := by
 rw [execK_cond (a := cajM) (b := casQ) (x := (.tmp 41)) (v := x41) (by kernel_rfl) (by kernel_rfl),epajM,epasQ]
 unfold pahQ
 rfl
noncomputable def pagA (C : CF) (L : Nat) {β : Type} (x40 x1 x3 : Value) (h : H) (kn : Kv1 β) : Option β :=
 panU C L x40 x1 x3 h (fun x41 x40 x1 x3 h => pahQ C L x41 x40 x1 x3 h kn)
theorem epagA (x40 x1 x3 : Value) :
  execK prog C L 0 92 [2] cagA [3] [(2,[3])] (fs [(40,x40),(1,x1),(3,x3)]) h K =
   pagA C L x40 x1 x3 h (fun x3 h => K .normal (fs [(3,x3)]) h) := by
 rw [execK_seq (a := canU) (b := cahQ) (by kernel_rfl) (show live [2] cahQ [3] [(2,[3])] = [41,40,1,3] by kernel_rfl),epanU]
 unfold pagA
 exact (congrArg (panU C L x40 x1 x3 h) (funext fun x41=>funext fun x40=>funext fun x1=>funext fun x3=>funext fun h => (seqK_n _ _ _).trans (epahQ C L h K x41 x40 x1 x3)))
noncomputable def pafJ (C : CF) (L : Nat) {β : Type} (x40 x1 x3 : Value) (h : H) (kn : Kv1 β) : Option β :=
 pagA C L x40 x1 x3 h kn
theorem epafJ (x40 x1 x3 : Value) :
  execK prog C L 0 92 [2] cafJ [3] [] (fs [(40,x40),(1,x1),(3,x3)]) h K =
   pafJ C L x40 x1 x3 h (fun x3 h => K .normal (fs [(3,x3)]) h) := by
 rw [execK_block (b := cagA) (id := 2) (by kernel_rfl),epagA]
 unfold pafJ
 rfl
noncomputable def paeK (C : CF) (L : Nat) {β : Type} (x1 x3 : Value) (h : H) (kn : Kv1 β) : Option β :=
 panT C L x1 x3 h (fun x40 x1 x3 h => pafJ C L x40 x1 x3 h kn)
theorem epaeK (x1 x3 : Value) :
  execK prog C L 0 92 [2] caeK [3] [] (fs [(1,x1),(3,x3)]) h K =
   paeK C L x1 x3 h (fun x3 h => K .normal (fs [(3,x3)]) h) := by
 rw [execK_seq (a := canT) (b := cafJ) (by kernel_rfl) (show live [2] cafJ [3] [] = [40,1,3] by kernel_rfl),epanT]
 unfold paeK
 exact (congrArg (panT C L x1 x3 h) (funext fun x40=>funext fun x1=>funext fun x3=>funext fun h => (seqK_n _ _ _).trans (epafJ C L h K x40 x1 x3)))
noncomputable def cawX : Code := cR cadW
noncomputable def pawX (C : CF) (L : Nat) {β : Type} (x3 : Value) (h : H) (kr : Kv1 β) : Option β :=
 kr x3 h
theorem epawX (x3 : Value) :
  execK prog C L 0 92 [2] cawX [2] [] (fs [(3,x3)]) h K =
   pawX C L x3 h (fun x2 h => K .ret (fs [(2,x2)]) h) := by
 kernel_rfl
noncomputable def padW (C : CF) (L : Nat) {β : Type} (x1 x3 : Value) (h : H) (kr : Kv1 β) : Option β :=
 paeK C L x1 x3 h (fun x3 h => pawX C L x3 h kr)
theorem epadW (x1 x3 : Value) :
  execK prog C L 0 92 [2] cadW [2] [] (fs [(1,x1),(3,x3)]) h K =
   padW C L x1 x3 h (fun x2 h => K .ret (fs [(2,x2)]) h) := by
 rw [execK_seq (a := caeK) (b := cawX) (by kernel_rfl) (show live [2] cawX [2] [] = [3] by kernel_rfl),epaeK]
 unfold padW
 exact (congrArg (paeK C L x1 x3 h) (funext fun x3=>funext fun h => (seqK_n _ _ _).trans (epawX C L h K x3)))
noncomputable def p64a (C : CF) (L : Nat) {β : Type} (x0 : Value) (h : H) (kr : Kv1 β) : Option β :=
 pasM C L x0 h (fun x1 h => pasN C L x1 h (fun x1 x3 h => pasO C L x1 x3 h (fun x1 x3 h => paiA C L x1 x3 h (fun x1 x3 h => padW C L x1 x3 h kr))))
theorem ep64a (x0 : Value) :
  execK prog C L 0 92 [2] c64a [2] [] (fs [(0,x0)]) h K =
   p64a C L x0 h (fun x2 h => K .ret (fs [(2,x2)]) h) := by
 rw [execK_seq (a := casM) (b := cacC) (by kernel_rfl) (show live [2] cacC [2] [] = [1] by kernel_rfl),epasM]
 unfold p64a
 exact (congrArg (pasM C L x0 h) (funext fun x1=>funext fun h => (seqK_n _ _ _).trans (by rw [execK_seq (a := casN) (b := cacK) (by kernel_rfl) (show live [2] cacK [2] [] = [1,3] by kernel_rfl),epasN]; exact (congrArg (pasN C L x1 h) (funext fun x1=>funext fun x3=>funext fun h => (seqK_n _ _ _).trans (by rw [execK_seq (a := casO) (b := cacP) (by kernel_rfl) (show live [2] cacP [2] [] = [1,3] by kernel_rfl),epasO]; exact (congrArg (pasO C L x1 x3 h) (funext fun x1=>funext fun x3=>funext fun h => (seqK_n _ _ _).trans (by rw [execK_seq (a := caiA) (b := cadW) (by kernel_rfl) (show live [2] cadW [2] [] = [1,3] by kernel_rfl),epaiA]; exact (congrArg (paiA C L x1 x3 h) (funext fun x1=>funext fun x3=>funext fun h => (seqK_n _ _ _).trans (epadW C L h K x1 x3))))))))))))
noncomputable def F64 (C : CF) (L : Nat) (x0 : Value) (h : H) : Option (Value × H) :=
 p64a C L x0 h
  (fun x2 h => some (x2,h))
theorem F64eq (Q : Orc) (n : Nat) (x0 : Value) (h : H) (hQ : Q 64 [x0] = none) : callO prog 0 Q (n + 1) 64 [x0] h = F64 (callO prog 0 Q n) n x0 h := by
 rw [callO_eq hQ (c := c64a) (nt := 92) (RR := [2]) (fr := (fs [(0,x0)])) Tryz.func64 (by kernel_rfl) (by kernel_rfl) (by kernel_rfl) (by kernel_rfl) (by kernel_rfl),ep64a]
 kernel_rfl
noncomputable def c65a : Code := (Tryz.f65.body).getD .skip
noncomputable def p65a (C : CF) (L : Nat) {β : Type} (x0 x1 : Value) (h : H) (kr : Kv1 β) : Option β :=
 toBK x0 fun b =>
 (bif b then
 kr x1 h
 else
 kr (.int .i64 0) h)
theorem ep65a (x0 x1 : Value) :
  execK prog C L 0 7 [4] c65a [4] [] (fs [(0,x0),(1,x1)]) h K =
   p65a C L x0 x1 h (fun x4 h => K .ret (fs [(4,x4)]) h) := by
 kernel_rfl
noncomputable def F65 (C : CF) (L : Nat) (x0 x1 : Value) (h : H) : Option (Value × H) :=
 p65a C L x0 x1 h
  (fun x4 h => some (x4,h))
theorem F65eq (Q : Orc) (n : Nat) (x0 x1 : Value) (h : H) (hQ : Q 65 [x0,x1] = none) : callO prog 0 Q (n + 1) 65 [x0,x1] h = F65 (callO prog 0 Q n) n x0 x1 h := by
 rw [callO_eq hQ (c := c65a) (nt := 7) (RR := [4]) (fr := (fs [(0,x0),(1,x1)])) Tryz.func65 (by kernel_rfl) (by kernel_rfl) (by kernel_rfl) (by kernel_rfl) (by kernel_rfl),ep65a]
 kernel_rfl
end Go.Proofs.YtdljlmpleibkiaaGreatDoor.ScC
