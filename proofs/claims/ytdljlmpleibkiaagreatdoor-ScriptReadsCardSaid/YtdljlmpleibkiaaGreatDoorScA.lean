import Derived.Test.YtdljlmpleibkiaaGreatDoorProg
import Derived.Test.YtdljlmpleibkiaaGreatDoorRq
set_option linter.unusedVariables false
set_option maxRecDepth 100000
namespace Go.Proofs.YtdljlmpleibkiaaGreatDoor.ScA
open Tryz (prog)
open Go Go.AM
variable (C : CF) (L : Nat) {β : Type} (h : H) (K : Ex → T Value → Kv0 β)
noncomputable def Z25 : Value := (.agg ⟨[(.int .i64 0),(.int .i64 0),(.int .i64 0),(.int .i64 0),(.int .i64 0)]⟩)
noncomputable def Z25L : List Value := [(.int .i64 0),(.int .i64 0),(.int .i64 0),(.int .i64 0),(.int .i64 0)]
noncomputable def Z49L : List Value := [(.slice none 0 0)]
noncomputable def Z35 : Value := (.agg ⟨[(.int .u8 0),(.int .i64 0),(.int .i64 0),(.int .i64 0),(.int .i64 0),(.int .i64 0),(.string ⟨⟨[]⟩⟩)]⟩)
noncomputable def Z35L : List Value := [(.int .u8 0),(.int .i64 0),(.int .i64 0),(.int .i64 0),(.int .i64 0),(.int .i64 0),(.string ⟨⟨[]⟩⟩)]
noncomputable def Z77 : Value := (.agg ⟨[(.int .u8 0),(.bool false),(.int .u8 0),(.bool false),(.int .u16 0),(.string ⟨⟨[]⟩⟩),(.string ⟨⟨[]⟩⟩),(.int .u8 0),(.bool false),(.int .u16 0),(.string ⟨⟨[]⟩⟩),(.bool false),(.string ⟨⟨[]⟩⟩),(.string ⟨⟨[]⟩⟩),(.int .u8 0),(.bool false),(.bool false),(.bool false),(.string ⟨⟨[]⟩⟩),(.string ⟨⟨[]⟩⟩),(.bool false),(.int .u8 0),(.slice none 0 0),(.string ⟨⟨[]⟩⟩)]⟩)
noncomputable def Z77L : List Value := [(.int .u8 0),(.bool false),(.int .u8 0),(.bool false),(.int .u16 0),(.string ⟨⟨[]⟩⟩),(.string ⟨⟨[]⟩⟩),(.int .u8 0),(.bool false),(.int .u16 0),(.string ⟨⟨[]⟩⟩),(.bool false),(.string ⟨⟨[]⟩⟩),(.string ⟨⟨[]⟩⟩),(.int .u8 0),(.bool false),(.bool false),(.bool false),(.string ⟨⟨[]⟩⟩),(.string ⟨⟨[]⟩⟩),(.bool false),(.int .u8 0),(.slice none 0 0),(.string ⟨⟨[]⟩⟩)]
noncomputable def Z5L : List Value := [(.int .u8 0)]
noncomputable def Z9L : List Value := [(.string ⟨⟨[]⟩⟩)]
noncomputable def Z74L : List Value := [(.string ⟨⟨[]⟩⟩),(.string ⟨⟨[]⟩⟩),(.int .u8 0),(.bool false)]
noncomputable def Z110 : Value := (.agg ⟨[(.string ⟨⟨[]⟩⟩),(.int .u8 0)]⟩)
noncomputable def Z110L : List Value := [(.string ⟨⟨[]⟩⟩),(.int .u8 0)]
noncomputable def Z3L : List Value := [(.int .i64 0)]
noncomputable def c3a : Code := (Tryz.f3.body).getD .skip
noncomputable def cajH : Code := cL c3a
noncomputable def pajH (C : CF) (L : Nat) {β : Type} (x0 : Value) (h : H) (kn : Kv1 β) : Option β :=
 kn x0 h
theorem epajH (x0 : Value) :
  execK prog C L 0 59 [2] cajH [0] [] (fs [(0,x0)]) h K =
   pajH C L x0 h (fun x0 h => K .normal (fs [(0,x0)]) h) := by
 kernel_rfl
noncomputable def caaH : Code := cR c3a
noncomputable def cajI : Code := cL caaH
noncomputable def pajI (C : CF) (L : Nat) {β : Type} (x0 : Value) (h : H) (kr : Kv1 β) (kn : Kv1 β) : Option β :=
 bnd (A.lenS x0) fun t10 =>
 bnd (A.bin prog .gtr 3 t10 (.int .i64 4000)) fun t11 =>
 toBK t11 fun b =>
 (bif b then
 bnd2 (C 4 [] h) fun t12 hq1 =>
 toBK t12 fun bq1 =>
 kr (.bool bq1) hq1
 else
 kn x0 h)
theorem epajI (x0 : Value) :
  execK prog C L 0 59 [2] cajI [0] [] (fs [(0,x0)]) h K =
   pajI C L x0 h (fun x2 h => K .ret (fs [(2,x2)]) h) (fun x0 h => K .normal (fs [(0,x0)]) h) := by
 kernel_rfl
noncomputable def caaR : Code := cR caaH
noncomputable def cakE : Code := cL caaR
noncomputable def pakE (C : CF) (L : Nat) {β : Type} (x0 : Value) (h : H) (kn : Kv2 β) : Option β :=
 kn (.slice none 0 0) x0 h
theorem epakE (x0 : Value) :
  execK prog C L 0 59 [2] cakE [3,0] [] (fs [(0,x0)]) h K =
   pakE C L x0 h (fun x3 x0 h => K .normal (fs [(3,x3),(0,x0)]) h) := by
 kernel_rfl
noncomputable def cabA : Code := cR caaR
noncomputable def cacV : Code := cL cabA
noncomputable def pacV (C : CF) (L : Nat) {β : Type} (x3 x0 : Value) (h : H) (kn : Kv2 β) : Option β :=
 bnd2 (A.append 1 1 x3 x0 h) fun t15 hq1 =>
 kn t15 x0 hq1
theorem epacV (x3 x0 : Value) :
  execK prog C L 0 59 [2] cacV [3,0] [] (fs [(3,x3),(0,x0)]) h K =
   pacV C L x3 x0 h (fun x3 x0 h => K .normal (fs [(3,x3),(0,x0)]) h) := by
 kernel_rfl
noncomputable def cadQ : Code := cR cabA
noncomputable def camO : Code := cL cadQ
noncomputable def pamO (C : CF) (L : Nat) {β : Type} (x3 x0 : Value) (h : H) (kn : Kv4 β) : Option β :=
 bnd2 (C 5 [x3] h) fun t18 hq1 =>
 bnd (A.extract 0 t18) fun t19 =>
 bnd (A.extract 1 t18) fun t20 =>
 bnd2 (A.box 5 Z25 hq1) fun t4 hq2 =>
 bnd (A.store 5 t4 t19 hq2) fun hq3 =>
 kn t4 x3 x0 t20 hq3
theorem epamO (x3 x0 : Value) :
  execK prog C L 0 59 [2] camO [4,3,0,5] [] (fs [(3,x3),(0,x0)]) h K =
   pamO C L x3 x0 h (fun x4 x3 x0 x5 h => K .normal (fs [(4,x4),(3,x3),(0,x0),(5,x5)]) h) := by
 kernel_rfl
noncomputable def caeP : Code := cR cadQ
noncomputable def cavG : Code := cL caeP
noncomputable def pavG (C : CF) (L : Nat) {β : Type} (x4 x3 x0 x5 : Value) (h : H) (kn : Kv6 β) : Option β :=
 bnd2 (C 6 [x0] h) fun t23 hq1 =>
 bnd (A.extract 0 t23) fun t24 =>
 bnd (A.extract 1 t23) fun t25 =>
 bnd2 (A.box 5 Z25 hq1) fun t6 hq2 =>
 bnd (A.store 5 t6 t24 hq2) fun hq3 =>
 kn x4 t6 x3 x0 t25 x5 hq3
theorem epavG (x4 x3 x0 x5 : Value) :
  execK prog C L 0 59 [2] cavG [4,6,3,0,7,5] [] (fs [(4,x4),(3,x3),(0,x0),(5,x5)]) h K =
   pavG C L x4 x3 x0 x5 h (fun x4 x6 x3 x0 x7 x5 h => K .normal (fs [(4,x4),(6,x6),(3,x3),(0,x0),(7,x7),(5,x5)]) h) := by
 kernel_rfl
noncomputable def cafN : Code := cR caeP
noncomputable def calN : Code := cL cafN
noncomputable def cavH : Code := cL calN
noncomputable def pavH (C : CF) (L : Nat) {β : Type} (x4 x6 x3 x0 x7 x5 : Value) (h : H) (kn : Kv3 β) : Option β :=
 bnd (A.load true 5 x4 h) fun t26 =>
 bnd (A.load true 5 x6 h) fun t27 =>
 bnd (A.bin prog .neq 25 t26 t27) fun t28 =>
 toBK t28 fun b =>
 (bif b then
 kn (.bool true) x7 x5 h
 else
 bnd (A.lenS x5) fun t31 =>
 bnd (A.lenS x7) fun t33 =>
 bnd (A.bin prog .neq 3 t31 t33) fun t34 =>
 toBK t34 fun bq1 =>
 (bif bq1 then
 kn (.bool true) x7 x5 h
 else
 bnd (A.b2s x3 h) fun t38 =>
 bnd (A.b2s x0 h) fun t40 =>
 bnd (A.bin prog .neq 9 t38 t40) fun t41 =>
 toBK t41 fun bq2 =>
 kn (.bool bq2) x7 x5 h))
theorem epavH (x4 x6 x3 x0 x7 x5 : Value) :
  execK prog C L 0 59 [2] cavH [42,7,5] [] (fs [(4,x4),(6,x6),(3,x3),(0,x0),(7,x7),(5,x5)]) h K =
   pavH C L x4 x6 x3 x0 x7 x5 h (fun x42 x7 x5 h => K .normal (fs [(42,x42),(7,x7),(5,x5)]) h) := by
 kernel_rfl
noncomputable def cavI : Code := cR calN
noncomputable def pavI (C : CF) (L : Nat) {β : Type} (x42 x7 x5 : Value) (h : H) (kr : Kv1 β) (kn : Kv2 β) : Option β :=
 condV x42 (
 kr (.bool false) h) (
 kn x7 x5 h)
theorem epavI (x42 x7 x5 : Value) :
  execK prog C L 0 59 [2] cavI [7,5] [] (fs [(42,x42),(7,x7),(5,x5)]) h K =
   pavI C L x42 x7 x5 h (fun x2 h => K .ret (fs [(2,x2)]) h) (fun x7 x5 h => K .normal (fs [(7,x7),(5,x5)]) h) := by
 kernel_rfl
noncomputable def palN (C : CF) (L : Nat) {β : Type} (x4 x6 x3 x0 x7 x5 : Value) (h : H) (kr : Kv1 β) (kn : Kv2 β) : Option β :=
 pavH C L x4 x6 x3 x0 x7 x5 h (fun x42 x7 x5 h => pavI C L x42 x7 x5 h kr kn)
theorem epalN (x4 x6 x3 x0 x7 x5 : Value) :
  execK prog C L 0 59 [2] calN [7,5] [] (fs [(4,x4),(6,x6),(3,x3),(0,x0),(7,x7),(5,x5)]) h K =
   palN C L x4 x6 x3 x0 x7 x5 h (fun x2 h => K .ret (fs [(2,x2)]) h) (fun x7 x5 h => K .normal (fs [(7,x7),(5,x5)]) h) := by
 rw [execK_seq (a := cavH) (b := cavI) (by kernel_rfl) (show live [2] cavI [7,5] [] = [42,7,5] by kernel_rfl),epavH]
 unfold palN
 exact (congrArg (pavH C L x4 x6 x3 x0 x7 x5 h) (funext fun x42=>funext fun x7=>funext fun x5=>funext fun h => (seqK_n _ _ _).trans (epavI C L h K x42 x7 x5)))
noncomputable def cahK : Code := cR cafN
noncomputable def caiJ : Code := cL cahK
noncomputable def cavJ : Code := cL caiJ
noncomputable def pavJ (C : CF) (L : Nat) {β : Type} (x7 x5 : Value) (h : H) (kn : Kv3 β) : Option β :=
 kn (.int .i64 0) x7 x5 h
theorem epavJ (x7 x5 : Value) :
  execK prog C L 0 59 [2] cavJ [8,7,5] [] (fs [(7,x7),(5,x5)]) h K =
   pavJ C L x7 x5 h (fun x8 x7 x5 h => K .normal (fs [(8,x8),(7,x7),(5,x5)]) h) := by
 kernel_rfl
noncomputable def cakA : Code := cR caiJ
noncomputable def calO : Code := cL cakA
noncomputable def capF : Code := cL calO
noncomputable def papF (C : CF) (L : Nat) {β : Type} (x8 x7 x5 : Value) (h : H) (kr : Kv1 β) (kn : Kv3 β) (kx0 : Kv0 β) : Option β :=
 bnd (A.lenS x5) fun t45 =>
 bnd (A.bin prog .lss 3 x8 t45) fun t46 =>
 toBK t46 fun b =>
 (bif b then
 bnd (A.idxS 7 x5 x8) fun t51 =>
 bnd (A.load true 7 t51 h) fun t52 =>
 bnd (A.idxS 7 x7 x8) fun t55 =>
 bnd (A.load true 7 t55 h) fun t56 =>
 bnd (A.bin prog .neq 35 t52 t56) fun t57 =>
 toBK t57 fun bq1 =>
 (bif bq1 then
 kr (.bool false) h
 else
 bnd (A.bin prog .add 3 x8 (.int .i64 1)) fun t48 =>
 kn t48 x7 x5 h)
 else
 kx0 h)
theorem epapF (x8 x7 x5 : Value) :
  execK prog C L 0 59 [2] capF [8,7,5] [(0,[])] (fs [(8,x8),(7,x7),(5,x5)]) h K =
   papF C L x8 x7 x5 h (fun x2 h => K .ret (fs [(2,x2)]) h) (fun x8 x7 x5 h => K .normal (fs [(8,x8),(7,x7),(5,x5)]) h) (fun h => K (.exit 0) (fs []) h) := by
 kernel_rfl
noncomputable def pavK (C : CF) (L : Nat) {β : Type} (kr : Kv1 β) (kx0 : Kv0 β) : Nat → Kv3 β
 | 0,_,_,_,_ => none
 | n + 1,x8,x7,x5,h => papF C L x8 x7 x5 h kr (fun x8 x7 x5 h => pavK C L kr kx0 n x8 x7 x5 h) kx0
theorem epavK (C : CF) (L : Nat) {β : Type} (K : Ex → T Value → Kv0 β) : ∀ (n : Nat) (x8 x7 x5 : Value) (h : H),
  loopK (fun fr h K => execK prog C L 0 59 [2] capF [8,7,5] [(0,[])] fr h K) n (fs [(8,x8),(7,x7),(5,x5)]) h K =
   pavK C L (fun x2 h => K .ret (fs [(2,x2)]) h) (fun h => K (.exit 0) (fs []) h) n x8 x7 x5 h := by
 intro n
 induction n with
 | zero => intros; rfl
 | succ n ih =>
  intros
  simp only [loopK]
  rw [epapF]
  simp only [seqK_n,seqK_x,seqK_r,ih]
  rfl
noncomputable def palO (C : CF) (L : Nat) {β : Type} (x8 x7 x5 : Value) (h : H) (kr : Kv1 β) (kx0 : Kv0 β) : Option β :=
 pavK C L kr kx0 L x8 x7 x5 h
theorem epalO (x8 x7 x5 : Value) :
  execK prog C L 0 59 [2] calO [] [(0,[])] (fs [(8,x8),(7,x7),(5,x5)]) h K =
   palO C L x8 x7 x5 h (fun x2 h => K .ret (fs [(2,x2)]) h) (fun h => K (.exit 0) (fs []) h) := by
 rw [execK_loop (b := capF) (fr1 := (fs [(8,x8),(7,x7),(5,x5)])) (by kernel_rfl) (show live [2] capF [] [(0,[])] = [8,7,5] by kernel_rfl) (by kernel_rfl),epavK]
 unfold palO
 rfl
noncomputable def pakA (C : CF) (L : Nat) {β : Type} (x8 x7 x5 : Value) (h : H) (kr : Kv1 β) (kn : Kv0 β) : Option β :=
 palO C L x8 x7 x5 h kr kn
theorem epakA (x8 x7 x5 : Value) :
  execK prog C L 0 59 [2] cakA [] [] (fs [(8,x8),(7,x7),(5,x5)]) h K =
   pakA C L x8 x7 x5 h (fun x2 h => K .ret (fs [(2,x2)]) h) (fun h => K .normal (fs []) h) := by
 rw [execK_block (b := calO) (id := 0) (by kernel_rfl),epalO]
 unfold pakA
 rfl
noncomputable def paiJ (C : CF) (L : Nat) {β : Type} (x7 x5 : Value) (h : H) (kr : Kv1 β) (kn : Kv0 β) : Option β :=
 pavJ C L x7 x5 h (fun x8 x7 x5 h => pakA C L x8 x7 x5 h kr kn)
theorem epaiJ (x7 x5 : Value) :
  execK prog C L 0 59 [2] caiJ [] [] (fs [(7,x7),(5,x5)]) h K =
   paiJ C L x7 x5 h (fun x2 h => K .ret (fs [(2,x2)]) h) (fun h => K .normal (fs []) h) := by
 rw [execK_seq (a := cavJ) (b := cakA) (by kernel_rfl) (show live [2] cakA [] [] = [8,7,5] by kernel_rfl),epavJ]
 unfold paiJ
 exact (congrArg (pavJ C L x7 x5 h) (funext fun x8=>funext fun x7=>funext fun x5=>funext fun h => (seqK_n _ _ _).trans (epakA C L h K x8 x7 x5)))
noncomputable def cavL : Code := cR cahK
noncomputable def pavL (C : CF) (L : Nat) {β : Type} (h : H) (kr : Kv1 β) : Option β :=
 bnd2 (C 4 [] h) fun t58 hq1 =>
 toBK t58 fun b =>
 kr (.bool b) hq1
theorem epavL :
  execK prog C L 0 59 [2] cavL [2] [] (fs []) h K =
   pavL C L h (fun x2 h => K .ret (fs [(2,x2)]) h) := by
 kernel_rfl
noncomputable def p3a (C : CF) (L : Nat) {β : Type} (x0 : Value) (h : H) (kr : Kv1 β) : Option β :=
 pajH C L x0 h (fun x0 h => pajI C L x0 h kr (fun x0 h => pakE C L x0 h (fun x3 x0 h => pacV C L x3 x0 h (fun x3 x0 h => pamO C L x3 x0 h (fun x4 x3 x0 x5 h => pavG C L x4 x3 x0 x5 h (fun x4 x6 x3 x0 x7 x5 h => palN C L x4 x6 x3 x0 x7 x5 h kr (fun x7 x5 h => paiJ C L x7 x5 h kr (fun h => pavL C L h kr))))))))
theorem ep3a (x0 : Value) :
  execK prog C L 0 59 [2] c3a [2] [] (fs [(0,x0)]) h K =
   p3a C L x0 h (fun x2 h => K .ret (fs [(2,x2)]) h) := by
 rw [execK_seq (a := cajH) (b := caaH) (by kernel_rfl) (show live [2] caaH [2] [] = [0] by kernel_rfl),epajH]
 unfold p3a
 exact (congrArg (pajH C L x0 h) (funext fun x0=>funext fun h => (seqK_n _ _ _).trans (by rw [execK_seq (a := cajI) (b := caaR) (by kernel_rfl) (show live [2] caaR [2] [] = [0] by kernel_rfl),epajI]; exact (congr (congrArg (pajI C L x0 h) (funext fun x2=>funext fun h => seqK_r _ _ _)) (funext fun x0=>funext fun h => (seqK_n _ _ _).trans (by rw [execK_seq (a := cakE) (b := cabA) (by kernel_rfl) (show live [2] cabA [2] [] = [3,0] by kernel_rfl),epakE]; exact (congrArg (pakE C L x0 h) (funext fun x3=>funext fun x0=>funext fun h => (seqK_n _ _ _).trans (by rw [execK_seq (a := cacV) (b := cadQ) (by kernel_rfl) (show live [2] cadQ [2] [] = [3,0] by kernel_rfl),epacV]; exact (congrArg (pacV C L x3 x0 h) (funext fun x3=>funext fun x0=>funext fun h => (seqK_n _ _ _).trans (by rw [execK_seq (a := camO) (b := caeP) (by kernel_rfl) (show live [2] caeP [2] [] = [4,3,0,5] by kernel_rfl),epamO]; exact (congrArg (pamO C L x3 x0 h) (funext fun x4=>funext fun x3=>funext fun x0=>funext fun x5=>funext fun h => (seqK_n _ _ _).trans (by rw [execK_seq (a := cavG) (b := cafN) (by kernel_rfl) (show live [2] cafN [2] [] = [4,6,3,0,7,5] by kernel_rfl),epavG]; exact (congrArg (pavG C L x4 x3 x0 x5 h) (funext fun x4=>funext fun x6=>funext fun x3=>funext fun x0=>funext fun x7=>funext fun x5=>funext fun h => (seqK_n _ _ _).trans (by rw [execK_seq (a := calN) (b := cahK) (by kernel_rfl) (show live [2] cahK [2] [] = [7,5] by kernel_rfl),epalN]; exact (congr (congrArg (palN C L x4 x6 x3 x0 x7 x5 h) (funext fun x2=>funext fun h => seqK_r _ _ _)) (funext fun x7=>funext fun x5=>funext fun h => (seqK_n _ _ _).trans (by rw [execK_seq (a := caiJ) (b := cavL) (by kernel_rfl) (show live [2] cavL [2] [] = [] by kernel_rfl),epaiJ]; exact (congr (congrArg (paiJ C L x7 x5 h) (funext fun x2=>funext fun h => seqK_r _ _ _)) (funext fun h => (seqK_n _ _ _).trans (epavL C L h K))))))))))))))))))))))))
noncomputable def F3 (C : CF) (L : Nat) (x0 : Value) (h : H) : Option (Value × H) :=
 p3a C L x0 h
  (fun x2 h => some (x2,h))
theorem F3eq (Q : Orc) (n : Nat) (x0 : Value) (h : H) (hQ : Q 3 [x0] = none) : callO prog 0 Q (n + 1) 3 [x0] h = F3 (callO prog 0 Q n) n x0 h := by
 rw [callO_eq hQ (c := c3a) (nt := 59) (RR := [2]) (fr := (fs [(0,x0)])) Tryz.func3 (by kernel_rfl) (by kernel_rfl) (by kernel_rfl) (by kernel_rfl) (by kernel_rfl),ep3a]
 kernel_rfl
noncomputable def c5a : Code := (Tryz.f5.body).getD .skip
noncomputable def calW : Code := cL c5a
noncomputable def palW (C : CF) (L : Nat) {β : Type} (x0 : Value) (h : H) (kn : Kv2 β) : Option β :=
 bnd2 (A.box 5 Z25 h) fun t2 hq1 =>
 kn x0 t2 hq1
theorem epalW (x0 : Value) :
  execK prog C L 0 52 [2,3] calW [0,2] [] (fs [(0,x0)]) h K =
   palW C L x0 h (fun x0 x2 h => K .normal (fs [(0,x0),(2,x2)]) h) := by
 kernel_rfl
noncomputable def caaB : Code := cR c5a
noncomputable def calX : Code := cL caaB
noncomputable def palX (C : CF) (L : Nat) {β : Type} (x0 x2 : Value) (h : H) (kn : Kv2 β) : Option β :=
 bnd (A.build Z49L [(0,1,x0)]) fun t8 =>
 bnd2 (A.box 1 t8 h) fun t9 hq1 =>
 kn t9 x2 hq1
theorem epalX (x0 x2 : Value) :
  execK prog C L 0 52 [2,3] calX [4,2] [] (fs [(0,x0),(2,x2)]) h K =
   palX C L x0 x2 h (fun x4 x2 h => K .normal (fs [(4,x4),(2,x2)]) h) := by
 kernel_rfl
noncomputable def caaD : Code := cR caaB
noncomputable def caaI : Code := cL caaD
noncomputable def paaI (C : CF) (L : Nat) {β : Type} (x4 x2 : Value) (h : H) (kn : Kv3 β) : Option β :=
 bnd2 (C 10 [x4] h) fun t11 hq1 =>
 bnd (A.bin prog .rem 3 t11 (.int .i64 4)) fun t12 =>
 bnd (A.bin prog .add 3 (.int .i64 1) t12) fun t13 =>
 bnd (A.build Z25L [(0,1,t13)]) fun t14 =>
 bnd2 (A.box 5 Z25 hq1) fun t5 hq2 =>
 bnd (A.store 5 t5 t14 hq2) fun hq3 =>
 kn x4 t5 x2 hq3
theorem epaaI (x4 x2 : Value) :
  execK prog C L 0 52 [2,3] caaI [4,5,2] [] (fs [(4,x4),(2,x2)]) h K =
   paaI C L x4 x2 h (fun x4 x5 x2 h => K .normal (fs [(4,x4),(5,x5),(2,x2)]) h) := by
 kernel_rfl
noncomputable def caeF : Code := cR caaD
noncomputable def cawN : Code := cL caeF
noncomputable def pawN (C : CF) (L : Nat) {β : Type} (x4 x5 x2 : Value) (h : H) (kn : Kv3 β) : Option β :=
 bnd2 (C 10 [x4] h) fun t16 hq1 =>
 bnd (A.bin prog .rem 3 t16 (.int .i64 2)) fun t17 =>
 bnd (A.bin prog .add 3 (.int .i64 1) t17) fun t18 =>
 bnd (A.fieldAddr 1 x5) fun t19 =>
 bnd (A.store 1 t19 t18 hq1) fun hq2 =>
 kn x4 x5 x2 hq2
theorem epawN (x4 x5 x2 : Value) :
  execK prog C L 0 52 [2,3] cawN [4,5,2] [] (fs [(4,x4),(5,x5),(2,x2)]) h K =
   pawN C L x4 x5 x2 h (fun x4 x5 x2 h => K .normal (fs [(4,x4),(5,x5),(2,x2)]) h) := by
 kernel_rfl
noncomputable def cafK : Code := cR caeF
noncomputable def cawO : Code := cL cafK
noncomputable def pawO (C : CF) (L : Nat) {β : Type} (x4 x5 x2 : Value) (h : H) (kn : Kv3 β) : Option β :=
 bnd2 (C 10 [x4] h) fun t21 hq1 =>
 bnd (A.bin prog .add 3 (.int .i64 16) t21) fun t22 =>
 bnd (A.fieldAddr 2 x5) fun t23 =>
 bnd (A.store 1 t23 t22 hq1) fun hq2 =>
 kn x4 x5 x2 hq2
theorem epawO (x4 x5 x2 : Value) :
  execK prog C L 0 52 [2,3] cawO [4,5,2] [] (fs [(4,x4),(5,x5),(2,x2)]) h K =
   pawO C L x4 x5 x2 h (fun x4 x5 x2 h => K .normal (fs [(4,x4),(5,x5),(2,x2)]) h) := by
 kernel_rfl
noncomputable def cafZ : Code := cR cafK
noncomputable def cawP : Code := cL cafZ
noncomputable def pawP (C : CF) (L : Nat) {β : Type} (x4 x5 x2 : Value) (h : H) (kn : Kv3 β) : Option β :=
 bnd2 (C 10 [x4] h) fun t25 hq1 =>
 bnd (A.bin prog .rem 3 t25 (.int .i64 5)) fun t26 =>
 bnd (A.bin prog .add 3 (.int .i64 1) t26) fun t27 =>
 bnd (A.fieldAddr 3 x5) fun t28 =>
 bnd (A.store 1 t28 t27 hq1) fun hq2 =>
 kn x4 x5 x2 hq2
theorem epawP (x4 x5 x2 : Value) :
  execK prog C L 0 52 [2,3] cawP [4,5,2] [] (fs [(4,x4),(5,x5),(2,x2)]) h K =
   pawP C L x4 x5 x2 h (fun x4 x5 x2 h => K .normal (fs [(4,x4),(5,x5),(2,x2)]) h) := by
 kernel_rfl
noncomputable def cagS : Code := cR cafZ
noncomputable def cawQ : Code := cL cagS
noncomputable def pawQ (C : CF) (L : Nat) {β : Type} (x4 x5 x2 : Value) (h : H) (kn : Kv3 β) : Option β :=
 bnd2 (C 10 [x4] h) fun t30 hq1 =>
 bnd (A.bin prog .rem 3 t30 (.int .i64 3)) fun t31 =>
 bnd (A.bin prog .add 3 (.int .i64 1) t31) fun t32 =>
 bnd (A.fieldAddr 4 x5) fun t33 =>
 bnd (A.store 1 t33 t32 hq1) fun hq2 =>
 kn x4 x5 x2 hq2
theorem epawQ (x4 x5 x2 : Value) :
  execK prog C L 0 52 [2,3] cawQ [4,5,2] [] (fs [(4,x4),(5,x5),(2,x2)]) h K =
   pawQ C L x4 x5 x2 h (fun x4 x5 x2 h => K .normal (fs [(4,x4),(5,x5),(2,x2)]) h) := by
 kernel_rfl
noncomputable def cahP : Code := cR cagS
noncomputable def cawR : Code := cL cahP
noncomputable def pawR (C : CF) (L : Nat) {β : Type} (x4 x5 x2 : Value) (h : H) (kn : Kv4 β) : Option β :=
 kn x4 x5 (.slice none 0 0) x2 h
theorem epawR (x4 x5 x2 : Value) :
  execK prog C L 0 52 [2,3] cawR [4,5,6,2] [] (fs [(4,x4),(5,x5),(2,x2)]) h K =
   pawR C L x4 x5 x2 h (fun x4 x5 x6 x2 h => K .normal (fs [(4,x4),(5,x5),(6,x6),(2,x2)]) h) := by
 kernel_rfl
noncomputable def caiQ : Code := cR cahP
noncomputable def cajR : Code := cL caiQ
noncomputable def cakW : Code := cL cajR
noncomputable def canS : Code := cL cakW
noncomputable def panS (C : CF) (L : Nat) {β : Type} (x4 x5 x6 x2 : Value) (h : H) (kn : Kv4 β) (kx0 : Kv3 β) : Option β :=
 bnd (A.nilCheck x4) fun t35 =>
 bnd (A.fieldAddr 0 t35) fun t36 =>
 bnd (A.load false 1 t36 h) fun t37 =>
 bnd (A.lenS t37) fun t38 =>
 bnd (A.bin prog .gtr 3 t38 (.int .i64 0)) fun t39 =>
 toBK t39 fun b =>
 (bif b then
 bnd (A.lenS x6) fun t42 =>
 bnd (A.bin prog .lss 3 t42 (.int .i64 1000)) fun t43 =>
 toBK t43 fun bq1 =>
 (bif bq1 then
 bnd2 (C 11 [x4] h) fun t47 hq1 =>
 bnd2 (A.buildSlice 7 1 Z35L [(0,7,t47)] hq1) fun t48 hq2 =>
 bnd2 (A.append 7 64 x6 t48 hq2) fun t49 hq3 =>
 kn x4 x5 t49 x2 hq3
 else
 kx0 x5 x6 x2 h)
 else
 kx0 x5 x6 x2 h)
theorem epanS (x4 x5 x6 x2 : Value) :
  execK prog C L 0 52 [2,3] canS [4,5,6,2] [(0,[5,6,2])] (fs [(4,x4),(5,x5),(6,x6),(2,x2)]) h K =
   panS C L x4 x5 x6 x2 h (fun x4 x5 x6 x2 h => K .normal (fs [(4,x4),(5,x5),(6,x6),(2,x2)]) h) (fun x5 x6 x2 h => K (.exit 0) (fs [(5,x5),(6,x6),(2,x2)]) h) := by
 kernel_rfl
noncomputable def parX (C : CF) (L : Nat) {β : Type} (kx0 : Kv3 β) : Nat → Kv4 β
 | 0,_,_,_,_,_ => none
 | n + 1,x4,x5,x6,x2,h => panS C L x4 x5 x6 x2 h (fun x4 x5 x6 x2 h => parX C L kx0 n x4 x5 x6 x2 h) kx0
theorem eparX (C : CF) (L : Nat) {β : Type} (K : Ex → T Value → Kv0 β) : ∀ (n : Nat) (x4 x5 x6 x2 : Value) (h : H),
  loopK (fun fr h K => execK prog C L 0 52 [2,3] canS [4,5,6,2] [(0,[5,6,2])] fr h K) n (fs [(4,x4),(5,x5),(6,x6),(2,x2)]) h K =
   parX C L (fun x5 x6 x2 h => K (.exit 0) (fs [(5,x5),(6,x6),(2,x2)]) h) n x4 x5 x6 x2 h := by
 intro n
 induction n with
 | zero => intros; rfl
 | succ n ih =>
  intros
  simp only [loopK]
  rw [epanS]
  simp only [seqK_n,seqK_x,seqK_r,ih]
  rfl
noncomputable def pakW (C : CF) (L : Nat) {β : Type} (x4 x5 x6 x2 : Value) (h : H) (kx0 : Kv3 β) : Option β :=
 parX C L kx0 L x4 x5 x6 x2 h
theorem epakW (x4 x5 x6 x2 : Value) :
  execK prog C L 0 52 [2,3] cakW [5,6,2] [(0,[5,6,2])] (fs [(4,x4),(5,x5),(6,x6),(2,x2)]) h K =
   pakW C L x4 x5 x6 x2 h (fun x5 x6 x2 h => K (.exit 0) (fs [(5,x5),(6,x6),(2,x2)]) h) := by
 rw [execK_loop (b := canS) (fr1 := (fs [(4,x4),(5,x5),(6,x6),(2,x2)])) (by kernel_rfl) (show live [2,3] canS [] [(0,[5,6,2])] = [4,5,6,2] by kernel_rfl) (by kernel_rfl),eparX]
 unfold pakW
 rfl
noncomputable def pajR (C : CF) (L : Nat) {β : Type} (x4 x5 x6 x2 : Value) (h : H) (kn : Kv3 β) : Option β :=
 pakW C L x4 x5 x6 x2 h kn
theorem epajR (x4 x5 x6 x2 : Value) :
  execK prog C L 0 52 [2,3] cajR [5,6,2] [] (fs [(4,x4),(5,x5),(6,x6),(2,x2)]) h K =
   pajR C L x4 x5 x6 x2 h (fun x5 x6 x2 h => K .normal (fs [(5,x5),(6,x6),(2,x2)]) h) := by
 rw [execK_block (b := cakW) (id := 0) (by kernel_rfl),epakW]
 unfold pajR
 rfl
noncomputable def carY : Code := cR caiQ
noncomputable def parY (C : CF) (L : Nat) {β : Type} (x5 x6 x2 : Value) (h : H) (kr : Kv2 β) : Option β :=
 bnd (A.load true 5 x5 h) fun t50 =>
 bnd (A.store 5 x2 t50 h) fun hq1 =>
 kr x2 x6 hq1
theorem eparY (x5 x6 x2 : Value) :
  execK prog C L 0 52 [2,3] carY [2,3] [] (fs [(5,x5),(6,x6),(2,x2)]) h K =
   parY C L x5 x6 x2 h (fun x2 x3 h => K .ret (fs [(2,x2),(3,x3)]) h) := by
 kernel_rfl
noncomputable def p5a (C : CF) (L : Nat) {β : Type} (x0 : Value) (h : H) (kr : Kv2 β) : Option β :=
 palW C L x0 h (fun x0 x2 h => palX C L x0 x2 h (fun x4 x2 h => paaI C L x4 x2 h (fun x4 x5 x2 h => pawN C L x4 x5 x2 h (fun x4 x5 x2 h => pawO C L x4 x5 x2 h (fun x4 x5 x2 h => pawP C L x4 x5 x2 h (fun x4 x5 x2 h => pawQ C L x4 x5 x2 h (fun x4 x5 x2 h => pawR C L x4 x5 x2 h (fun x4 x5 x6 x2 h => pajR C L x4 x5 x6 x2 h (fun x5 x6 x2 h => parY C L x5 x6 x2 h kr)))))))))
theorem ep5a (x0 : Value) :
  execK prog C L 0 52 [2,3] c5a [2,3] [] (fs [(0,x0)]) h K =
   p5a C L x0 h (fun x2 x3 h => K .ret (fs [(2,x2),(3,x3)]) h) := by
 rw [execK_seq (a := calW) (b := caaB) (by kernel_rfl) (show live [2,3] caaB [2,3] [] = [0,2] by kernel_rfl),epalW]
 unfold p5a
 exact (congrArg (palW C L x0 h) (funext fun x0=>funext fun x2=>funext fun h => (seqK_n _ _ _).trans (by rw [execK_seq (a := calX) (b := caaD) (by kernel_rfl) (show live [2,3] caaD [2,3] [] = [4,2] by kernel_rfl),epalX]; exact (congrArg (palX C L x0 x2 h) (funext fun x4=>funext fun x2=>funext fun h => (seqK_n _ _ _).trans (by rw [execK_seq (a := caaI) (b := caeF) (by kernel_rfl) (show live [2,3] caeF [2,3] [] = [4,5,2] by kernel_rfl),epaaI]; exact (congrArg (paaI C L x4 x2 h) (funext fun x4=>funext fun x5=>funext fun x2=>funext fun h => (seqK_n _ _ _).trans (by rw [execK_seq (a := cawN) (b := cafK) (by kernel_rfl) (show live [2,3] cafK [2,3] [] = [4,5,2] by kernel_rfl),epawN]; exact (congrArg (pawN C L x4 x5 x2 h) (funext fun x4=>funext fun x5=>funext fun x2=>funext fun h => (seqK_n _ _ _).trans (by rw [execK_seq (a := cawO) (b := cafZ) (by kernel_rfl) (show live [2,3] cafZ [2,3] [] = [4,5,2] by kernel_rfl),epawO]; exact (congrArg (pawO C L x4 x5 x2 h) (funext fun x4=>funext fun x5=>funext fun x2=>funext fun h => (seqK_n _ _ _).trans (by rw [execK_seq (a := cawP) (b := cagS) (by kernel_rfl) (show live [2,3] cagS [2,3] [] = [4,5,2] by kernel_rfl),epawP]; exact (congrArg (pawP C L x4 x5 x2 h) (funext fun x4=>funext fun x5=>funext fun x2=>funext fun h => (seqK_n _ _ _).trans (by rw [execK_seq (a := cawQ) (b := cahP) (by kernel_rfl) (show live [2,3] cahP [2,3] [] = [4,5,2] by kernel_rfl),epawQ]; exact (congrArg (pawQ C L x4 x5 x2 h) (funext fun x4=>funext fun x5=>funext fun x2=>funext fun h => (seqK_n _ _ _).trans (by rw [execK_seq (a := cawR) (b := caiQ) (by kernel_rfl) (show live [2,3] caiQ [2,3] [] = [4,5,6,2] by kernel_rfl),epawR]; exact (congrArg (pawR C L x4 x5 x2 h) (funext fun x4=>funext fun x5=>funext fun x6=>funext fun x2=>funext fun h => (seqK_n _ _ _).trans (by rw [execK_seq (a := cajR) (b := carY) (by kernel_rfl) (show live [2,3] carY [2,3] [] = [5,6,2] by kernel_rfl),epajR]; exact (congrArg (pajR C L x4 x5 x6 x2 h) (funext fun x5=>funext fun x6=>funext fun x2=>funext fun h => (seqK_n _ _ _).trans (eparY C L h K x5 x6 x2)))))))))))))))))))))))))))
noncomputable def F5 (C : CF) (L : Nat) (x0 : Value) (h : H) : Option (Value × H) :=
 p5a C L x0 h
  (fun x2 x3 h => bnd (resC (A.load true 5 x2 h) (resC (some x3) (some []))) fun vs => some (packA vs,h))
theorem F5eq (Q : Orc) (n : Nat) (x0 : Value) (h : H) (hQ : Q 5 [x0] = none) : callO prog 0 Q (n + 1) 5 [x0] h = F5 (callO prog 0 Q n) n x0 h := by
 rw [callO_eq hQ (c := c5a) (nt := 52) (RR := [2,3]) (fr := (fs [(0,x0)])) Tryz.func5 (by kernel_rfl) (by kernel_rfl) (by kernel_rfl) (by kernel_rfl) (by kernel_rfl),ep5a]
 kernel_rfl
noncomputable def c10a : Code := (Tryz.f10.body).getD .skip
noncomputable def p10a (C : CF) (L : Nat) {β : Type} (x0 : Value) (h : H) (kr : Kv1 β) : Option β :=
 bnd (A.nilCheck x0) fun t5 =>
 bnd (A.fieldAddr 0 t5) fun t6 =>
 bnd (A.load false 1 t6 h) fun t7 =>
 bnd (A.lenS t7) fun t8 =>
 bnd (A.bin prog .eql 3 t8 (.int .i64 0)) fun t9 =>
 toBK t9 fun b =>
 (bif b then
 kr (.int .i64 0) h
 else
 bnd (A.nilCheck x0) fun t11 =>
 bnd (A.fieldAddr 0 t11) fun t12 =>
 bnd (A.load false 1 t12 h) fun t13 =>
 bnd (A.idxS 1 t13 (.int .i64 0)) fun t14 =>
 bnd (A.load false 1 t14 h) fun t15 =>
 bnd (A.nilCheck x0) fun t18 =>
 bnd (A.fieldAddr 0 t18) fun t19 =>
 bnd (A.load false 1 t19 h) fun t20 =>
 bnd (A.sliceS 1 t20 (some (.int .i64 1)) none none h) fun t21 =>
 bnd (A.nilCheck x0) fun t22 =>
 bnd (A.fieldAddr 0 t22) fun t23 =>
 bnd (A.store 1 t23 t21 h) fun hq1 =>
 bnd (A.conv prog 5 3 t15) fun t25 =>
 kr t25 hq1)
theorem ep10a (x0 : Value) :
  execK prog C L 0 26 [2] c10a [2] [] (fs [(0,x0)]) h K =
   p10a C L x0 h (fun x2 h => K .ret (fs [(2,x2)]) h) := by
 kernel_rfl
noncomputable def F10 (C : CF) (L : Nat) (x0 : Value) (h : H) : Option (Value × H) :=
 p10a C L x0 h
  (fun x2 h => some (x2,h))
theorem F10eq (Q : Orc) (n : Nat) (x0 : Value) (h : H) (hQ : Q 10 [x0] = none) : callO prog 0 Q (n + 1) 10 [x0] h = F10 (callO prog 0 Q n) n x0 h := by
 rw [callO_eq hQ (c := c10a) (nt := 26) (RR := [2]) (fr := (fs [(0,x0)])) Tryz.func10 (by kernel_rfl) (by kernel_rfl) (by kernel_rfl) (by kernel_rfl) (by kernel_rfl),ep10a]
 kernel_rfl
noncomputable def c11a : Code := (Tryz.f11.body).getD .skip
noncomputable def camB : Code := cL c11a
noncomputable def pamB (C : CF) (L : Nat) {β : Type} (x0 : Value) (h : H) (kn : Kv2 β) : Option β :=
 bnd2 (A.box 7 Z35 h) fun t2 hq1 =>
 kn x0 t2 hq1
theorem epamB (x0 : Value) :
  execK prog C L 0 61 [2] camB [0,2] [] (fs [(0,x0)]) h K =
   pamB C L x0 h (fun x0 x2 h => K .normal (fs [(0,x0),(2,x2)]) h) := by
 kernel_rfl
noncomputable def caaE : Code := cR c11a
noncomputable def cajB : Code := cL caaE
noncomputable def pajB (C : CF) (L : Nat) {β : Type} (x0 x2 : Value) (h : H) (kn : Kv3 β) : Option β :=
 bnd2 (C 10 [x0] h) fun t7 hq1 =>
 bnd (A.bin prog .rem 3 t7 (.int .i64 16)) fun t8 =>
 kn x0 t8 x2 hq1
theorem epajB (x0 x2 : Value) :
  execK prog C L 0 61 [2] cajB [0,3,2] [] (fs [(0,x0),(2,x2)]) h K =
   pajB C L x0 x2 h (fun x0 x3 x2 h => K .normal (fs [(0,x0),(3,x3),(2,x2)]) h) := by
 kernel_rfl
noncomputable def caaF : Code := cR caaE
noncomputable def cabT : Code := cL caaF
noncomputable def camV : Code := cL cabT
noncomputable def pamV (C : CF) (L : Nat) {β : Type} (x0 x3 x2 : Value) (h : H) (kn : Kv4 β) : Option β :=
 kn x3 x0 x3 x2 h
theorem epamV (x0 x3 x2 : Value) :
  execK prog C L 0 61 [2] camV [9,0,3,2] [] (fs [(0,x0),(3,x3),(2,x2)]) h K =
   pamV C L x0 x3 x2 h (fun x9 x0 x3 x2 h => K .normal (fs [(9,x9),(0,x0),(3,x3),(2,x2)]) h) := by
 kernel_rfl
noncomputable def cacH : Code := cR cabT
noncomputable def cacO : Code := cL cacH
noncomputable def camW : Code := cL cacO
noncomputable def pamW (C : CF) (L : Nat) {β : Type} (x9 x0 x3 x2 : Value) (h : H) (kn : Kv5 β) : Option β :=
 bnd (A.bin prog .eql 3 x9 (.int .i64 0)) fun t11 =>
 toBK t11 fun b =>
 kn (.bool b) x9 x0 x3 x2 h
theorem epamW (x9 x0 x3 x2 : Value) :
  execK prog C L 0 61 [2] camW [10,9,0,3,2] [(0,[0,3,2])] (fs [(9,x9),(0,x0),(3,x3),(2,x2)]) h K =
   pamW C L x9 x0 x3 x2 h (fun x10 x9 x0 x3 x2 h => K .normal (fs [(10,x10),(9,x9),(0,x0),(3,x3),(2,x2)]) h) := by
 kernel_rfl
noncomputable def cacZ : Code := cR cacO
noncomputable def caxR : Code := cL cacZ
noncomputable def paxR (C : CF) (L : Nat) {β : Type} (x10 x9 x0 x3 x2 : Value) (h : H) (kr : Kv1 β) : Option β :=
 bnd (A.build Z35L [(0,1,(.int .u8 1))]) fun t12 =>
 bnd (A.store 7 x2 t12 h) fun hq1 =>
 kr x2 hq1
theorem epaxR (x10 x9 x0 x3 x2 : Value) :
  execK prog C L 0 61 [2] caxR [0,3,2] [(0,[0,3,2])] (fs [(10,x10),(9,x9),(0,x0),(3,x3),(2,x2)]) h K =
   paxR C L x10 x9 x0 x3 x2 h (fun x2 h => K .ret (fs [(2,x2)]) h) := by
 kernel_rfl
noncomputable def cadM : Code := cR cacZ
noncomputable def camX : Code := cL cadM
noncomputable def pamX (C : CF) (L : Nat) {β : Type} (x10 x9 x0 x3 x2 : Value) (h : H) (kn : Kv5 β) : Option β :=
 bnd (A.bin prog .eql 3 x9 (.int .i64 10)) fun t14 =>
 toBK t14 fun b =>
 kn (.bool b) x9 x0 x3 x2 h
theorem epamX (x10 x9 x0 x3 x2 : Value) :
  execK prog C L 0 61 [2] camX [13,9,0,3,2] [(0,[0,3,2])] (fs [(10,x10),(9,x9),(0,x0),(3,x3),(2,x2)]) h K =
   pamX C L x10 x9 x0 x3 x2 h (fun x13 x9 x0 x3 x2 h => K .normal (fs [(13,x13),(9,x9),(0,x0),(3,x3),(2,x2)]) h) := by
 kernel_rfl
noncomputable def caeJ : Code := cR cadM
noncomputable def catP : Code := cL caeJ
noncomputable def patP (C : CF) (L : Nat) {β : Type} (x13 x9 x0 x3 x2 : Value) (h : H) (kr : Kv1 β) : Option β :=
 bnd2 (C 10 [x0] h) fun t16 hq1 =>
 bnd (A.bin prog .rem 3 t16 (.int .i64 2)) fun t18 =>
 bnd (A.bin prog .eql 3 t18 (.int .i64 1)) fun t19 =>
 toBK t19 fun b =>
 (bif b then
 bnd (A.bin prog .quo 3 t16 (.int .i64 2)) fun t21 =>
 bnd (A.bin prog .rem 3 t21 (.int .i64 4)) fun t22 =>
 bnd (A.build Z35L [(0,1,(.int .u8 4)),(2,1,t22)]) fun t23 =>
 bnd (A.store 7 x2 t23 hq1) fun hq2 =>
 kr x2 hq2
 else
 bnd2 (C 10 [x0] hq1) fun t25 hq3 =>
 bnd (A.bin prog .rem 3 t25 (.int .i64 6)) fun t26 =>
 bnd (A.build Z35L [(0,1,(.int .u8 3)),(1,1,t26)]) fun t27 =>
 bnd (A.store 7 x2 t27 hq3) fun hq4 =>
 kr x2 hq4)
theorem epatP (x13 x9 x0 x3 x2 : Value) :
  execK prog C L 0 61 [2] catP [0,3,2] [(0,[0,3,2])] (fs [(13,x13),(9,x9),(0,x0),(3,x3),(2,x2)]) h K =
   patP C L x13 x9 x0 x3 x2 h (fun x2 h => K .ret (fs [(2,x2)]) h) := by
 kernel_rfl
noncomputable def cafH : Code := cR caeJ
noncomputable def canK : Code := cL cafH
noncomputable def panK (C : CF) (L : Nat) {β : Type} (x13 x9 x0 x3 x2 : Value) (h : H) (kn : Kv5 β) : Option β :=
 bnd (A.bin prog .eql 3 x9 (.int .i64 11)) fun t29 =>
 toBK t29 fun b =>
 kn (.bool b) x9 x0 x3 x2 h
theorem epanK (x13 x9 x0 x3 x2 : Value) :
  execK prog C L 0 61 [2] canK [28,9,0,3,2] [(0,[0,3,2])] (fs [(13,x13),(9,x9),(0,x0),(3,x3),(2,x2)]) h K =
   panK C L x13 x9 x0 x3 x2 h (fun x28 x9 x0 x3 x2 h => K .normal (fs [(28,x28),(9,x9),(0,x0),(3,x3),(2,x2)]) h) := by
 kernel_rfl
noncomputable def cagR : Code := cR cafH
noncomputable def caxQ : Code := cL cagR
noncomputable def paxQ (C : CF) (L : Nat) {β : Type} (x28 x9 x0 x3 x2 : Value) (h : H) (kr : Kv1 β) : Option β :=
 bnd2 (C 10 [x0] h) fun t31 hq1 =>
 bnd (A.bin prog .rem 3 t31 (.int .i64 6)) fun t32 =>
 bnd (A.build Z35L [(0,1,(.int .u8 5)),(1,1,t32)]) fun t33 =>
 bnd (A.store 7 x2 t33 hq1) fun hq2 =>
 kr x2 hq2
theorem epaxQ (x28 x9 x0 x3 x2 : Value) :
  execK prog C L 0 61 [2] caxQ [0,3,2] [(0,[0,3,2])] (fs [(28,x28),(9,x9),(0,x0),(3,x3),(2,x2)]) h K =
   paxQ C L x28 x9 x0 x3 x2 h (fun x2 h => K .ret (fs [(2,x2)]) h) := by
 kernel_rfl
noncomputable def caiF : Code := cR cagR
noncomputable def canP : Code := cL caiF
noncomputable def panP (C : CF) (L : Nat) {β : Type} (x28 x9 x0 x3 x2 : Value) (h : H) (kn : Kv5 β) : Option β :=
 bnd (A.bin prog .eql 3 x9 (.int .i64 12)) fun t35 =>
 toBK t35 fun b =>
 (bif b then
 kn (.bool b) x9 x0 x3 x2 h
 else
 bnd (A.bin prog .eql 3 x9 (.int .i64 13)) fun t36 =>
 toBK t36 fun bq1 =>
 kn (.bool bq1) x9 x0 x3 x2 h)
theorem epanP (x28 x9 x0 x3 x2 : Value) :
  execK prog C L 0 61 [2] canP [34,9,0,3,2] [(0,[0,3,2])] (fs [(28,x28),(9,x9),(0,x0),(3,x3),(2,x2)]) h K =
   panP C L x28 x9 x0 x3 x2 h (fun x34 x9 x0 x3 x2 h => K .normal (fs [(34,x34),(9,x9),(0,x0),(3,x3),(2,x2)]) h) := by
 kernel_rfl
noncomputable def cakL : Code := cR caiF
noncomputable def catO : Code := cL cakL
noncomputable def patO (C : CF) (L : Nat) {β : Type} (x34 x9 x0 x3 x2 : Value) (h : H) (kr : Kv1 β) : Option β :=
 bnd (A.build Z35L [(0,1,(.int .u8 6))]) fun t37 =>
 bnd2 (A.box 7 Z35 h) fun t5 hq1 =>
 bnd (A.store 7 t5 t37 hq1) fun hq2 =>
 bnd2 (C 10 [x0] hq2) fun t39 hq3 =>
 bnd (A.bin prog .rem 3 t39 (.int .i64 5)) fun t40 =>
 bnd (A.fieldAddr 3 t5) fun t41 =>
 bnd (A.fieldAddr 0 t41) fun t42 =>
 bnd (A.store 1 t42 t40 hq3) fun hq4 =>
 bnd2 (C 10 [x0] hq4) fun t44 hq5 =>
 bnd (A.bin prog .rem 3 t44 (.int .i64 8)) fun t45 =>
 bnd (A.fieldAddr 3 t5) fun t46 =>
 bnd (A.fieldAddr 1 t46) fun t47 =>
 bnd (A.store 1 t47 t45 hq5) fun hq6 =>
 bnd2 (C 10 [x0] hq6) fun t49 hq7 =>
 bnd (A.bin prog .rem 3 t49 (.int .i64 7)) fun t50 =>
 bnd (A.fieldAddr 3 t5) fun t51 =>
 bnd (A.fieldAddr 2 t51) fun t52 =>
 bnd (A.store 1 t52 t50 hq7) fun hq8 =>
 bnd (A.load true 7 t5 hq8) fun t53 =>
 bnd (A.store 7 x2 t53 hq8) fun hq9 =>
 kr x2 hq9
theorem epatO (x34 x9 x0 x3 x2 : Value) :
  execK prog C L 0 61 [2] catO [0,3,2] [(0,[0,3,2])] (fs [(34,x34),(9,x9),(0,x0),(3,x3),(2,x2)]) h K =
   patO C L x34 x9 x0 x3 x2 h (fun x2 h => K .ret (fs [(2,x2)]) h) := by
 kernel_rfl
noncomputable def caqV : Code := cR cakL
noncomputable def paqV (C : CF) (L : Nat) {β : Type} (x34 x9 x0 x3 x2 : Value) (h : H) (kr : Kv1 β) (kn : Kv3 β) : Option β :=
 bnd (A.bin prog .eql 3 x9 (.int .i64 14)) fun t55 =>
 toBK t55 fun b =>
 (bif b then
 (bif b then
 bnd (A.build Z35L [(0,1,(.int .u8 7))]) fun t57 =>
 bnd (A.store 7 x2 t57 h) fun hq1 =>
 kr x2 hq1
 else
 kn x0 x3 x2 h)
 else
 bnd (A.bin prog .eql 3 x9 (.int .i64 15)) fun t56 =>
 toBK t56 fun bq1 =>
 (bif bq1 then
 bnd (A.build Z35L [(0,1,(.int .u8 7))]) fun t57q1 =>
 bnd (A.store 7 x2 t57q1 h) fun hq2 =>
 kr x2 hq2
 else
 kn x0 x3 x2 h))
theorem epaqV (x34 x9 x0 x3 x2 : Value) :
  execK prog C L 0 61 [2] caqV [0,3,2] [(0,[0,3,2])] (fs [(34,x34),(9,x9),(0,x0),(3,x3),(2,x2)]) h K =
   paqV C L x34 x9 x0 x3 x2 h (fun x2 h => K .ret (fs [(2,x2)]) h) (fun x0 x3 x2 h => K .normal (fs [(0,x0),(3,x3),(2,x2)]) h) := by
 kernel_rfl
noncomputable def pakL (C : CF) (L : Nat) {β : Type} (x34 x9 x0 x3 x2 : Value) (h : H) (kr : Kv1 β) (kn : Kv3 β) : Option β :=
 condV x34 (patO C L x34 x9 x0 x3 x2 h kr) (paqV C L x34 x9 x0 x3 x2 h kr kn)
theorem epakL (x34 x9 x0 x3 x2 : Value) :
  execK prog C L 0 61 [2] cakL [0,3,2] [(0,[0,3,2])] (fs [(34,x34),(9,x9),(0,x0),(3,x3),(2,x2)]) h K =
   pakL C L x34 x9 x0 x3 x2 h (fun x2 h => K .ret (fs [(2,x2)]) h) (fun x0 x3 x2 h => K .normal (fs [(0,x0),(3,x3),(2,x2)]) h) := by
 rw [execK_cond (a := catO) (b := caqV) (x := (.tmp 34)) (v := x34) (by kernel_rfl) (by kernel_rfl),epatO,epaqV]
 unfold pakL
 rfl
noncomputable def paiF (C : CF) (L : Nat) {β : Type} (x28 x9 x0 x3 x2 : Value) (h : H) (kr : Kv1 β) (kn : Kv3 β) : Option β :=
 panP C L x28 x9 x0 x3 x2 h (fun x34 x9 x0 x3 x2 h => pakL C L x34 x9 x0 x3 x2 h kr kn)
theorem epaiF (x28 x9 x0 x3 x2 : Value) :
  execK prog C L 0 61 [2] caiF [0,3,2] [(0,[0,3,2])] (fs [(28,x28),(9,x9),(0,x0),(3,x3),(2,x2)]) h K =
   paiF C L x28 x9 x0 x3 x2 h (fun x2 h => K .ret (fs [(2,x2)]) h) (fun x0 x3 x2 h => K .normal (fs [(0,x0),(3,x3),(2,x2)]) h) := by
 rw [execK_seq (a := canP) (b := cakL) (by kernel_rfl) (show live [2] cakL [0,3,2] [(0,[0,3,2])] = [34,9,0,3,2] by kernel_rfl),epanP]
 unfold paiF
 exact (congrArg (panP C L x28 x9 x0 x3 x2 h) (funext fun x34=>funext fun x9=>funext fun x0=>funext fun x3=>funext fun x2=>funext fun h => (seqK_n _ _ _).trans (epakL C L h K x34 x9 x0 x3 x2)))
noncomputable def pagR (C : CF) (L : Nat) {β : Type} (x28 x9 x0 x3 x2 : Value) (h : H) (kr : Kv1 β) (kn : Kv3 β) : Option β :=
 condV x28 (paxQ C L x28 x9 x0 x3 x2 h kr) (paiF C L x28 x9 x0 x3 x2 h kr kn)
theorem epagR (x28 x9 x0 x3 x2 : Value) :
  execK prog C L 0 61 [2] cagR [0,3,2] [(0,[0,3,2])] (fs [(28,x28),(9,x9),(0,x0),(3,x3),(2,x2)]) h K =
   pagR C L x28 x9 x0 x3 x2 h (fun x2 h => K .ret (fs [(2,x2)]) h) (fun x0 x3 x2 h => K .normal (fs [(0,x0),(3,x3),(2,x2)]) h) := by
 rw [execK_cond (a := caxQ) (b := caiF) (x := (.tmp 28)) (v := x28) (by kernel_rfl) (by kernel_rfl),epaxQ,epaiF]
 unfold pagR
 rfl
noncomputable def pafH (C : CF) (L : Nat) {β : Type} (x13 x9 x0 x3 x2 : Value) (h : H) (kr : Kv1 β) (kn : Kv3 β) : Option β :=
 panK C L x13 x9 x0 x3 x2 h (fun x28 x9 x0 x3 x2 h => pagR C L x28 x9 x0 x3 x2 h kr kn)
theorem epafH (x13 x9 x0 x3 x2 : Value) :
  execK prog C L 0 61 [2] cafH [0,3,2] [(0,[0,3,2])] (fs [(13,x13),(9,x9),(0,x0),(3,x3),(2,x2)]) h K =
   pafH C L x13 x9 x0 x3 x2 h (fun x2 h => K .ret (fs [(2,x2)]) h) (fun x0 x3 x2 h => K .normal (fs [(0,x0),(3,x3),(2,x2)]) h) := by
 rw [execK_seq (a := canK) (b := cagR) (by kernel_rfl) (show live [2] cagR [0,3,2] [(0,[0,3,2])] = [28,9,0,3,2] by kernel_rfl),epanK]
 unfold pafH
 exact (congrArg (panK C L x13 x9 x0 x3 x2 h) (funext fun x28=>funext fun x9=>funext fun x0=>funext fun x3=>funext fun x2=>funext fun h => (seqK_n _ _ _).trans (epagR C L h K x28 x9 x0 x3 x2)))
noncomputable def paeJ (C : CF) (L : Nat) {β : Type} (x13 x9 x0 x3 x2 : Value) (h : H) (kr : Kv1 β) (kn : Kv3 β) : Option β :=
 condV x13 (patP C L x13 x9 x0 x3 x2 h kr) (pafH C L x13 x9 x0 x3 x2 h kr kn)
theorem epaeJ (x13 x9 x0 x3 x2 : Value) :
  execK prog C L 0 61 [2] caeJ [0,3,2] [(0,[0,3,2])] (fs [(13,x13),(9,x9),(0,x0),(3,x3),(2,x2)]) h K =
   paeJ C L x13 x9 x0 x3 x2 h (fun x2 h => K .ret (fs [(2,x2)]) h) (fun x0 x3 x2 h => K .normal (fs [(0,x0),(3,x3),(2,x2)]) h) := by
 rw [execK_cond (a := catP) (b := cafH) (x := (.tmp 13)) (v := x13) (by kernel_rfl) (by kernel_rfl),epatP,epafH]
 unfold paeJ
 rfl
noncomputable def padM (C : CF) (L : Nat) {β : Type} (x10 x9 x0 x3 x2 : Value) (h : H) (kr : Kv1 β) (kn : Kv3 β) : Option β :=
 pamX C L x10 x9 x0 x3 x2 h (fun x13 x9 x0 x3 x2 h => paeJ C L x13 x9 x0 x3 x2 h kr kn)
theorem epadM (x10 x9 x0 x3 x2 : Value) :
  execK prog C L 0 61 [2] cadM [0,3,2] [(0,[0,3,2])] (fs [(10,x10),(9,x9),(0,x0),(3,x3),(2,x2)]) h K =
   padM C L x10 x9 x0 x3 x2 h (fun x2 h => K .ret (fs [(2,x2)]) h) (fun x0 x3 x2 h => K .normal (fs [(0,x0),(3,x3),(2,x2)]) h) := by
 rw [execK_seq (a := camX) (b := caeJ) (by kernel_rfl) (show live [2] caeJ [0,3,2] [(0,[0,3,2])] = [13,9,0,3,2] by kernel_rfl),epamX]
 unfold padM
 exact (congrArg (pamX C L x10 x9 x0 x3 x2 h) (funext fun x13=>funext fun x9=>funext fun x0=>funext fun x3=>funext fun x2=>funext fun h => (seqK_n _ _ _).trans (epaeJ C L h K x13 x9 x0 x3 x2)))
noncomputable def pacZ (C : CF) (L : Nat) {β : Type} (x10 x9 x0 x3 x2 : Value) (h : H) (kr : Kv1 β) (kn : Kv3 β) : Option β :=
 condV x10 (paxR C L x10 x9 x0 x3 x2 h kr) (padM C L x10 x9 x0 x3 x2 h kr kn)
theorem epacZ (x10 x9 x0 x3 x2 : Value) :
  execK prog C L 0 61 [2] cacZ [0,3,2] [(0,[0,3,2])] (fs [(10,x10),(9,x9),(0,x0),(3,x3),(2,x2)]) h K =
   pacZ C L x10 x9 x0 x3 x2 h (fun x2 h => K .ret (fs [(2,x2)]) h) (fun x0 x3 x2 h => K .normal (fs [(0,x0),(3,x3),(2,x2)]) h) := by
 rw [execK_cond (a := caxR) (b := cadM) (x := (.tmp 10)) (v := x10) (by kernel_rfl) (by kernel_rfl),epaxR,epadM]
 unfold pacZ
 rfl
noncomputable def pacO (C : CF) (L : Nat) {β : Type} (x9 x0 x3 x2 : Value) (h : H) (kr : Kv1 β) (kn : Kv3 β) : Option β :=
 pamW C L x9 x0 x3 x2 h (fun x10 x9 x0 x3 x2 h => pacZ C L x10 x9 x0 x3 x2 h kr kn)
theorem epacO (x9 x0 x3 x2 : Value) :
  execK prog C L 0 61 [2] cacO [0,3,2] [(0,[0,3,2])] (fs [(9,x9),(0,x0),(3,x3),(2,x2)]) h K =
   pacO C L x9 x0 x3 x2 h (fun x2 h => K .ret (fs [(2,x2)]) h) (fun x0 x3 x2 h => K .normal (fs [(0,x0),(3,x3),(2,x2)]) h) := by
 rw [execK_seq (a := camW) (b := cacZ) (by kernel_rfl) (show live [2] cacZ [0,3,2] [(0,[0,3,2])] = [10,9,0,3,2] by kernel_rfl),epamW]
 unfold pacO
 exact (congrArg (pamW C L x9 x0 x3 x2 h) (funext fun x10=>funext fun x9=>funext fun x0=>funext fun x3=>funext fun x2=>funext fun h => (seqK_n _ _ _).trans (epacZ C L h K x10 x9 x0 x3 x2)))
noncomputable def pacH (C : CF) (L : Nat) {β : Type} (x9 x0 x3 x2 : Value) (h : H) (kr : Kv1 β) (kn : Kv3 β) : Option β :=
 pacO C L x9 x0 x3 x2 h kr kn
theorem epacH (x9 x0 x3 x2 : Value) :
  execK prog C L 0 61 [2] cacH [0,3,2] [] (fs [(9,x9),(0,x0),(3,x3),(2,x2)]) h K =
   pacH C L x9 x0 x3 x2 h (fun x2 h => K .ret (fs [(2,x2)]) h) (fun x0 x3 x2 h => K .normal (fs [(0,x0),(3,x3),(2,x2)]) h) := by
 rw [execK_block (b := cacO) (id := 0) (by kernel_rfl),epacO]
 unfold pacH
 rfl
noncomputable def pabT (C : CF) (L : Nat) {β : Type} (x0 x3 x2 : Value) (h : H) (kr : Kv1 β) (kn : Kv3 β) : Option β :=
 pamV C L x0 x3 x2 h (fun x9 x0 x3 x2 h => pacH C L x9 x0 x3 x2 h kr kn)
theorem epabT (x0 x3 x2 : Value) :
  execK prog C L 0 61 [2] cabT [0,3,2] [] (fs [(0,x0),(3,x3),(2,x2)]) h K =
   pabT C L x0 x3 x2 h (fun x2 h => K .ret (fs [(2,x2)]) h) (fun x0 x3 x2 h => K .normal (fs [(0,x0),(3,x3),(2,x2)]) h) := by
 rw [execK_seq (a := camV) (b := cacH) (by kernel_rfl) (show live [2] cacH [0,3,2] [] = [9,0,3,2] by kernel_rfl),epamV]
 unfold pabT
 exact (congrArg (pamV C L x0 x3 x2 h) (funext fun x9=>funext fun x0=>funext fun x3=>funext fun x2=>funext fun h => (seqK_n _ _ _).trans (epacH C L h K x9 x0 x3 x2)))
noncomputable def cabV : Code := cR caaF
noncomputable def pabV (C : CF) (L : Nat) {β : Type} (x0 x3 x2 : Value) (h : H) (kr : Kv1 β) : Option β :=
 bnd2 (C 18 [x0,x3] h) fun t60 hq1 =>
 bnd (A.store 7 x2 t60 hq1) fun hq2 =>
 kr x2 hq2
theorem epabV (x0 x3 x2 : Value) :
  execK prog C L 0 61 [2] cabV [2] [] (fs [(0,x0),(3,x3),(2,x2)]) h K =
   pabV C L x0 x3 x2 h (fun x2 h => K .ret (fs [(2,x2)]) h) := by
 kernel_rfl
noncomputable def p11a (C : CF) (L : Nat) {β : Type} (x0 : Value) (h : H) (kr : Kv1 β) : Option β :=
 pamB C L x0 h (fun x0 x2 h => pajB C L x0 x2 h (fun x0 x3 x2 h => pabT C L x0 x3 x2 h kr (fun x0 x3 x2 h => pabV C L x0 x3 x2 h kr)))
theorem ep11a (x0 : Value) :
  execK prog C L 0 61 [2] c11a [2] [] (fs [(0,x0)]) h K =
   p11a C L x0 h (fun x2 h => K .ret (fs [(2,x2)]) h) := by
 rw [execK_seq (a := camB) (b := caaE) (by kernel_rfl) (show live [2] caaE [2] [] = [0,2] by kernel_rfl),epamB]
 unfold p11a
 exact (congrArg (pamB C L x0 h) (funext fun x0=>funext fun x2=>funext fun h => (seqK_n _ _ _).trans (by rw [execK_seq (a := cajB) (b := caaF) (by kernel_rfl) (show live [2] caaF [2] [] = [0,3,2] by kernel_rfl),epajB]; exact (congrArg (pajB C L x0 x2 h) (funext fun x0=>funext fun x3=>funext fun x2=>funext fun h => (seqK_n _ _ _).trans (by rw [execK_seq (a := cabT) (b := cabV) (by kernel_rfl) (show live [2] cabV [2] [] = [0,3,2] by kernel_rfl),epabT]; exact (congr (congrArg (pabT C L x0 x3 x2 h) (funext fun x2=>funext fun h => seqK_r _ _ _)) (funext fun x0=>funext fun x3=>funext fun x2=>funext fun h => (seqK_n _ _ _).trans (epabV C L h K x0 x3 x2)))))))))
noncomputable def F11 (C : CF) (L : Nat) (x0 : Value) (h : H) : Option (Value × H) :=
 p11a C L x0 h
  (fun x2 h => bnd (resC (A.load true 7 x2 h) (some [])) fun vs => some (packA vs,h))
theorem F11eq (Q : Orc) (n : Nat) (x0 : Value) (h : H) (hQ : Q 11 [x0] = none) : callO prog 0 Q (n + 1) 11 [x0] h = F11 (callO prog 0 Q n) n x0 h := by
 rw [callO_eq hQ (c := c11a) (nt := 61) (RR := [2]) (fr := (fs [(0,x0)])) Tryz.func11 (by kernel_rfl) (by kernel_rfl) (by kernel_rfl) (by kernel_rfl) (by kernel_rfl),ep11a]
 kernel_rfl
noncomputable def c18a : Code := (Tryz.f18.body).getD .skip
noncomputable def caqZ : Code := cL c18a
noncomputable def paqZ (C : CF) (L : Nat) {β : Type} (x0 x1 : Value) (h : H) (kn : Kv3 β) : Option β :=
 bnd2 (A.box 7 Z35 h) fun t4 hq1 =>
 kn x1 x0 t4 hq1
theorem epaqZ (x0 x1 : Value) :
  execK prog C L 0 84 [4] caqZ [1,0,4] [] (fs [(0,x0),(1,x1)]) h K =
   paqZ C L x0 x1 h (fun x1 x0 x4 h => K .normal (fs [(1,x1),(0,x0),(4,x4)]) h) := by
 kernel_rfl
noncomputable def caaJ : Code := cR c18a
noncomputable def carA : Code := cL caaJ
noncomputable def parA (C : CF) (L : Nat) {β : Type} (x1 x0 x4 : Value) (h : H) (kn : Kv4 β) : Option β :=
 bnd2 (C 10 [x0] h) fun t11 hq1 =>
 bnd (A.bin prog .rem 3 t11 (.int .i64 6)) fun t12 =>
 bnd (A.build Z35L [(0,1,(.int .u8 2)),(1,1,t12)]) fun t13 =>
 bnd2 (A.box 7 Z35 hq1) fun t5 hq2 =>
 bnd (A.store 7 t5 t13 hq2) fun hq3 =>
 kn x1 x0 t5 x4 hq3
theorem eparA (x1 x0 x4 : Value) :
  execK prog C L 0 84 [4] carA [1,0,5,4] [] (fs [(1,x1),(0,x0),(4,x4)]) h K =
   parA C L x1 x0 x4 h (fun x1 x0 x5 x4 h => K .normal (fs [(1,x1),(0,x0),(5,x5),(4,x4)]) h) := by
 kernel_rfl
noncomputable def caaK : Code := cR caaJ
noncomputable def carB : Code := cL caaK
noncomputable def parB (C : CF) (L : Nat) {β : Type} (x1 x0 x5 x4 : Value) (h : H) (kn : Kv5 β) : Option β :=
 bnd2 (C 10 [x0] h) fun t15 hq1 =>
 kn x1 t15 x0 x5 x4 hq1
theorem eparB (x1 x0 x5 x4 : Value) :
  execK prog C L 0 84 [4] carB [1,6,0,5,4] [] (fs [(1,x1),(0,x0),(5,x5),(4,x4)]) h K =
   parB C L x1 x0 x5 x4 h (fun x1 x6 x0 x5 x4 h => K .normal (fs [(1,x1),(6,x6),(0,x0),(5,x5),(4,x4)]) h) := by
 kernel_rfl
noncomputable def caaL : Code := cR caaK
noncomputable def carC : Code := cL caaL
noncomputable def parC (C : CF) (L : Nat) {β : Type} (x1 x6 x0 x5 x4 : Value) (h : H) (kn : Kv6 β) : Option β :=
 bnd2 (A.box 24 Z77 h) fun t7 hq1 =>
 kn x1 t7 x6 x0 x5 x4 hq1
theorem eparC (x1 x6 x0 x5 x4 : Value) :
  execK prog C L 0 84 [4] carC [1,7,6,0,5,4] [] (fs [(1,x1),(6,x6),(0,x0),(5,x5),(4,x4)]) h K =
   parC C L x1 x6 x0 x5 x4 h (fun x1 x7 x6 x0 x5 x4 h => K .normal (fs [(1,x1),(7,x7),(6,x6),(0,x0),(5,x5),(4,x4)]) h) := by
 kernel_rfl
noncomputable def caaN : Code := cR caaL
noncomputable def caaP : Code := cL caaN
noncomputable def camS : Code := cL caaP
noncomputable def pamS (C : CF) (L : Nat) {β : Type} (x1 x7 x6 x0 x5 x4 : Value) (h : H) (kn : Kv6 β) : Option β :=
 kn x1 x7 x6 x0 x5 x4 h
theorem epamS (x1 x7 x6 x0 x5 x4 : Value) :
  execK prog C L 0 84 [4] camS [16,7,6,0,5,4] [] (fs [(1,x1),(7,x7),(6,x6),(0,x0),(5,x5),(4,x4)]) h K =
   pamS C L x1 x7 x6 x0 x5 x4 h (fun x16 x7 x6 x0 x5 x4 h => K .normal (fs [(16,x16),(7,x7),(6,x6),(0,x0),(5,x5),(4,x4)]) h) := by
 kernel_rfl
noncomputable def caaT : Code := cR caaP
noncomputable def caaX : Code := cL caaT
noncomputable def camT : Code := cL caaX
noncomputable def pamT (C : CF) (L : Nat) {β : Type} (x16 x7 x6 x0 x5 x4 : Value) (h : H) (kn : Kv7 β) : Option β :=
 bnd (A.bin prog .eql 3 x16 (.int .i64 1)) fun t37 =>
 toBK t37 fun b =>
 (bif b then
 kn (.bool b) x16 x7 x6 x0 x5 x4 h
 else
 bnd (A.bin prog .eql 3 x16 (.int .i64 2)) fun t38 =>
 toBK t38 fun bq1 =>
 kn (.bool bq1) x16 x7 x6 x0 x5 x4 h)
theorem epamT (x16 x7 x6 x0 x5 x4 : Value) :
  execK prog C L 0 84 [4] camT [36,16,7,6,0,5,4] [(0,[7,5,4])] (fs [(16,x16),(7,x7),(6,x6),(0,x0),(5,x5),(4,x4)]) h K =
   pamT C L x16 x7 x6 x0 x5 x4 h (fun x36 x16 x7 x6 x0 x5 x4 h => K .normal (fs [(36,x36),(16,x16),(7,x7),(6,x6),(0,x0),(5,x5),(4,x4)]) h) := by
 kernel_rfl
noncomputable def cabF : Code := cR caaX
noncomputable def cauJ : Code := cL cabF
noncomputable def pauJ (C : CF) (L : Nat) {β : Type} (x36 x16 x7 x6 x0 x5 x4 : Value) (h : H) (kn : Kv3 β) : Option β :=
 bnd2 (C 35 [x0,x6] h) fun t41 hq1 =>
 bnd (A.store 24 x7 t41 hq1) fun hq2 =>
 kn x7 x5 x4 hq2
theorem epauJ (x36 x16 x7 x6 x0 x5 x4 : Value) :
  execK prog C L 0 84 [4] cauJ [7,5,4] [(0,[7,5,4])] (fs [(36,x36),(16,x16),(7,x7),(6,x6),(0,x0),(5,x5),(4,x4)]) h K =
   pauJ C L x36 x16 x7 x6 x0 x5 x4 h (fun x7 x5 x4 h => K .normal (fs [(7,x7),(5,x5),(4,x4)]) h) := by
 kernel_rfl
noncomputable def cabI : Code := cR cabF
noncomputable def camZ : Code := cL cabI
noncomputable def pamZ (C : CF) (L : Nat) {β : Type} (x36 x16 x7 x6 x0 x5 x4 : Value) (h : H) (kn : Kv7 β) : Option β :=
 bnd (A.bin prog .eql 3 x16 (.int .i64 3)) fun t43 =>
 toBK t43 fun b =>
 kn (.bool b) x16 x7 x6 x0 x5 x4 h
theorem epamZ (x36 x16 x7 x6 x0 x5 x4 : Value) :
  execK prog C L 0 84 [4] camZ [42,16,7,6,0,5,4] [(0,[7,5,4])] (fs [(36,x36),(16,x16),(7,x7),(6,x6),(0,x0),(5,x5),(4,x4)]) h K =
   pamZ C L x36 x16 x7 x6 x0 x5 x4 h (fun x42 x16 x7 x6 x0 x5 x4 h => K .normal (fs [(42,x42),(16,x16),(7,x7),(6,x6),(0,x0),(5,x5),(4,x4)]) h) := by
 kernel_rfl
noncomputable def cabN : Code := cR cabI
noncomputable def caxW : Code := cL cabN
noncomputable def paxW (C : CF) (L : Nat) {β : Type} (x42 x16 x7 x6 x0 x5 x4 : Value) (h : H) (kn : Kv3 β) : Option β :=
 bnd2 (C 36 [x0,(.int .u8 8),x6] h) fun t46 hq1 =>
 bnd (A.store 24 x7 t46 hq1) fun hq2 =>
 kn x7 x5 x4 hq2
theorem epaxW (x42 x16 x7 x6 x0 x5 x4 : Value) :
  execK prog C L 0 84 [4] caxW [7,5,4] [(0,[7,5,4])] (fs [(42,x42),(16,x16),(7,x7),(6,x6),(0,x0),(5,x5),(4,x4)]) h K =
   paxW C L x42 x16 x7 x6 x0 x5 x4 h (fun x7 x5 x4 h => K .normal (fs [(7,x7),(5,x5),(4,x4)]) h) := by
 kernel_rfl
noncomputable def cabS : Code := cR cabN
noncomputable def canF : Code := cL cabS
noncomputable def panF (C : CF) (L : Nat) {β : Type} (x42 x16 x7 x6 x0 x5 x4 : Value) (h : H) (kn : Kv7 β) : Option β :=
 bnd (A.bin prog .eql 3 x16 (.int .i64 4)) fun t48 =>
 toBK t48 fun b =>
 kn (.bool b) x16 x7 x6 x0 x5 x4 h
theorem epanF (x42 x16 x7 x6 x0 x5 x4 : Value) :
  execK prog C L 0 84 [4] canF [47,16,7,6,0,5,4] [(0,[7,5,4])] (fs [(42,x42),(16,x16),(7,x7),(6,x6),(0,x0),(5,x5),(4,x4)]) h K =
   panF C L x42 x16 x7 x6 x0 x5 x4 h (fun x47 x16 x7 x6 x0 x5 x4 h => K .normal (fs [(47,x47),(16,x16),(7,x7),(6,x6),(0,x0),(5,x5),(4,x4)]) h) := by
 kernel_rfl
noncomputable def cacA : Code := cR cabS
noncomputable def caxV : Code := cL cacA
noncomputable def paxV (C : CF) (L : Nat) {β : Type} (x47 x16 x7 x6 x0 x5 x4 : Value) (h : H) (kn : Kv3 β) : Option β :=
 bnd2 (C 36 [x0,(.int .u8 10),x6] h) fun t51 hq1 =>
 bnd (A.store 24 x7 t51 hq1) fun hq2 =>
 kn x7 x5 x4 hq2
theorem epaxV (x47 x16 x7 x6 x0 x5 x4 : Value) :
  execK prog C L 0 84 [4] caxV [7,5,4] [(0,[7,5,4])] (fs [(47,x47),(16,x16),(7,x7),(6,x6),(0,x0),(5,x5),(4,x4)]) h K =
   paxV C L x47 x16 x7 x6 x0 x5 x4 h (fun x7 x5 x4 h => K .normal (fs [(7,x7),(5,x5),(4,x4)]) h) := by
 kernel_rfl
noncomputable def cacL : Code := cR cacA
noncomputable def canL : Code := cL cacL
noncomputable def panL (C : CF) (L : Nat) {β : Type} (x47 x16 x7 x6 x0 x5 x4 : Value) (h : H) (kn : Kv7 β) : Option β :=
 bnd (A.bin prog .eql 3 x16 (.int .i64 5)) fun t53 =>
 toBK t53 fun b =>
 (bif b then
 kn (.bool b) x16 x7 x6 x0 x5 x4 h
 else
 bnd (A.bin prog .eql 3 x16 (.int .i64 6)) fun t54 =>
 toBK t54 fun bq1 =>
 kn (.bool bq1) x16 x7 x6 x0 x5 x4 h)
theorem epanL (x47 x16 x7 x6 x0 x5 x4 : Value) :
  execK prog C L 0 84 [4] canL [52,16,7,6,0,5,4] [(0,[7,5,4])] (fs [(47,x47),(16,x16),(7,x7),(6,x6),(0,x0),(5,x5),(4,x4)]) h K =
   panL C L x47 x16 x7 x6 x0 x5 x4 h (fun x52 x16 x7 x6 x0 x5 x4 h => K .normal (fs [(52,x52),(16,x16),(7,x7),(6,x6),(0,x0),(5,x5),(4,x4)]) h) := by
 kernel_rfl
noncomputable def cacU : Code := cR cacL
noncomputable def cauI : Code := cL cacU
noncomputable def pauI (C : CF) (L : Nat) {β : Type} (x52 x16 x7 x6 x0 x5 x4 : Value) (h : H) (kn : Kv3 β) : Option β :=
 bnd2 (C 37 [x0,x6] h) fun t57 hq1 =>
 bnd (A.store 24 x7 t57 hq1) fun hq2 =>
 kn x7 x5 x4 hq2
theorem epauI (x52 x16 x7 x6 x0 x5 x4 : Value) :
  execK prog C L 0 84 [4] cauI [7,5,4] [(0,[7,5,4])] (fs [(52,x52),(16,x16),(7,x7),(6,x6),(0,x0),(5,x5),(4,x4)]) h K =
   pauI C L x52 x16 x7 x6 x0 x5 x4 h (fun x7 x5 x4 h => K .normal (fs [(7,x7),(5,x5),(4,x4)]) h) := by
 kernel_rfl
noncomputable def cadF : Code := cR cacU
noncomputable def caoA : Code := cL cadF
noncomputable def paoA (C : CF) (L : Nat) {β : Type} (x52 x16 x7 x6 x0 x5 x4 : Value) (h : H) (kn : Kv7 β) : Option β :=
 bnd (A.bin prog .eql 3 x16 (.int .i64 7)) fun t59 =>
 toBK t59 fun b =>
 kn (.bool b) x16 x7 x6 x0 x5 x4 h
theorem epaoA (x52 x16 x7 x6 x0 x5 x4 : Value) :
  execK prog C L 0 84 [4] caoA [58,16,7,6,0,5,4] [(0,[7,5,4])] (fs [(52,x52),(16,x16),(7,x7),(6,x6),(0,x0),(5,x5),(4,x4)]) h K =
   paoA C L x52 x16 x7 x6 x0 x5 x4 h (fun x58 x16 x7 x6 x0 x5 x4 h => K .normal (fs [(58,x58),(16,x16),(7,x7),(6,x6),(0,x0),(5,x5),(4,x4)]) h) := by
 kernel_rfl
noncomputable def cadU : Code := cR cadF
noncomputable def caxU : Code := cL cadU
noncomputable def paxU (C : CF) (L : Nat) {β : Type} (x58 x16 x7 x6 x0 x5 x4 : Value) (h : H) (kn : Kv3 β) : Option β :=
 bnd (A.bin prog .rem 3 x6 (.int .i64 4)) fun t61 =>
 bnd (A.bin prog .add 3 (.int .i64 4) t61) fun t62 =>
 bnd (A.conv prog 3 5 t62) fun t63 =>
 bnd (A.bin prog .quo 3 x6 (.int .i64 4)) fun t65 =>
 bnd (A.bin prog .rem 3 t65 (.int .i64 4)) fun t66 =>
 bnd (A.bin prog .add 3 (.int .i64 1) t66) fun t67 =>
 bnd (A.conv prog 3 72 t67) fun t68 =>
 bnd (A.build Z77L [(0,1,t63),(4,1,t68)]) fun t69 =>
 bnd (A.store 24 x7 t69 h) fun hq1 =>
 kn x7 x5 x4 hq1
theorem epaxU (x58 x16 x7 x6 x0 x5 x4 : Value) :
  execK prog C L 0 84 [4] caxU [7,5,4] [(0,[7,5,4])] (fs [(58,x58),(16,x16),(7,x7),(6,x6),(0,x0),(5,x5),(4,x4)]) h K =
   paxU C L x58 x16 x7 x6 x0 x5 x4 h (fun x7 x5 x4 h => K .normal (fs [(7,x7),(5,x5),(4,x4)]) h) := by
 kernel_rfl
noncomputable def caeI : Code := cR cadU
noncomputable def capB : Code := cL caeI
noncomputable def papB (C : CF) (L : Nat) {β : Type} (x58 x16 x7 x6 x0 x5 x4 : Value) (h : H) (kn : Kv6 β) : Option β :=
 bnd (A.bin prog .eql 3 x16 (.int .i64 8)) fun t71 =>
 toBK t71 fun b =>
 kn (.bool b) x7 x6 x0 x5 x4 h
theorem epapB (x58 x16 x7 x6 x0 x5 x4 : Value) :
  execK prog C L 0 84 [4] capB [70,7,6,0,5,4] [(0,[7,5,4])] (fs [(58,x58),(16,x16),(7,x7),(6,x6),(0,x0),(5,x5),(4,x4)]) h K =
   papB C L x58 x16 x7 x6 x0 x5 x4 h (fun x70 x7 x6 x0 x5 x4 h => K .normal (fs [(70,x70),(7,x7),(6,x6),(0,x0),(5,x5),(4,x4)]) h) := by
 kernel_rfl
noncomputable def cafA : Code := cR caeI
noncomputable def cauH : Code := cL cafA
noncomputable def pauH (C : CF) (L : Nat) {β : Type} (x70 x7 x6 x0 x5 x4 : Value) (h : H) (kn : Kv3 β) : Option β :=
 bnd (A.build Z77L [(0,1,(.int .u8 12))]) fun t72 =>
 bnd (A.store 24 x7 t72 h) fun hq1 =>
 bnd (A.bin prog .rem 3 x6 (.int .i64 2)) fun t74 =>
 bnd (A.bin prog .eql 3 t74 (.int .i64 1)) fun t75 =>
 toBK t75 fun b =>
 (bif b then
 bnd (A.fieldAddr 0 x7) fun t76 =>
 bnd (A.store 1 t76 (.int .u8 14) hq1) fun hq2 =>
 kn x7 x5 x4 hq2
 else
 kn x7 x5 x4 hq1)
theorem epauH (x70 x7 x6 x0 x5 x4 : Value) :
  execK prog C L 0 84 [4] cauH [7,5,4] [(0,[7,5,4])] (fs [(70,x70),(7,x7),(6,x6),(0,x0),(5,x5),(4,x4)]) h K =
   pauH C L x70 x7 x6 x0 x5 x4 h (fun x7 x5 x4 h => K .normal (fs [(7,x7),(5,x5),(4,x4)]) h) := by
 kernel_rfl
noncomputable def cagC : Code := cR cafA
noncomputable def cauE : Code := cL cagC
noncomputable def pauE (C : CF) (L : Nat) {β : Type} (x70 x7 x6 x0 x5 x4 : Value) (h : H) (kn : Kv4 β) : Option β :=
 bnd (A.bin prog .rem 3 x6 (.int .i64 16)) fun t18 =>
 bnd2 (A.makeSlice 1 1 Z5L t18 t18 h) fun t19 hq1 =>
 kn x0 t19 x5 x4 hq1
theorem epauE (x70 x7 x6 x0 x5 x4 : Value) :
  execK prog C L 0 84 [4] cauE [0,8,5,4] [(0,[7,5,4])] (fs [(70,x70),(7,x7),(6,x6),(0,x0),(5,x5),(4,x4)]) h K =
   pauE C L x70 x7 x6 x0 x5 x4 h (fun x0 x8 x5 x4 h => K .normal (fs [(0,x0),(8,x8),(5,x5),(4,x4)]) h) := by
 kernel_rfl
noncomputable def cahH : Code := cR cagC
noncomputable def caiH : Code := cL cahH
noncomputable def cauF : Code := cL caiH
noncomputable def pauF (C : CF) (L : Nat) {β : Type} (x0 x8 x5 x4 : Value) (h : H) (kn : Kv6 β) : Option β :=
 bnd (A.lenS x8) fun t21 =>
 kn t21 (.int .i64 0) x0 x8 x5 x4 h
theorem epauF (x0 x8 x5 x4 : Value) :
  execK prog C L 0 84 [4] cauF [21,22,0,8,5,4] [(0,[7,5,4])] (fs [(0,x0),(8,x8),(5,x5),(4,x4)]) h K =
   pauF C L x0 x8 x5 x4 h (fun x21 x22 x0 x8 x5 x4 h => K .normal (fs [(21,x21),(22,x22),(0,x0),(8,x8),(5,x5),(4,x4)]) h) := by
 kernel_rfl
noncomputable def cajY : Code := cR caiH
noncomputable def calL : Code := cL cajY
noncomputable def capC : Code := cL calL
noncomputable def papC (C : CF) (L : Nat) {β : Type} (x21 x22 x0 x8 x5 x4 : Value) (h : H) (kn : Kv6 β) (kx1 : Kv3 β) : Option β :=
 bnd (A.bin prog .lss 3 x22 x21) fun t23 =>
 condV t23 (
 bnd2 (C 10 [x0] h) fun t28 hq1 =>
 bnd (A.conv prog 3 5 t28) fun t29 =>
 bnd (A.idxS 1 x8 x22) fun t30 =>
 bnd (A.store 1 t30 t29 hq1) fun hq2 =>
 bnd (A.bin prog .add 3 x22 (.int .i64 1)) fun t31 =>
 kn x21 t31 x0 x8 x5 x4 hq2) (
 kx1 x8 x5 x4 h)
theorem epapC (x21 x22 x0 x8 x5 x4 : Value) :
  execK prog C L 0 84 [4] capC [21,22,0,8,5,4] [(1,[8,5,4]),(0,[7,5,4])] (fs [(21,x21),(22,x22),(0,x0),(8,x8),(5,x5),(4,x4)]) h K =
   papC C L x21 x22 x0 x8 x5 x4 h (fun x21 x22 x0 x8 x5 x4 h => K .normal (fs [(21,x21),(22,x22),(0,x0),(8,x8),(5,x5),(4,x4)]) h) (fun x8 x5 x4 h => K (.exit 1) (fs [(8,x8),(5,x5),(4,x4)]) h) := by
 kernel_rfl
noncomputable def pauG (C : CF) (L : Nat) {β : Type} (kx1 : Kv3 β) : Nat → Kv6 β
 | 0,_,_,_,_,_,_,_ => none
 | n + 1,x21,x22,x0,x8,x5,x4,h => papC C L x21 x22 x0 x8 x5 x4 h (fun x21 x22 x0 x8 x5 x4 h => pauG C L kx1 n x21 x22 x0 x8 x5 x4 h) kx1
theorem epauG (C : CF) (L : Nat) {β : Type} (K : Ex → T Value → Kv0 β) : ∀ (n : Nat) (x21 x22 x0 x8 x5 x4 : Value) (h : H),
  loopK (fun fr h K => execK prog C L 0 84 [4] capC [21,22,0,8,5,4] [(1,[8,5,4]),(0,[7,5,4])] fr h K) n (fs [(21,x21),(22,x22),(0,x0),(8,x8),(5,x5),(4,x4)]) h K =
   pauG C L (fun x8 x5 x4 h => K (.exit 1) (fs [(8,x8),(5,x5),(4,x4)]) h) n x21 x22 x0 x8 x5 x4 h := by
 intro n
 induction n with
 | zero => intros; rfl
 | succ n ih =>
  intros
  simp only [loopK]
  rw [epapC]
  simp only [seqK_n,seqK_x,seqK_r,ih]
  rfl
noncomputable def palL (C : CF) (L : Nat) {β : Type} (x21 x22 x0 x8 x5 x4 : Value) (h : H) (kx1 : Kv3 β) : Option β :=
 pauG C L kx1 L x21 x22 x0 x8 x5 x4 h
theorem epalL (x21 x22 x0 x8 x5 x4 : Value) :
  execK prog C L 0 84 [4] calL [8,5,4] [(1,[8,5,4]),(0,[7,5,4])] (fs [(21,x21),(22,x22),(0,x0),(8,x8),(5,x5),(4,x4)]) h K =
   palL C L x21 x22 x0 x8 x5 x4 h (fun x8 x5 x4 h => K (.exit 1) (fs [(8,x8),(5,x5),(4,x4)]) h) := by
 rw [execK_loop (b := capC) (fr1 := (fs [(21,x21),(22,x22),(0,x0),(8,x8),(5,x5),(4,x4)])) (by kernel_rfl) (show live [4] capC [] [(1,[8,5,4]),(0,[7,5,4])] = [21,22,0,8,5,4] by kernel_rfl) (by kernel_rfl),epauG]
 unfold palL
 rfl
noncomputable def pajY (C : CF) (L : Nat) {β : Type} (x21 x22 x0 x8 x5 x4 : Value) (h : H) (kn : Kv3 β) : Option β :=
 palL C L x21 x22 x0 x8 x5 x4 h kn
theorem epajY (x21 x22 x0 x8 x5 x4 : Value) :
  execK prog C L 0 84 [4] cajY [8,5,4] [(0,[7,5,4])] (fs [(21,x21),(22,x22),(0,x0),(8,x8),(5,x5),(4,x4)]) h K =
   pajY C L x21 x22 x0 x8 x5 x4 h (fun x8 x5 x4 h => K .normal (fs [(8,x8),(5,x5),(4,x4)]) h) := by
 rw [execK_block (b := calL) (id := 1) (by kernel_rfl),epalL]
 unfold pajY
 rfl
noncomputable def paiH (C : CF) (L : Nat) {β : Type} (x0 x8 x5 x4 : Value) (h : H) (kn : Kv3 β) : Option β :=
 pauF C L x0 x8 x5 x4 h (fun x21 x22 x0 x8 x5 x4 h => pajY C L x21 x22 x0 x8 x5 x4 h kn)
theorem epaiH (x0 x8 x5 x4 : Value) :
  execK prog C L 0 84 [4] caiH [8,5,4] [(0,[7,5,4])] (fs [(0,x0),(8,x8),(5,x5),(4,x4)]) h K =
   paiH C L x0 x8 x5 x4 h (fun x8 x5 x4 h => K .normal (fs [(8,x8),(5,x5),(4,x4)]) h) := by
 rw [execK_seq (a := cauF) (b := cajY) (by kernel_rfl) (show live [4] cajY [8,5,4] [(0,[7,5,4])] = [21,22,0,8,5,4] by kernel_rfl),epauF]
 unfold paiH
 exact (congrArg (pauF C L x0 x8 x5 x4 h) (funext fun x21=>funext fun x22=>funext fun x0=>funext fun x8=>funext fun x5=>funext fun x4=>funext fun h => (seqK_n _ _ _).trans (epajY C L h K x21 x22 x0 x8 x5 x4)))
noncomputable def capD : Code := cR cahH
noncomputable def papD (C : CF) (L : Nat) {β : Type} (x8 x5 x4 : Value) (h : H) (kr : Kv1 β) : Option β :=
 bnd (A.b2s x8 h) fun t33 =>
 bnd (A.fieldAddr 6 x5) fun t34 =>
 bnd (A.store 1 t34 t33 h) fun hq1 =>
 bnd (A.load true 7 x5 hq1) fun t35 =>
 bnd (A.store 7 x4 t35 hq1) fun hq2 =>
 kr x4 hq2
theorem epapD (x8 x5 x4 : Value) :
  execK prog C L 0 84 [4] capD [7,5,4] [(0,[7,5,4])] (fs [(8,x8),(5,x5),(4,x4)]) h K =
   papD C L x8 x5 x4 h (fun x4 h => K .ret (fs [(4,x4)]) h) := by
 kernel_rfl
noncomputable def pagC (C : CF) (L : Nat) {β : Type} (x70 x7 x6 x0 x5 x4 : Value) (h : H) (kr : Kv1 β) : Option β :=
 pauE C L x70 x7 x6 x0 x5 x4 h (fun x0 x8 x5 x4 h => paiH C L x0 x8 x5 x4 h (fun x8 x5 x4 h => papD C L x8 x5 x4 h kr))
theorem epagC (x70 x7 x6 x0 x5 x4 : Value) :
  execK prog C L 0 84 [4] cagC [7,5,4] [(0,[7,5,4])] (fs [(70,x70),(7,x7),(6,x6),(0,x0),(5,x5),(4,x4)]) h K =
   pagC C L x70 x7 x6 x0 x5 x4 h (fun x4 h => K .ret (fs [(4,x4)]) h) := by
 rw [execK_seq (a := cauE) (b := cahH) (by kernel_rfl) (show live [4] cahH [7,5,4] [(0,[7,5,4])] = [0,8,5,4] by kernel_rfl),epauE]
 unfold pagC
 exact (congrArg (pauE C L x70 x7 x6 x0 x5 x4 h) (funext fun x0=>funext fun x8=>funext fun x5=>funext fun x4=>funext fun h => (seqK_n _ _ _).trans (by rw [execK_seq (a := caiH) (b := capD) (by kernel_rfl) (show live [4] capD [7,5,4] [(0,[7,5,4])] = [8,5,4] by kernel_rfl),epaiH]; exact (congrArg (paiH C L x0 x8 x5 x4 h) (funext fun x8=>funext fun x5=>funext fun x4=>funext fun h => (seqK_n _ _ _).trans (epapD C L h K x8 x5 x4))))))
noncomputable def pafA (C : CF) (L : Nat) {β : Type} (x70 x7 x6 x0 x5 x4 : Value) (h : H) (kn : Kv3 β) (kr : Kv1 β) : Option β :=
 condV x70 (pauH C L x70 x7 x6 x0 x5 x4 h kn) (pagC C L x70 x7 x6 x0 x5 x4 h kr)
theorem epafA (x70 x7 x6 x0 x5 x4 : Value) :
  execK prog C L 0 84 [4] cafA [7,5,4] [(0,[7,5,4])] (fs [(70,x70),(7,x7),(6,x6),(0,x0),(5,x5),(4,x4)]) h K =
   pafA C L x70 x7 x6 x0 x5 x4 h (fun x7 x5 x4 h => K .normal (fs [(7,x7),(5,x5),(4,x4)]) h) (fun x4 h => K .ret (fs [(4,x4)]) h) := by
 rw [execK_cond (a := cauH) (b := cagC) (x := (.tmp 70)) (v := x70) (by kernel_rfl) (by kernel_rfl),epauH,epagC]
 unfold pafA
 rfl
noncomputable def paeI (C : CF) (L : Nat) {β : Type} (x58 x16 x7 x6 x0 x5 x4 : Value) (h : H) (kn : Kv3 β) (kr : Kv1 β) : Option β :=
 papB C L x58 x16 x7 x6 x0 x5 x4 h (fun x70 x7 x6 x0 x5 x4 h => pafA C L x70 x7 x6 x0 x5 x4 h kn kr)
theorem epaeI (x58 x16 x7 x6 x0 x5 x4 : Value) :
  execK prog C L 0 84 [4] caeI [7,5,4] [(0,[7,5,4])] (fs [(58,x58),(16,x16),(7,x7),(6,x6),(0,x0),(5,x5),(4,x4)]) h K =
   paeI C L x58 x16 x7 x6 x0 x5 x4 h (fun x7 x5 x4 h => K .normal (fs [(7,x7),(5,x5),(4,x4)]) h) (fun x4 h => K .ret (fs [(4,x4)]) h) := by
 rw [execK_seq (a := capB) (b := cafA) (by kernel_rfl) (show live [4] cafA [7,5,4] [(0,[7,5,4])] = [70,7,6,0,5,4] by kernel_rfl),epapB]
 unfold paeI
 exact (congrArg (papB C L x58 x16 x7 x6 x0 x5 x4 h) (funext fun x70=>funext fun x7=>funext fun x6=>funext fun x0=>funext fun x5=>funext fun x4=>funext fun h => (seqK_n _ _ _).trans (epafA C L h K x70 x7 x6 x0 x5 x4)))
noncomputable def padU (C : CF) (L : Nat) {β : Type} (x58 x16 x7 x6 x0 x5 x4 : Value) (h : H) (kn : Kv3 β) (kr : Kv1 β) : Option β :=
 condV x58 (paxU C L x58 x16 x7 x6 x0 x5 x4 h kn) (paeI C L x58 x16 x7 x6 x0 x5 x4 h kn kr)
theorem epadU (x58 x16 x7 x6 x0 x5 x4 : Value) :
  execK prog C L 0 84 [4] cadU [7,5,4] [(0,[7,5,4])] (fs [(58,x58),(16,x16),(7,x7),(6,x6),(0,x0),(5,x5),(4,x4)]) h K =
   padU C L x58 x16 x7 x6 x0 x5 x4 h (fun x7 x5 x4 h => K .normal (fs [(7,x7),(5,x5),(4,x4)]) h) (fun x4 h => K .ret (fs [(4,x4)]) h) := by
 rw [execK_cond (a := caxU) (b := caeI) (x := (.tmp 58)) (v := x58) (by kernel_rfl) (by kernel_rfl),epaxU,epaeI]
 unfold padU
 rfl
noncomputable def padF (C : CF) (L : Nat) {β : Type} (x52 x16 x7 x6 x0 x5 x4 : Value) (h : H) (kn : Kv3 β) (kr : Kv1 β) : Option β :=
 paoA C L x52 x16 x7 x6 x0 x5 x4 h (fun x58 x16 x7 x6 x0 x5 x4 h => padU C L x58 x16 x7 x6 x0 x5 x4 h kn kr)
theorem epadF (x52 x16 x7 x6 x0 x5 x4 : Value) :
  execK prog C L 0 84 [4] cadF [7,5,4] [(0,[7,5,4])] (fs [(52,x52),(16,x16),(7,x7),(6,x6),(0,x0),(5,x5),(4,x4)]) h K =
   padF C L x52 x16 x7 x6 x0 x5 x4 h (fun x7 x5 x4 h => K .normal (fs [(7,x7),(5,x5),(4,x4)]) h) (fun x4 h => K .ret (fs [(4,x4)]) h) := by
 rw [execK_seq (a := caoA) (b := cadU) (by kernel_rfl) (show live [4] cadU [7,5,4] [(0,[7,5,4])] = [58,16,7,6,0,5,4] by kernel_rfl),epaoA]
 unfold padF
 exact (congrArg (paoA C L x52 x16 x7 x6 x0 x5 x4 h) (funext fun x58=>funext fun x16=>funext fun x7=>funext fun x6=>funext fun x0=>funext fun x5=>funext fun x4=>funext fun h => (seqK_n _ _ _).trans (epadU C L h K x58 x16 x7 x6 x0 x5 x4)))
noncomputable def pacU (C : CF) (L : Nat) {β : Type} (x52 x16 x7 x6 x0 x5 x4 : Value) (h : H) (kn : Kv3 β) (kr : Kv1 β) : Option β :=
 condV x52 (pauI C L x52 x16 x7 x6 x0 x5 x4 h kn) (padF C L x52 x16 x7 x6 x0 x5 x4 h kn kr)
theorem epacU (x52 x16 x7 x6 x0 x5 x4 : Value) :
  execK prog C L 0 84 [4] cacU [7,5,4] [(0,[7,5,4])] (fs [(52,x52),(16,x16),(7,x7),(6,x6),(0,x0),(5,x5),(4,x4)]) h K =
   pacU C L x52 x16 x7 x6 x0 x5 x4 h (fun x7 x5 x4 h => K .normal (fs [(7,x7),(5,x5),(4,x4)]) h) (fun x4 h => K .ret (fs [(4,x4)]) h) := by
 rw [execK_cond (a := cauI) (b := cadF) (x := (.tmp 52)) (v := x52) (by kernel_rfl) (by kernel_rfl),epauI,epadF]
 unfold pacU
 rfl
noncomputable def pacL (C : CF) (L : Nat) {β : Type} (x47 x16 x7 x6 x0 x5 x4 : Value) (h : H) (kn : Kv3 β) (kr : Kv1 β) : Option β :=
 panL C L x47 x16 x7 x6 x0 x5 x4 h (fun x52 x16 x7 x6 x0 x5 x4 h => pacU C L x52 x16 x7 x6 x0 x5 x4 h kn kr)
theorem epacL (x47 x16 x7 x6 x0 x5 x4 : Value) :
  execK prog C L 0 84 [4] cacL [7,5,4] [(0,[7,5,4])] (fs [(47,x47),(16,x16),(7,x7),(6,x6),(0,x0),(5,x5),(4,x4)]) h K =
   pacL C L x47 x16 x7 x6 x0 x5 x4 h (fun x7 x5 x4 h => K .normal (fs [(7,x7),(5,x5),(4,x4)]) h) (fun x4 h => K .ret (fs [(4,x4)]) h) := by
 rw [execK_seq (a := canL) (b := cacU) (by kernel_rfl) (show live [4] cacU [7,5,4] [(0,[7,5,4])] = [52,16,7,6,0,5,4] by kernel_rfl),epanL]
 unfold pacL
 exact (congrArg (panL C L x47 x16 x7 x6 x0 x5 x4 h) (funext fun x52=>funext fun x16=>funext fun x7=>funext fun x6=>funext fun x0=>funext fun x5=>funext fun x4=>funext fun h => (seqK_n _ _ _).trans (epacU C L h K x52 x16 x7 x6 x0 x5 x4)))
noncomputable def pacA (C : CF) (L : Nat) {β : Type} (x47 x16 x7 x6 x0 x5 x4 : Value) (h : H) (kn : Kv3 β) (kr : Kv1 β) : Option β :=
 condV x47 (paxV C L x47 x16 x7 x6 x0 x5 x4 h kn) (pacL C L x47 x16 x7 x6 x0 x5 x4 h kn kr)
theorem epacA (x47 x16 x7 x6 x0 x5 x4 : Value) :
  execK prog C L 0 84 [4] cacA [7,5,4] [(0,[7,5,4])] (fs [(47,x47),(16,x16),(7,x7),(6,x6),(0,x0),(5,x5),(4,x4)]) h K =
   pacA C L x47 x16 x7 x6 x0 x5 x4 h (fun x7 x5 x4 h => K .normal (fs [(7,x7),(5,x5),(4,x4)]) h) (fun x4 h => K .ret (fs [(4,x4)]) h) := by
 rw [execK_cond (a := caxV) (b := cacL) (x := (.tmp 47)) (v := x47) (by kernel_rfl) (by kernel_rfl),epaxV,epacL]
 unfold pacA
 rfl
noncomputable def pabS (C : CF) (L : Nat) {β : Type} (x42 x16 x7 x6 x0 x5 x4 : Value) (h : H) (kn : Kv3 β) (kr : Kv1 β) : Option β :=
 panF C L x42 x16 x7 x6 x0 x5 x4 h (fun x47 x16 x7 x6 x0 x5 x4 h => pacA C L x47 x16 x7 x6 x0 x5 x4 h kn kr)
theorem epabS (x42 x16 x7 x6 x0 x5 x4 : Value) :
  execK prog C L 0 84 [4] cabS [7,5,4] [(0,[7,5,4])] (fs [(42,x42),(16,x16),(7,x7),(6,x6),(0,x0),(5,x5),(4,x4)]) h K =
   pabS C L x42 x16 x7 x6 x0 x5 x4 h (fun x7 x5 x4 h => K .normal (fs [(7,x7),(5,x5),(4,x4)]) h) (fun x4 h => K .ret (fs [(4,x4)]) h) := by
 rw [execK_seq (a := canF) (b := cacA) (by kernel_rfl) (show live [4] cacA [7,5,4] [(0,[7,5,4])] = [47,16,7,6,0,5,4] by kernel_rfl),epanF]
 unfold pabS
 exact (congrArg (panF C L x42 x16 x7 x6 x0 x5 x4 h) (funext fun x47=>funext fun x16=>funext fun x7=>funext fun x6=>funext fun x0=>funext fun x5=>funext fun x4=>funext fun h => (seqK_n _ _ _).trans (epacA C L h K x47 x16 x7 x6 x0 x5 x4)))
noncomputable def pabN (C : CF) (L : Nat) {β : Type} (x42 x16 x7 x6 x0 x5 x4 : Value) (h : H) (kn : Kv3 β) (kr : Kv1 β) : Option β :=
 condV x42 (paxW C L x42 x16 x7 x6 x0 x5 x4 h kn) (pabS C L x42 x16 x7 x6 x0 x5 x4 h kn kr)
theorem epabN (x42 x16 x7 x6 x0 x5 x4 : Value) :
  execK prog C L 0 84 [4] cabN [7,5,4] [(0,[7,5,4])] (fs [(42,x42),(16,x16),(7,x7),(6,x6),(0,x0),(5,x5),(4,x4)]) h K =
   pabN C L x42 x16 x7 x6 x0 x5 x4 h (fun x7 x5 x4 h => K .normal (fs [(7,x7),(5,x5),(4,x4)]) h) (fun x4 h => K .ret (fs [(4,x4)]) h) := by
 rw [execK_cond (a := caxW) (b := cabS) (x := (.tmp 42)) (v := x42) (by kernel_rfl) (by kernel_rfl),epaxW,epabS]
 unfold pabN
 rfl
noncomputable def pabI (C : CF) (L : Nat) {β : Type} (x36 x16 x7 x6 x0 x5 x4 : Value) (h : H) (kn : Kv3 β) (kr : Kv1 β) : Option β :=
 pamZ C L x36 x16 x7 x6 x0 x5 x4 h (fun x42 x16 x7 x6 x0 x5 x4 h => pabN C L x42 x16 x7 x6 x0 x5 x4 h kn kr)
theorem epabI (x36 x16 x7 x6 x0 x5 x4 : Value) :
  execK prog C L 0 84 [4] cabI [7,5,4] [(0,[7,5,4])] (fs [(36,x36),(16,x16),(7,x7),(6,x6),(0,x0),(5,x5),(4,x4)]) h K =
   pabI C L x36 x16 x7 x6 x0 x5 x4 h (fun x7 x5 x4 h => K .normal (fs [(7,x7),(5,x5),(4,x4)]) h) (fun x4 h => K .ret (fs [(4,x4)]) h) := by
 rw [execK_seq (a := camZ) (b := cabN) (by kernel_rfl) (show live [4] cabN [7,5,4] [(0,[7,5,4])] = [42,16,7,6,0,5,4] by kernel_rfl),epamZ]
 unfold pabI
 exact (congrArg (pamZ C L x36 x16 x7 x6 x0 x5 x4 h) (funext fun x42=>funext fun x16=>funext fun x7=>funext fun x6=>funext fun x0=>funext fun x5=>funext fun x4=>funext fun h => (seqK_n _ _ _).trans (epabN C L h K x42 x16 x7 x6 x0 x5 x4)))
noncomputable def pabF (C : CF) (L : Nat) {β : Type} (x36 x16 x7 x6 x0 x5 x4 : Value) (h : H) (kn : Kv3 β) (kr : Kv1 β) : Option β :=
 condV x36 (pauJ C L x36 x16 x7 x6 x0 x5 x4 h kn) (pabI C L x36 x16 x7 x6 x0 x5 x4 h kn kr)
theorem epabF (x36 x16 x7 x6 x0 x5 x4 : Value) :
  execK prog C L 0 84 [4] cabF [7,5,4] [(0,[7,5,4])] (fs [(36,x36),(16,x16),(7,x7),(6,x6),(0,x0),(5,x5),(4,x4)]) h K =
   pabF C L x36 x16 x7 x6 x0 x5 x4 h (fun x7 x5 x4 h => K .normal (fs [(7,x7),(5,x5),(4,x4)]) h) (fun x4 h => K .ret (fs [(4,x4)]) h) := by
 rw [execK_cond (a := cauJ) (b := cabI) (x := (.tmp 36)) (v := x36) (by kernel_rfl) (by kernel_rfl),epauJ,epabI]
 unfold pabF
 rfl
noncomputable def paaX (C : CF) (L : Nat) {β : Type} (x16 x7 x6 x0 x5 x4 : Value) (h : H) (kn : Kv3 β) (kr : Kv1 β) : Option β :=
 pamT C L x16 x7 x6 x0 x5 x4 h (fun x36 x16 x7 x6 x0 x5 x4 h => pabF C L x36 x16 x7 x6 x0 x5 x4 h kn kr)
theorem epaaX (x16 x7 x6 x0 x5 x4 : Value) :
  execK prog C L 0 84 [4] caaX [7,5,4] [(0,[7,5,4])] (fs [(16,x16),(7,x7),(6,x6),(0,x0),(5,x5),(4,x4)]) h K =
   paaX C L x16 x7 x6 x0 x5 x4 h (fun x7 x5 x4 h => K .normal (fs [(7,x7),(5,x5),(4,x4)]) h) (fun x4 h => K .ret (fs [(4,x4)]) h) := by
 rw [execK_seq (a := camT) (b := cabF) (by kernel_rfl) (show live [4] cabF [7,5,4] [(0,[7,5,4])] = [36,16,7,6,0,5,4] by kernel_rfl),epamT]
 unfold paaX
 exact (congrArg (pamT C L x16 x7 x6 x0 x5 x4 h) (funext fun x36=>funext fun x16=>funext fun x7=>funext fun x6=>funext fun x0=>funext fun x5=>funext fun x4=>funext fun h => (seqK_n _ _ _).trans (epabF C L h K x36 x16 x7 x6 x0 x5 x4)))
noncomputable def paaT (C : CF) (L : Nat) {β : Type} (x16 x7 x6 x0 x5 x4 : Value) (h : H) (kn : Kv3 β) (kr : Kv1 β) : Option β :=
 paaX C L x16 x7 x6 x0 x5 x4 h kn kr
theorem epaaT (x16 x7 x6 x0 x5 x4 : Value) :
  execK prog C L 0 84 [4] caaT [7,5,4] [] (fs [(16,x16),(7,x7),(6,x6),(0,x0),(5,x5),(4,x4)]) h K =
   paaT C L x16 x7 x6 x0 x5 x4 h (fun x7 x5 x4 h => K .normal (fs [(7,x7),(5,x5),(4,x4)]) h) (fun x4 h => K .ret (fs [(4,x4)]) h) := by
 rw [execK_block (b := caaX) (id := 0) (by kernel_rfl),epaaX]
 unfold paaT
 rfl
noncomputable def paaP (C : CF) (L : Nat) {β : Type} (x1 x7 x6 x0 x5 x4 : Value) (h : H) (kn : Kv3 β) (kr : Kv1 β) : Option β :=
 pamS C L x1 x7 x6 x0 x5 x4 h (fun x16 x7 x6 x0 x5 x4 h => paaT C L x16 x7 x6 x0 x5 x4 h kn kr)
theorem epaaP (x1 x7 x6 x0 x5 x4 : Value) :
  execK prog C L 0 84 [4] caaP [7,5,4] [] (fs [(1,x1),(7,x7),(6,x6),(0,x0),(5,x5),(4,x4)]) h K =
   paaP C L x1 x7 x6 x0 x5 x4 h (fun x7 x5 x4 h => K .normal (fs [(7,x7),(5,x5),(4,x4)]) h) (fun x4 h => K .ret (fs [(4,x4)]) h) := by
 rw [execK_seq (a := camS) (b := caaT) (by kernel_rfl) (show live [4] caaT [7,5,4] [] = [16,7,6,0,5,4] by kernel_rfl),epamS]
 unfold paaP
 exact (congrArg (pamS C L x1 x7 x6 x0 x5 x4 h) (funext fun x16=>funext fun x7=>funext fun x6=>funext fun x0=>funext fun x5=>funext fun x4=>funext fun h => (seqK_n _ _ _).trans (epaaT C L h K x16 x7 x6 x0 x5 x4)))
noncomputable def cauK : Code := cR caaN
noncomputable def pauK (C : CF) (L : Nat) {β : Type} (x7 x5 x4 : Value) (h : H) (kr : Kv1 β) : Option β :=
 bnd (A.load true 24 x7 h) fun t78 =>
 bnd2 (C 38 [t78] h) fun t79 hq1 =>
 bnd (A.extract 0 t79) fun t80 =>
 bnd (A.extract 1 t79) fun t81 =>
 bnd (A.fieldAddr 6 x5) fun t82 =>
 bnd (A.store 1 t82 t80 hq1) fun hq2 =>
 bnd (A.load true 7 x5 hq2) fun t83 =>
 bnd (A.store 7 x4 t83 hq2) fun hq3 =>
 kr x4 hq3
theorem epauK (x7 x5 x4 : Value) :
  execK prog C L 0 84 [4] cauK [4] [] (fs [(7,x7),(5,x5),(4,x4)]) h K =
   pauK C L x7 x5 x4 h (fun x4 h => K .ret (fs [(4,x4)]) h) := by
 kernel_rfl
noncomputable def p18a (C : CF) (L : Nat) {β : Type} (x0 x1 : Value) (h : H) (kr : Kv1 β) : Option β :=
 paqZ C L x0 x1 h (fun x1 x0 x4 h => parA C L x1 x0 x4 h (fun x1 x0 x5 x4 h => parB C L x1 x0 x5 x4 h (fun x1 x6 x0 x5 x4 h => parC C L x1 x6 x0 x5 x4 h (fun x1 x7 x6 x0 x5 x4 h => paaP C L x1 x7 x6 x0 x5 x4 h (fun x7 x5 x4 h => pauK C L x7 x5 x4 h kr) kr))))
theorem ep18a (x0 x1 : Value) :
  execK prog C L 0 84 [4] c18a [4] [] (fs [(0,x0),(1,x1)]) h K =
   p18a C L x0 x1 h (fun x4 h => K .ret (fs [(4,x4)]) h) := by
 rw [execK_seq (a := caqZ) (b := caaJ) (by kernel_rfl) (show live [4] caaJ [4] [] = [1,0,4] by kernel_rfl),epaqZ]
 unfold p18a
 exact (congrArg (paqZ C L x0 x1 h) (funext fun x1=>funext fun x0=>funext fun x4=>funext fun h => (seqK_n _ _ _).trans (by rw [execK_seq (a := carA) (b := caaK) (by kernel_rfl) (show live [4] caaK [4] [] = [1,0,5,4] by kernel_rfl),eparA]; exact (congrArg (parA C L x1 x0 x4 h) (funext fun x1=>funext fun x0=>funext fun x5=>funext fun x4=>funext fun h => (seqK_n _ _ _).trans (by rw [execK_seq (a := carB) (b := caaL) (by kernel_rfl) (show live [4] caaL [4] [] = [1,6,0,5,4] by kernel_rfl),eparB]; exact (congrArg (parB C L x1 x0 x5 x4 h) (funext fun x1=>funext fun x6=>funext fun x0=>funext fun x5=>funext fun x4=>funext fun h => (seqK_n _ _ _).trans (by rw [execK_seq (a := carC) (b := caaN) (by kernel_rfl) (show live [4] caaN [4] [] = [1,7,6,0,5,4] by kernel_rfl),eparC]; exact (congrArg (parC C L x1 x6 x0 x5 x4 h) (funext fun x1=>funext fun x7=>funext fun x6=>funext fun x0=>funext fun x5=>funext fun x4=>funext fun h => (seqK_n _ _ _).trans (by rw [execK_seq (a := caaP) (b := cauK) (by kernel_rfl) (show live [4] cauK [4] [] = [7,5,4] by kernel_rfl),epaaP]; exact (congr (congrArg (paaP C L x1 x7 x6 x0 x5 x4 h) (funext fun x7=>funext fun x5=>funext fun x4=>funext fun h => (seqK_n _ _ _).trans (epauK C L h K x7 x5 x4))) (funext fun x4=>funext fun h => seqK_r _ _ _))))))))))))))
noncomputable def F18 (C : CF) (L : Nat) (x0 x1 : Value) (h : H) : Option (Value × H) :=
 p18a C L x0 x1 h
  (fun x4 h => bnd (resC (A.load true 7 x4 h) (some [])) fun vs => some (packA vs,h))
theorem F18eq (Q : Orc) (n : Nat) (x0 x1 : Value) (h : H) (hQ : Q 18 [x0,x1] = none) : callO prog 0 Q (n + 1) 18 [x0,x1] h = F18 (callO prog 0 Q n) n x0 x1 h := by
 rw [callO_eq hQ (c := c18a) (nt := 84) (RR := [4]) (fr := (fs [(0,x0),(1,x1)])) Tryz.func18 (by kernel_rfl) (by kernel_rfl) (by kernel_rfl) (by kernel_rfl) (by kernel_rfl),ep18a]
 kernel_rfl
noncomputable def c35a : Code := (Tryz.f35.body).getD .skip
noncomputable def p35a (C : CF) (L : Nat) {β : Type} (x0 x1 : Value) (h : H) (kr : Kv1 β) : Option β :=
 bnd2 (A.box 24 Z77 h) fun t4 hq1 =>
 bnd (A.bin prog .quo 3 x1 (.int .i64 16)) fun t7 =>
 bnd (A.bin prog .rem 3 t7 (.int .i64 2)) fun t8 =>
 bnd (A.bin prog .eql 3 t8 (.int .i64 1)) fun t9 =>
 toBK t9 fun b =>
 bnd2 (A.buildSlice 1 4 Z9L [(0,1,(.string ⟨⟨[120]⟩⟩)),(1,1,(.string ⟨⟨[121]⟩⟩)),(2,1,(.string ⟨⟨[122]⟩⟩)),(3,1,(.string ⟨⟨[]⟩⟩))] hq1) fun t10 hq2 =>
 bnd (A.bin prog .rem 3 x1 (.int .i64 4)) fun t12 =>
 bnd (A.idxS 1 t10 t12) fun t13 =>
 bnd (A.load false 1 t13 hq2) fun t14 =>
 bnd (A.build Z77L [(0,1,(.int .u8 1)),(7,1,(.int .u8 4)),(8,1,(.bool b)),(10,1,t14)]) fun t15 =>
 bnd2 (A.box 24 Z77 hq2) fun t5 hq3 =>
 bnd (A.store 24 t5 t15 hq3) fun hq4 =>
 bnd (A.bin prog .quo 3 x1 (.int .i64 32)) fun t17 =>
 bnd (A.bin prog .rem 3 t17 (.int .i64 2)) fun t18 =>
 bnd (A.bin prog .eql 3 t18 (.int .i64 1)) fun t19 =>
 toBK t19 fun bq1 =>
 (bif bq1 then
 bnd (A.fieldAddr 11 t5) fun t20 =>
 bnd (A.store 1 t20 (.bool true) hq4) fun hq5 =>
 bnd (A.bin prog .quo 3 x1 (.int .i64 64)) fun t22 =>
 bnd (A.bin prog .rem 3 t22 (.int .i64 3)) fun t23 =>
 bnd (A.conv prog 3 5 t23) fun t24 =>
 bnd (A.build Z74L [(0,1,(.string ⟨⟨[97,47,119]⟩⟩)),(1,1,(.string ⟨⟨[119]⟩⟩)),(2,1,t24)]) fun t25 =>
 bnd (A.fieldAddr 12 t5) fun t26 =>
 bnd (A.store 4 t26 t25 hq5) fun hq6 =>
 bnd2 (C 10 [x0] hq6) fun t28 hq7 =>
 bnd (A.bin prog .rem 3 t28 (.int .i64 4)) fun t29 =>
 bnd (A.conv prog 3 72 t29) fun t30 =>
 bnd (A.fieldAddr 9 t5) fun t31 =>
 bnd (A.store 1 t31 t30 hq7) fun hq8 =>
 bnd (A.load true 24 t5 hq8) fun t32 =>
 bnd (A.store 24 t4 t32 hq8) fun hq9 =>
 kr t4 hq9
 else
 bnd2 (C 10 [x0] hq4) fun t28q1 hq10 =>
 bnd (A.bin prog .rem 3 t28q1 (.int .i64 4)) fun t29q1 =>
 bnd (A.conv prog 3 72 t29q1) fun t30q1 =>
 bnd (A.fieldAddr 9 t5) fun t31q1 =>
 bnd (A.store 1 t31q1 t30q1 hq10) fun hq11 =>
 bnd (A.load true 24 t5 hq11) fun t32q1 =>
 bnd (A.store 24 t4 t32q1 hq11) fun hq12 =>
 kr t4 hq12)
theorem ep35a (x0 x1 : Value) :
  execK prog C L 0 33 [4] c35a [4] [] (fs [(0,x0),(1,x1)]) h K =
   p35a C L x0 x1 h (fun x4 h => K .ret (fs [(4,x4)]) h) := by
 kernel_rfl
noncomputable def F35 (C : CF) (L : Nat) (x0 x1 : Value) (h : H) : Option (Value × H) :=
 p35a C L x0 x1 h
  (fun x4 h => bnd (resC (A.load true 24 x4 h) (some [])) fun vs => some (packA vs,h))
theorem F35eq (Q : Orc) (n : Nat) (x0 x1 : Value) (h : H) (hQ : Q 35 [x0,x1] = none) : callO prog 0 Q (n + 1) 35 [x0,x1] h = F35 (callO prog 0 Q n) n x0 x1 h := by
 rw [callO_eq hQ (c := c35a) (nt := 33) (RR := [4]) (fr := (fs [(0,x0),(1,x1)])) Tryz.func35 (by kernel_rfl) (by kernel_rfl) (by kernel_rfl) (by kernel_rfl) (by kernel_rfl),ep35a]
 kernel_rfl
noncomputable def c36a : Code := (Tryz.f36.body).getD .skip
noncomputable def cauX : Code := cL c36a
noncomputable def pauX (C : CF) (L : Nat) {β : Type} (x0 x1 x2 : Value) (h : H) (kn : Kv4 β) : Option β :=
 bnd2 (A.box 24 Z77 h) fun t6 hq1 =>
 kn x2 x1 x0 t6 hq1
theorem epauX (x0 x1 x2 : Value) :
  execK prog C L 0 47 [6] cauX [2,1,0,6] [] (fs [(0,x0),(1,x1),(2,x2)]) h K =
   pauX C L x0 x1 x2 h (fun x2 x1 x0 x6 h => K .normal (fs [(2,x2),(1,x1),(0,x0),(6,x6)]) h) := by
 kernel_rfl
noncomputable def cafQ : Code := cR c36a
noncomputable def cauY : Code := cL cafQ
noncomputable def pauY (C : CF) (L : Nat) {β : Type} (x2 x1 x0 x6 : Value) (h : H) (kn : Kv5 β) : Option β :=
 bnd (A.bin prog .rem 3 x2 (.int .i64 4)) fun t13 =>
 bnd (A.bin prog .add 3 (.int .i64 1) t13) fun t14 =>
 bnd (A.conv prog 3 72 t14) fun t15 =>
 bnd (A.build Z77L [(0,1,x1),(4,1,t15)]) fun t16 =>
 bnd2 (A.box 24 Z77 h) fun t7 hq1 =>
 bnd (A.store 24 t7 t16 hq1) fun hq2 =>
 kn x2 x1 x0 t7 x6 hq2
theorem epauY (x2 x1 x0 x6 : Value) :
  execK prog C L 0 47 [6] cauY [2,1,0,7,6] [] (fs [(2,x2),(1,x1),(0,x0),(6,x6)]) h K =
   pauY C L x2 x1 x0 x6 h (fun x2 x1 x0 x7 x6 h => K .normal (fs [(2,x2),(1,x1),(0,x0),(7,x7),(6,x6)]) h) := by
 kernel_rfl
noncomputable def cagK : Code := cR cafQ
noncomputable def cauZ : Code := cL cagK
noncomputable def pauZ (C : CF) (L : Nat) {β : Type} (x2 x1 x0 x7 x6 : Value) (h : H) (kn : Kv6 β) : Option β :=
 bnd2 (A.buildSlice 1 8 Z9L [(0,1,(.string ⟨⟨[97]⟩⟩)),(1,1,(.string ⟨⟨[97,47,43]⟩⟩)),(2,1,(.string ⟨⟨[35]⟩⟩)),(3,1,(.string ⟨⟨[43,47,98]⟩⟩)),(4,1,(.string ⟨⟨[97,47,35]⟩⟩)),(5,1,(.string ⟨⟨[98]⟩⟩)),(6,1,(.string ⟨⟨[36,115,47,35]⟩⟩)),(7,1,(.string ⟨⟨[43]⟩⟩))] h) fun t17 hq1 =>
 kn x2 x1 t17 x0 x7 x6 hq1
theorem epauZ (x2 x1 x0 x7 x6 : Value) :
  execK prog C L 0 47 [6] cauZ [2,1,8,0,7,6] [] (fs [(2,x2),(1,x1),(0,x0),(7,x7),(6,x6)]) h K =
   pauZ C L x2 x1 x0 x7 x6 h (fun x2 x1 x8 x0 x7 x6 h => K .normal (fs [(2,x2),(1,x1),(8,x8),(0,x0),(7,x7),(6,x6)]) h) := by
 kernel_rfl
noncomputable def cahG : Code := cR cagK
noncomputable def caiB : Code := cL cahG
noncomputable def cavA : Code := cL caiB
noncomputable def pavA (C : CF) (L : Nat) {β : Type} (x2 x1 x8 x0 x7 x6 : Value) (h : H) (kn : Kv7 β) : Option β :=
 bnd (A.bin prog .quo 3 x2 (.int .i64 4)) fun t19 =>
 bnd (A.bin prog .rem 3 t19 (.int .i64 2)) fun t20 =>
 bnd (A.bin prog .add 3 (.int .i64 1) t20) fun t21 =>
 kn t21 (.int .i64 0) x1 x8 x0 x7 x6 h
theorem epavA (x2 x1 x8 x0 x7 x6 : Value) :
  execK prog C L 0 47 [6] cavA [21,22,1,8,0,7,6] [] (fs [(2,x2),(1,x1),(8,x8),(0,x0),(7,x7),(6,x6)]) h K =
   pavA C L x2 x1 x8 x0 x7 x6 h (fun x21 x22 x1 x8 x0 x7 x6 h => K .normal (fs [(21,x21),(22,x22),(1,x1),(8,x8),(0,x0),(7,x7),(6,x6)]) h) := by
 kernel_rfl
noncomputable def cajT : Code := cR caiB
noncomputable def calA : Code := cL cajT
noncomputable def caoI : Code := cL calA
noncomputable def paoI (C : CF) (L : Nat) {β : Type} (x21 x22 x1 x8 x0 x7 x6 : Value) (h : H) (kn : Kv7 β) (kx0 : Kv2 β) : Option β :=
 bnd (A.bin prog .lss 3 x22 x21) fun t23 =>
 toBK t23 fun b =>
 (bif b then
 bnd2 (C 10 [x0] h) fun t25 hq1 =>
 bnd (A.bin prog .rem 3 t25 (.int .i64 8)) fun t28 =>
 bnd (A.idxS 1 x8 t28) fun t29 =>
 bnd (A.load false 1 t29 hq1) fun t30 =>
 bnd (A.build Z110L [(0,1,t30)]) fun t31 =>
 bnd2 (A.box 2 Z110 hq1) fun t10 hq2 =>
 bnd (A.store 2 t10 t31 hq2) fun hq3 =>
 bnd (A.bin prog .eql 5 x1 (.int .u8 8)) fun t33 =>
 toBK t33 fun bq1 =>
 (bif bq1 then
 bnd (A.bin prog .quo 3 t25 (.int .i64 8)) fun t35 =>
 bnd (A.bin prog .rem 3 t35 (.int .i64 3)) fun t36 =>
 bnd (A.conv prog 3 5 t36) fun t37 =>
 bnd (A.fieldAddr 1 t10) fun t38 =>
 bnd (A.store 1 t38 t37 hq3) fun hq4 =>
 bnd (A.fieldAddr 22 x7) fun t39 =>
 bnd (A.load false 1 t39 hq4) fun t40 =>
 bnd (A.load true 2 t10 hq4) fun t41 =>
 bnd2 (A.buildSlice 2 1 Z110L [(0,2,t41)] hq4) fun t42 hq5 =>
 bnd2 (A.append 2 24 t40 t42 hq5) fun t43 hq6 =>
 bnd (A.fieldAddr 22 x7) fun t44 =>
 bnd (A.store 1 t44 t43 hq6) fun hq7 =>
 bnd (A.bin prog .add 3 x22 (.int .i64 1)) fun t45 =>
 kn x21 t45 x1 x8 x0 x7 x6 hq7
 else
 bnd (A.fieldAddr 22 x7) fun t39q1 =>
 bnd (A.load false 1 t39q1 hq3) fun t40q1 =>
 bnd (A.load true 2 t10 hq3) fun t41q1 =>
 bnd2 (A.buildSlice 2 1 Z110L [(0,2,t41q1)] hq3) fun t42q1 hq8 =>
 bnd2 (A.append 2 24 t40q1 t42q1 hq8) fun t43q1 hq9 =>
 bnd (A.fieldAddr 22 x7) fun t44q1 =>
 bnd (A.store 1 t44q1 t43q1 hq9) fun hq10 =>
 bnd (A.bin prog .add 3 x22 (.int .i64 1)) fun t45q1 =>
 kn x21 t45q1 x1 x8 x0 x7 x6 hq10)
 else
 kx0 x7 x6 h)
theorem epaoI (x21 x22 x1 x8 x0 x7 x6 : Value) :
  execK prog C L 0 47 [6] caoI [21,22,1,8,0,7,6] [(0,[7,6])] (fs [(21,x21),(22,x22),(1,x1),(8,x8),(0,x0),(7,x7),(6,x6)]) h K =
   paoI C L x21 x22 x1 x8 x0 x7 x6 h (fun x21 x22 x1 x8 x0 x7 x6 h => K .normal (fs [(21,x21),(22,x22),(1,x1),(8,x8),(0,x0),(7,x7),(6,x6)]) h) (fun x7 x6 h => K (.exit 0) (fs [(7,x7),(6,x6)]) h) := by
 kernel_rfl
noncomputable def parF (C : CF) (L : Nat) {β : Type} (kx0 : Kv2 β) : Nat → Kv7 β
 | 0,_,_,_,_,_,_,_,_ => none
 | n + 1,x21,x22,x1,x8,x0,x7,x6,h => paoI C L x21 x22 x1 x8 x0 x7 x6 h (fun x21 x22 x1 x8 x0 x7 x6 h => parF C L kx0 n x21 x22 x1 x8 x0 x7 x6 h) kx0
theorem eparF (C : CF) (L : Nat) {β : Type} (K : Ex → T Value → Kv0 β) : ∀ (n : Nat) (x21 x22 x1 x8 x0 x7 x6 : Value) (h : H),
  loopK (fun fr h K => execK prog C L 0 47 [6] caoI [21,22,1,8,0,7,6] [(0,[7,6])] fr h K) n (fs [(21,x21),(22,x22),(1,x1),(8,x8),(0,x0),(7,x7),(6,x6)]) h K =
   parF C L (fun x7 x6 h => K (.exit 0) (fs [(7,x7),(6,x6)]) h) n x21 x22 x1 x8 x0 x7 x6 h := by
 intro n
 induction n with
 | zero => intros; rfl
 | succ n ih =>
  intros
  simp only [loopK]
  rw [epaoI]
  simp only [seqK_n,seqK_x,seqK_r,ih]
  rfl
noncomputable def palA (C : CF) (L : Nat) {β : Type} (x21 x22 x1 x8 x0 x7 x6 : Value) (h : H) (kx0 : Kv2 β) : Option β :=
 parF C L kx0 L x21 x22 x1 x8 x0 x7 x6 h
theorem epalA (x21 x22 x1 x8 x0 x7 x6 : Value) :
  execK prog C L 0 47 [6] calA [7,6] [(0,[7,6])] (fs [(21,x21),(22,x22),(1,x1),(8,x8),(0,x0),(7,x7),(6,x6)]) h K =
   palA C L x21 x22 x1 x8 x0 x7 x6 h (fun x7 x6 h => K (.exit 0) (fs [(7,x7),(6,x6)]) h) := by
 rw [execK_loop (b := caoI) (fr1 := (fs [(21,x21),(22,x22),(1,x1),(8,x8),(0,x0),(7,x7),(6,x6)])) (by kernel_rfl) (show live [6] caoI [] [(0,[7,6])] = [21,22,1,8,0,7,6] by kernel_rfl) (by kernel_rfl),eparF]
 unfold palA
 rfl
noncomputable def pajT (C : CF) (L : Nat) {β : Type} (x21 x22 x1 x8 x0 x7 x6 : Value) (h : H) (kn : Kv2 β) : Option β :=
 palA C L x21 x22 x1 x8 x0 x7 x6 h kn
theorem epajT (x21 x22 x1 x8 x0 x7 x6 : Value) :
  execK prog C L 0 47 [6] cajT [7,6] [] (fs [(21,x21),(22,x22),(1,x1),(8,x8),(0,x0),(7,x7),(6,x6)]) h K =
   pajT C L x21 x22 x1 x8 x0 x7 x6 h (fun x7 x6 h => K .normal (fs [(7,x7),(6,x6)]) h) := by
 rw [execK_block (b := calA) (id := 0) (by kernel_rfl),epalA]
 unfold pajT
 rfl
noncomputable def paiB (C : CF) (L : Nat) {β : Type} (x2 x1 x8 x0 x7 x6 : Value) (h : H) (kn : Kv2 β) : Option β :=
 pavA C L x2 x1 x8 x0 x7 x6 h (fun x21 x22 x1 x8 x0 x7 x6 h => pajT C L x21 x22 x1 x8 x0 x7 x6 h kn)
theorem epaiB (x2 x1 x8 x0 x7 x6 : Value) :
  execK prog C L 0 47 [6] caiB [7,6] [] (fs [(2,x2),(1,x1),(8,x8),(0,x0),(7,x7),(6,x6)]) h K =
   paiB C L x2 x1 x8 x0 x7 x6 h (fun x7 x6 h => K .normal (fs [(7,x7),(6,x6)]) h) := by
 rw [execK_seq (a := cavA) (b := cajT) (by kernel_rfl) (show live [6] cajT [7,6] [] = [21,22,1,8,0,7,6] by kernel_rfl),epavA]
 unfold paiB
 exact (congrArg (pavA C L x2 x1 x8 x0 x7 x6 h) (funext fun x21=>funext fun x22=>funext fun x1=>funext fun x8=>funext fun x0=>funext fun x7=>funext fun x6=>funext fun h => (seqK_n _ _ _).trans (epajT C L h K x21 x22 x1 x8 x0 x7 x6)))
noncomputable def carG : Code := cR cahG
noncomputable def parG (C : CF) (L : Nat) {β : Type} (x7 x6 : Value) (h : H) (kr : Kv1 β) : Option β :=
 bnd (A.load true 24 x7 h) fun t46 =>
 bnd (A.store 24 x6 t46 h) fun hq1 =>
 kr x6 hq1
theorem eparG (x7 x6 : Value) :
  execK prog C L 0 47 [6] carG [6] [] (fs [(7,x7),(6,x6)]) h K =
   parG C L x7 x6 h (fun x6 h => K .ret (fs [(6,x6)]) h) := by
 kernel_rfl
noncomputable def p36a (C : CF) (L : Nat) {β : Type} (x0 x1 x2 : Value) (h : H) (kr : Kv1 β) : Option β :=
 pauX C L x0 x1 x2 h (fun x2 x1 x0 x6 h => pauY C L x2 x1 x0 x6 h (fun x2 x1 x0 x7 x6 h => pauZ C L x2 x1 x0 x7 x6 h (fun x2 x1 x8 x0 x7 x6 h => paiB C L x2 x1 x8 x0 x7 x6 h (fun x7 x6 h => parG C L x7 x6 h kr))))
theorem ep36a (x0 x1 x2 : Value) :
  execK prog C L 0 47 [6] c36a [6] [] (fs [(0,x0),(1,x1),(2,x2)]) h K =
   p36a C L x0 x1 x2 h (fun x6 h => K .ret (fs [(6,x6)]) h) := by
 rw [execK_seq (a := cauX) (b := cafQ) (by kernel_rfl) (show live [6] cafQ [6] [] = [2,1,0,6] by kernel_rfl),epauX]
 unfold p36a
 exact (congrArg (pauX C L x0 x1 x2 h) (funext fun x2=>funext fun x1=>funext fun x0=>funext fun x6=>funext fun h => (seqK_n _ _ _).trans (by rw [execK_seq (a := cauY) (b := cagK) (by kernel_rfl) (show live [6] cagK [6] [] = [2,1,0,7,6] by kernel_rfl),epauY]; exact (congrArg (pauY C L x2 x1 x0 x6 h) (funext fun x2=>funext fun x1=>funext fun x0=>funext fun x7=>funext fun x6=>funext fun h => (seqK_n _ _ _).trans (by rw [execK_seq (a := cauZ) (b := cahG) (by kernel_rfl) (show live [6] cahG [6] [] = [2,1,8,0,7,6] by kernel_rfl),epauZ]; exact (congrArg (pauZ C L x2 x1 x0 x7 x6 h) (funext fun x2=>funext fun x1=>funext fun x8=>funext fun x0=>funext fun x7=>funext fun x6=>funext fun h => (seqK_n _ _ _).trans (by rw [execK_seq (a := caiB) (b := carG) (by kernel_rfl) (show live [6] carG [6] [] = [7,6] by kernel_rfl),epaiB]; exact (congrArg (paiB C L x2 x1 x8 x0 x7 x6 h) (funext fun x7=>funext fun x6=>funext fun h => (seqK_n _ _ _).trans (eparG C L h K x7 x6))))))))))))
noncomputable def F36 (C : CF) (L : Nat) (x0 x1 x2 : Value) (h : H) : Option (Value × H) :=
 p36a C L x0 x1 x2 h
  (fun x6 h => bnd (resC (A.load true 24 x6 h) (some [])) fun vs => some (packA vs,h))
theorem F36eq (Q : Orc) (n : Nat) (x0 x1 x2 : Value) (h : H) (hQ : Q 36 [x0,x1,x2] = none) : callO prog 0 Q (n + 1) 36 [x0,x1,x2] h = F36 (callO prog 0 Q n) n x0 x1 x2 h := by
 rw [callO_eq hQ (c := c36a) (nt := 47) (RR := [6]) (fr := (fs [(0,x0),(1,x1),(2,x2)])) Tryz.func36 (by kernel_rfl) (by kernel_rfl) (by kernel_rfl) (by kernel_rfl) (by kernel_rfl),ep36a]
 kernel_rfl
noncomputable def c37a : Code := (Tryz.f37.body).getD .skip
noncomputable def caoJ : Code := cL c37a
noncomputable def paoJ (C : CF) (L : Nat) {β : Type} (x0 x1 : Value) (h : H) (kn : Kv3 β) : Option β :=
 bnd2 (A.box 24 Z77 h) fun t4 hq1 =>
 kn x0 x1 t4 hq1
theorem epaoJ (x0 x1 : Value) :
  execK prog C L 0 48 [4] caoJ [0,1,4] [] (fs [(0,x0),(1,x1)]) h K =
   paoJ C L x0 x1 h (fun x0 x1 x4 h => K .normal (fs [(0,x0),(1,x1),(4,x4)]) h) := by
 kernel_rfl
noncomputable def calU : Code := cR c37a
noncomputable def caoK : Code := cL calU
noncomputable def paoK (C : CF) (L : Nat) {β : Type} (x0 x1 x4 : Value) (h : H) (kn : Kv4 β) : Option β :=
 bnd2 (A.buildSlice 1 6 Z9L [(0,1,(.string ⟨⟨[97]⟩⟩)),(1,1,(.string ⟨⟨[97,47,98]⟩⟩)),(2,1,(.string ⟨⟨[98]⟩⟩)),(3,1,(.string ⟨⟨[97,47,119]⟩⟩)),(4,1,(.string ⟨⟨[36,115,47,120]⟩⟩)),(5,1,(.string ⟨⟨[99]⟩⟩))] h) fun t7 hq1 =>
 bnd (A.bin prog .rem 3 x1 (.int .i64 6)) fun t9 =>
 bnd (A.idxS 1 t7 t9) fun t10 =>
 bnd (A.load false 1 t10 hq1) fun t11 =>
 bnd (A.bin prog .quo 3 x1 (.int .i64 8)) fun t13 =>
 bnd (A.bin prog .rem 3 t13 (.int .i64 3)) fun t14 =>
 bnd (A.conv prog 3 5 t14) fun t15 =>
 bnd (A.bin prog .quo 3 x1 (.int .i64 32)) fun t17 =>
 bnd (A.bin prog .rem 3 t17 (.int .i64 2)) fun t18 =>
 bnd (A.bin prog .eql 3 t18 (.int .i64 1)) fun t19 =>
 toBK t19 fun b =>
 bnd (A.build Z77L [(0,1,(.int .u8 3)),(5,1,t11),(2,1,t15),(3,1,(.bool b))]) fun t20 =>
 bnd2 (A.box 24 Z77 hq1) fun t5 hq2 =>
 bnd (A.store 24 t5 t20 hq2) fun hq3 =>
 kn x0 x1 t5 x4 hq3
theorem epaoK (x0 x1 x4 : Value) :
  execK prog C L 0 48 [4] caoK [0,1,5,4] [] (fs [(0,x0),(1,x1),(4,x4)]) h K =
   paoK C L x0 x1 x4 h (fun x0 x1 x5 x4 h => K .normal (fs [(0,x0),(1,x1),(5,x5),(4,x4)]) h) := by
 kernel_rfl
noncomputable def caoL : Code := cR calU
noncomputable def paoL (C : CF) (L : Nat) {β : Type} (x0 x1 x5 x4 : Value) (h : H) (kr : Kv1 β) : Option β :=
 bnd2 (C 10 [x0] h) fun t22 hq1 =>
 bnd (A.bin prog .quo 3 t22 (.int .i64 4)) fun t24 =>
 bnd (A.bin prog .rem 3 t24 (.int .i64 4)) fun t25 =>
 bnd (A.bin prog .gtr 3 t25 (.int .i64 0)) fun t26 =>
 toBK t26 fun b =>
 (bif b then
 bnd (A.bin prog .quo 3 t22 (.int .i64 16)) fun t28 =>
 bnd (A.bin prog .add 3 (.int .i64 97) t28) fun t29 =>
 bnd (A.conv prog 3 5 t29) fun t30 =>
 bnd2 (A.buildSlice 1 1 Z5L [(0,1,t30)] hq1) fun t31 hq2 =>
 bnd (A.b2s t31 hq2) fun t32 =>
 bnd (A.fieldAddr 6 x5) fun t33 =>
 bnd (A.store 1 t33 t32 hq2) fun hq3 =>
 bnd (A.fieldAddr 2 x5) fun t34 =>
 bnd (A.load false 1 t34 hq3) fun t35 =>
 bnd (A.bin prog .gtr 5 t35 (.int .u8 0)) fun t36 =>
 toBK t36 fun bq1 =>
 (bif bq1 then
 bnd (A.bin prog .rem 3 t22 (.int .i64 4)) fun t38 =>
 bnd (A.bin prog .add 3 (.int .i64 1) t38) fun t39 =>
 bnd (A.conv prog 3 72 t39) fun t40 =>
 bnd (A.fieldAddr 4 x5) fun t41 =>
 bnd (A.store 1 t41 t40 hq3) fun hq4 =>
 bnd (A.bin prog .quo 3 x1 (.int .i64 64)) fun t43 =>
 bnd (A.bin prog .rem 3 t43 (.int .i64 2)) fun t44 =>
 bnd (A.bin prog .eql 3 t44 (.int .i64 1)) fun t45 =>
 toBK t45 fun bq2 =>
 bnd (A.fieldAddr 1 x5) fun t46 =>
 bnd (A.store 1 t46 (.bool bq2) hq4) fun hq5 =>
 bnd (A.load true 24 x5 hq5) fun t47 =>
 bnd (A.store 24 x4 t47 hq5) fun hq6 =>
 kr x4 hq6
 else
 bnd (A.load true 24 x5 hq3) fun t47q1 =>
 bnd (A.store 24 x4 t47q1 hq3) fun hq7 =>
 kr x4 hq7)
 else
 bnd (A.fieldAddr 2 x5) fun t34q1 =>
 bnd (A.load false 1 t34q1 hq1) fun t35q1 =>
 bnd (A.bin prog .gtr 5 t35q1 (.int .u8 0)) fun t36q1 =>
 toBK t36q1 fun bq3 =>
 (bif bq3 then
 bnd (A.bin prog .rem 3 t22 (.int .i64 4)) fun t38q1 =>
 bnd (A.bin prog .add 3 (.int .i64 1) t38q1) fun t39q1 =>
 bnd (A.conv prog 3 72 t39q1) fun t40q1 =>
 bnd (A.fieldAddr 4 x5) fun t41q1 =>
 bnd (A.store 1 t41q1 t40q1 hq1) fun hq8 =>
 bnd (A.bin prog .quo 3 x1 (.int .i64 64)) fun t43q1 =>
 bnd (A.bin prog .rem 3 t43q1 (.int .i64 2)) fun t44q1 =>
 bnd (A.bin prog .eql 3 t44q1 (.int .i64 1)) fun t45q1 =>
 toBK t45q1 fun bq4 =>
 bnd (A.fieldAddr 1 x5) fun t46q1 =>
 bnd (A.store 1 t46q1 (.bool bq4) hq8) fun hq9 =>
 bnd (A.load true 24 x5 hq9) fun t47q2 =>
 bnd (A.store 24 x4 t47q2 hq9) fun hq10 =>
 kr x4 hq10
 else
 bnd (A.load true 24 x5 hq1) fun t47q3 =>
 bnd (A.store 24 x4 t47q3 hq1) fun hq11 =>
 kr x4 hq11))
theorem epaoL (x0 x1 x5 x4 : Value) :
  execK prog C L 0 48 [4] caoL [4] [] (fs [(0,x0),(1,x1),(5,x5),(4,x4)]) h K =
   paoL C L x0 x1 x5 x4 h (fun x4 h => K .ret (fs [(4,x4)]) h) := by
 kernel_rfl
noncomputable def p37a (C : CF) (L : Nat) {β : Type} (x0 x1 : Value) (h : H) (kr : Kv1 β) : Option β :=
 paoJ C L x0 x1 h (fun x0 x1 x4 h => paoK C L x0 x1 x4 h (fun x0 x1 x5 x4 h => paoL C L x0 x1 x5 x4 h kr))
theorem ep37a (x0 x1 : Value) :
  execK prog C L 0 48 [4] c37a [4] [] (fs [(0,x0),(1,x1)]) h K =
   p37a C L x0 x1 h (fun x4 h => K .ret (fs [(4,x4)]) h) := by
 rw [execK_seq (a := caoJ) (b := calU) (by kernel_rfl) (show live [4] calU [4] [] = [0,1,4] by kernel_rfl),epaoJ]
 unfold p37a
 exact (congrArg (paoJ C L x0 x1 h) (funext fun x0=>funext fun x1=>funext fun x4=>funext fun h => (seqK_n _ _ _).trans (by rw [execK_seq (a := caoK) (b := caoL) (by kernel_rfl) (show live [4] caoL [4] [] = [0,1,5,4] by kernel_rfl),epaoK]; exact (congrArg (paoK C L x0 x1 x4 h) (funext fun x0=>funext fun x1=>funext fun x5=>funext fun x4=>funext fun h => (seqK_n _ _ _).trans (epaoL C L h K x0 x1 x5 x4))))))
noncomputable def F37 (C : CF) (L : Nat) (x0 x1 : Value) (h : H) : Option (Value × H) :=
 p37a C L x0 x1 h
  (fun x4 h => bnd (resC (A.load true 24 x4 h) (some [])) fun vs => some (packA vs,h))
theorem F37eq (Q : Orc) (n : Nat) (x0 x1 : Value) (h : H) (hQ : Q 37 [x0,x1] = none) : callO prog 0 Q (n + 1) 37 [x0,x1] h = F37 (callO prog 0 Q n) n x0 x1 h := by
 rw [callO_eq hQ (c := c37a) (nt := 48) (RR := [4]) (fr := (fs [(0,x0),(1,x1)])) Tryz.func37 (by kernel_rfl) (by kernel_rfl) (by kernel_rfl) (by kernel_rfl) (by kernel_rfl),ep37a]
 kernel_rfl
noncomputable def c38a : Code := (Tryz.f38.body).getD .skip
noncomputable def p38a (C : CF) (L : Nat) {β : Type} (x0 : Value) (h : H) (kr : Kv2 β) : Option β :=
 bnd2 (A.box 24 x0 h) fun t1 hq1 =>
 bnd (A.load true 24 t1 hq1) fun t4 =>
 bnd2 (A.buildSlice 24 1 Z77L [(0,24,t4)] hq1) fun t5 hq2 =>
 bnd2 (C 56 [t5] hq2) fun t6 hq3 =>
 bnd (A.extract 0 t6) fun t7 =>
 bnd (A.extract 1 t6) fun t8 =>
 kr t7 t8 hq3
theorem ep38a (x0 : Value) :
  execK prog C L 0 9 [2,3] c38a [2,3] [] (fs [(0,x0)]) h K =
   p38a C L x0 h (fun x2 x3 h => K .ret (fs [(2,x2),(3,x3)]) h) := by
 kernel_rfl
noncomputable def F38 (C : CF) (L : Nat) (x0 : Value) (h : H) : Option (Value × H) :=
 p38a C L x0 h
  (fun x2 x3 h => some (.tuple ⟨[x2,x3]⟩,h))
theorem F38eq (Q : Orc) (n : Nat) (x0 : Value) (h : H) (hQ : Q 38 [x0] = none) : callO prog 0 Q (n + 1) 38 [x0] h = F38 (callO prog 0 Q n) n x0 h := by
 rw [callO_eq hQ (c := c38a) (nt := 9) (RR := [2,3]) (fr := (fs [(0,x0)])) Tryz.func38 (by kernel_rfl) (by kernel_rfl) (by kernel_rfl) (by kernel_rfl) (by kernel_rfl),ep38a]
 kernel_rfl
noncomputable def c56a : Code := (Tryz.f56.body).getD .skip
noncomputable def cavQ : Code := cL c56a
noncomputable def pavQ (C : CF) (L : Nat) {β : Type} (x0 : Value) (h : H) (kn : Kv1 β) : Option β :=
 kn x0 h
theorem epavQ (x0 : Value) :
  execK prog C L 0 59 [2,3] cavQ [0] [] (fs [(0,x0)]) h K =
   pavQ C L x0 h (fun x0 h => K .normal (fs [(0,x0)]) h) := by
 kernel_rfl
noncomputable def cacG : Code := cR c56a
noncomputable def cavR : Code := cL cacG
noncomputable def pavR (C : CF) (L : Nat) {β : Type} (x0 : Value) (h : H) (kn : Kv2 β) : Option β :=
 kn (.int .i64 0) x0 h
theorem epavR (x0 : Value) :
  execK prog C L 0 59 [2,3] cavR [4,0] [] (fs [(0,x0)]) h K =
   pavR C L x0 h (fun x4 x0 h => K .normal (fs [(4,x4),(0,x0)]) h) := by
 kernel_rfl
noncomputable def cacM : Code := cR cacG
noncomputable def caiO : Code := cL cacM
noncomputable def cavS : Code := cL caiO
noncomputable def pavS (C : CF) (L : Nat) {β : Type} (x4 x0 : Value) (h : H) (kn : Kv5 β) : Option β :=
 bnd (A.lenS x0) fun t14 =>
 kn t14 (.int .i64 0) x0 x4 x0 h
theorem epavS (x4 x0 : Value) :
  execK prog C L 0 59 [2,3] cavS [14,15,13,4,0] [] (fs [(4,x4),(0,x0)]) h K =
   pavS C L x4 x0 h (fun x14 x15 x13 x4 x0 h => K .normal (fs [(14,x14),(15,x15),(13,x13),(4,x4),(0,x0)]) h) := by
 kernel_rfl
noncomputable def cakF : Code := cR caiO
noncomputable def calV : Code := cL cakF
noncomputable def carV : Code := cL calV
noncomputable def parV (C : CF) (L : Nat) {β : Type} (x14 x15 x13 x4 x0 : Value) (h : H) (kr : Kv2 β) (kn : Kv5 β) (kx0 : Kv2 β) : Option β :=
 bnd (A.bin prog .lss 3 x15 x14) fun t16 =>
 condV t16 (
 bnd (A.idxS 24 x13 x15) fun t17 =>
 bnd (A.load true 24 t17 h) fun t18 =>
 bnd2 (A.box 24 Z77 h) fun t6 hq1 =>
 bnd (A.store 24 t6 t18 hq1) fun hq2 =>
 bnd (A.load true 24 t6 hq2) fun t19 =>
 bnd2 (C 83 [t19] hq2) fun t20 hq3 =>
 bnd (A.bin prog .eql 3 t20 (.int .i64 0)) fun t22 =>
 toBK t22 fun b =>
 (bif b then
 kr (.string ⟨⟨[]⟩⟩) (.int .i64 4) hq3
 else
 bnd (A.bin prog .add 3 x4 t20) fun t25 =>
 bnd (A.bin prog .add 3 x15 (.int .i64 1)) fun t26 =>
 kn x14 t26 x13 t25 x0 hq3)) (
 kx0 x4 x0 h)
theorem eparV (x14 x15 x13 x4 x0 : Value) :
  execK prog C L 0 59 [2,3] carV [14,15,13,4,0] [(0,[4,0])] (fs [(14,x14),(15,x15),(13,x13),(4,x4),(0,x0)]) h K =
   parV C L x14 x15 x13 x4 x0 h (fun x2 x3 h => K .ret (fs [(2,x2),(3,x3)]) h) (fun x14 x15 x13 x4 x0 h => K .normal (fs [(14,x14),(15,x15),(13,x13),(4,x4),(0,x0)]) h) (fun x4 x0 h => K (.exit 0) (fs [(4,x4),(0,x0)]) h) := by
 kernel_rfl
noncomputable def payP (C : CF) (L : Nat) {β : Type} (kr : Kv2 β) (kx0 : Kv2 β) : Nat → Kv5 β
 | 0,_,_,_,_,_,_ => none
 | n + 1,x14,x15,x13,x4,x0,h => parV C L x14 x15 x13 x4 x0 h kr (fun x14 x15 x13 x4 x0 h => payP C L kr kx0 n x14 x15 x13 x4 x0 h) kx0
theorem epayP (C : CF) (L : Nat) {β : Type} (K : Ex → T Value → Kv0 β) : ∀ (n : Nat) (x14 x15 x13 x4 x0 : Value) (h : H),
  loopK (fun fr h K => execK prog C L 0 59 [2,3] carV [14,15,13,4,0] [(0,[4,0])] fr h K) n (fs [(14,x14),(15,x15),(13,x13),(4,x4),(0,x0)]) h K =
   payP C L (fun x2 x3 h => K .ret (fs [(2,x2),(3,x3)]) h) (fun x4 x0 h => K (.exit 0) (fs [(4,x4),(0,x0)]) h) n x14 x15 x13 x4 x0 h := by
 intro n
 induction n with
 | zero => intros; rfl
 | succ n ih =>
  intros
  simp only [loopK]
  rw [eparV]
  simp only [seqK_n,seqK_x,seqK_r,ih]
  rfl
noncomputable def palV (C : CF) (L : Nat) {β : Type} (x14 x15 x13 x4 x0 : Value) (h : H) (kr : Kv2 β) (kx0 : Kv2 β) : Option β :=
 payP C L kr kx0 L x14 x15 x13 x4 x0 h
theorem epalV (x14 x15 x13 x4 x0 : Value) :
  execK prog C L 0 59 [2,3] calV [4,0] [(0,[4,0])] (fs [(14,x14),(15,x15),(13,x13),(4,x4),(0,x0)]) h K =
   palV C L x14 x15 x13 x4 x0 h (fun x2 x3 h => K .ret (fs [(2,x2),(3,x3)]) h) (fun x4 x0 h => K (.exit 0) (fs [(4,x4),(0,x0)]) h) := by
 rw [execK_loop (b := carV) (fr1 := (fs [(14,x14),(15,x15),(13,x13),(4,x4),(0,x0)])) (by kernel_rfl) (show live [2,3] carV [] [(0,[4,0])] = [14,15,13,4,0] by kernel_rfl) (by kernel_rfl),epayP]
 unfold palV
 rfl
noncomputable def pakF (C : CF) (L : Nat) {β : Type} (x14 x15 x13 x4 x0 : Value) (h : H) (kr : Kv2 β) (kn : Kv2 β) : Option β :=
 palV C L x14 x15 x13 x4 x0 h kr kn
theorem epakF (x14 x15 x13 x4 x0 : Value) :
  execK prog C L 0 59 [2,3] cakF [4,0] [] (fs [(14,x14),(15,x15),(13,x13),(4,x4),(0,x0)]) h K =
   pakF C L x14 x15 x13 x4 x0 h (fun x2 x3 h => K .ret (fs [(2,x2),(3,x3)]) h) (fun x4 x0 h => K .normal (fs [(4,x4),(0,x0)]) h) := by
 rw [execK_block (b := calV) (id := 0) (by kernel_rfl),epalV]
 unfold pakF
 rfl
noncomputable def paiO (C : CF) (L : Nat) {β : Type} (x4 x0 : Value) (h : H) (kr : Kv2 β) (kn : Kv2 β) : Option β :=
 pavS C L x4 x0 h (fun x14 x15 x13 x4 x0 h => pakF C L x14 x15 x13 x4 x0 h kr kn)
theorem epaiO (x4 x0 : Value) :
  execK prog C L 0 59 [2,3] caiO [4,0] [] (fs [(4,x4),(0,x0)]) h K =
   paiO C L x4 x0 h (fun x2 x3 h => K .ret (fs [(2,x2),(3,x3)]) h) (fun x4 x0 h => K .normal (fs [(4,x4),(0,x0)]) h) := by
 rw [execK_seq (a := cavS) (b := cakF) (by kernel_rfl) (show live [2,3] cakF [4,0] [] = [14,15,13,4,0] by kernel_rfl),epavS]
 unfold paiO
 exact (congrArg (pavS C L x4 x0 h) (funext fun x14=>funext fun x15=>funext fun x13=>funext fun x4=>funext fun x0=>funext fun h => (seqK_n _ _ _).trans (epakF C L h K x14 x15 x13 x4 x0)))
noncomputable def cadI : Code := cR cacM
noncomputable def cavT : Code := cL cadI
noncomputable def pavT (C : CF) (L : Nat) {β : Type} (x4 x0 : Value) (h : H) (kn : Kv2 β) : Option β :=
 bnd2 (A.makeSlice 1 1 Z5L (.int .i64 0) x4 h) fun t28 hq1 =>
 kn x0 t28 hq1
theorem epavT (x4 x0 : Value) :
  execK prog C L 0 59 [2,3] cavT [0,8] [] (fs [(4,x4),(0,x0)]) h K =
   pavT C L x4 x0 h (fun x0 x8 h => K .normal (fs [(0,x0),(8,x8)]) h) := by
 kernel_rfl
noncomputable def cadV : Code := cR cadI
noncomputable def cadZ : Code := cL cadV
noncomputable def cavU : Code := cL cadZ
noncomputable def pavU (C : CF) (L : Nat) {β : Type} (x0 x8 : Value) (h : H) (kn : Kv4 β) : Option β :=
 bnd (A.lenS x0) fun t30 =>
 kn t30 (.int .i64 0) x0 x8 h
theorem epavU (x0 x8 : Value) :
  execK prog C L 0 59 [2,3] cavU [30,31,29,8] [] (fs [(0,x0),(8,x8)]) h K =
   pavU C L x0 x8 h (fun x30 x31 x29 x8 h => K .normal (fs [(30,x30),(31,x31),(29,x29),(8,x8)]) h) := by
 kernel_rfl
noncomputable def caeT : Code := cR cadZ
noncomputable def cafC : Code := cL caeT
noncomputable def cafS : Code := cL cafC
noncomputable def cavV : Code := cL cafS
noncomputable def pavV (C : CF) (L : Nat) {β : Type} (x30 x31 x29 x8 : Value) (h : H) (kn : Kv5 β) : Option β :=
 bnd (A.bin prog .lss 3 x31 x30) fun t32 =>
 kn t32 x29 x30 x31 x8 h
theorem epavV (x30 x31 x29 x8 : Value) :
  execK prog C L 0 59 [2,3] cavV [32,29,30,31,8] [(2,[8])] (fs [(30,x30),(31,x31),(29,x29),(8,x8)]) h K =
   pavV C L x30 x31 x29 x8 h (fun x32 x29 x30 x31 x8 h => K .normal (fs [(32,x32),(29,x29),(30,x30),(31,x31),(8,x8)]) h) := by
 kernel_rfl
noncomputable def cahC : Code := cR cafS
noncomputable def cavW : Code := cL cahC
noncomputable def pavW (C : CF) (L : Nat) {β : Type} (x32 x29 x30 x31 x8 : Value) (h : H) (kn : Kv4 β) (kx2 : Kv1 β) : Option β :=
 condV x32 (
 kn x8 x31 x30 x29 h) (
 kx2 x8 h)
theorem epavW (x32 x29 x30 x31 x8 : Value) :
  execK prog C L 0 59 [2,3] cavW [8,31,30,29] [(2,[8])] (fs [(32,x32),(29,x29),(30,x30),(31,x31),(8,x8)]) h K =
   pavW C L x32 x29 x30 x31 x8 h (fun x8 x31 x30 x29 h => K .normal (fs [(8,x8),(31,x31),(30,x30),(29,x29)]) h) (fun x8 h => K (.exit 2) (fs [(8,x8)]) h) := by
 kernel_rfl
noncomputable def cahY : Code := cR cahC
noncomputable def cajA : Code := cL cahY
noncomputable def cajU : Code := cL cajA
noncomputable def cavX : Code := cL cajU
noncomputable def pavX (C : CF) (L : Nat) {β : Type} (x8 x31 x30 x29 : Value) (h : H) (kn : Kv5 β) : Option β :=
 bnd (A.idxS 24 x29 x31) fun t33 =>
 bnd (A.load true 24 t33 h) fun t34 =>
 bnd2 (A.box 24 Z77 h) fun t10 hq1 =>
 bnd (A.store 24 t10 t34 hq1) fun hq2 =>
 kn x8 t10 x31 x30 x29 hq2
theorem epavX (x8 x31 x30 x29 : Value) :
  execK prog C L 0 59 [2,3] cavX [8,10,31,30,29] [(3,[31,30,29,8]),(2,[8])] (fs [(8,x8),(31,x31),(30,x30),(29,x29)]) h K =
   pavX C L x8 x31 x30 x29 h (fun x8 x10 x31 x30 x29 h => K .normal (fs [(8,x8),(10,x10),(31,x31),(30,x30),(29,x29)]) h) := by
 kernel_rfl
noncomputable def camI : Code := cR cajU
noncomputable def cavY : Code := cL camI
noncomputable def pavY (C : CF) (L : Nat) {β : Type} (x8 x10 x31 x30 x29 : Value) (h : H) (kn : Kv6 β) : Option β :=
 bnd (A.load true 24 x10 h) fun t36 =>
 bnd2 (C 85 [t36] h) fun t37 hq1 =>
 bnd2 (C 84 [t37] hq1) fun t38 hq2 =>
 bnd (A.extract 0 t38) fun t39 =>
 bnd (A.extract 1 t38) fun t40 =>
 kn x8 t39 x10 x31 x30 x29 hq2
theorem epavY (x8 x10 x31 x30 x29 : Value) :
  execK prog C L 0 59 [2,3] cavY [8,11,10,31,30,29] [(3,[31,30,29,8]),(2,[8])] (fs [(8,x8),(10,x10),(31,x31),(30,x30),(29,x29)]) h K =
   pavY C L x8 x10 x31 x30 x29 h (fun x8 x11 x10 x31 x30 x29 h => K .normal (fs [(8,x8),(11,x11),(10,x10),(31,x31),(30,x30),(29,x29)]) h) := by
 kernel_rfl
noncomputable def cavZ : Code := cR camI
noncomputable def pavZ (C : CF) (L : Nat) {β : Type} (x8 x11 x10 x31 x30 x29 : Value) (h : H) (kn : Kv4 β) : Option β :=
 bnd (A.fieldAddr 0 x10) fun t42 =>
 bnd (A.load false 1 t42 h) fun t43 =>
 bnd (A.bin prog .shl 5 t43 (.int .u64 4)) fun t44 =>
 bnd (A.load true 24 x10 h) fun t45 =>
 bnd2 (C 86 [t45] h) fun t46 hq1 =>
 bif (chk (bnd (A.load false 1 t42 hq1) fun v => some v) t43 && true) then
 bnd (A.bin prog .or 5 t44 t46) fun t47 =>
 bnd2 (A.buildSlice 1 1 Z5L [(0,1,t47)] hq1) fun t48 hq2 =>
 bnd2 (A.append 1 1 x8 t48 hq2) fun t49 hq3 =>
 bnd2 (A.append 1 1 t49 x11 hq3) fun t52 hq4 =>
 bnd (A.load true 24 x10 hq4) fun t54 =>
 bnd2 (C 87 [t52,t54] hq4) fun t55 hq5 =>
 kn x31 x30 x29 t55 hq5
 else none
theorem epavZ (x8 x11 x10 x31 x30 x29 : Value) :
  execK prog C L 0 59 [2,3] cavZ [31,30,29,8] [(3,[31,30,29,8]),(2,[8])] (fs [(8,x8),(11,x11),(10,x10),(31,x31),(30,x30),(29,x29)]) h K =
   pavZ C L x8 x11 x10 x31 x30 x29 h (fun x31 x30 x29 x8 h => K .normal (fs [(31,x31),(30,x30),(29,x29),(8,x8)]) h) := by
 kernel_rfl
noncomputable def pajU (C : CF) (L : Nat) {β : Type} (x8 x31 x30 x29 : Value) (h : H) (kn : Kv4 β) : Option β :=
 pavX C L x8 x31 x30 x29 h (fun x8 x10 x31 x30 x29 h => pavY C L x8 x10 x31 x30 x29 h (fun x8 x11 x10 x31 x30 x29 h => pavZ C L x8 x11 x10 x31 x30 x29 h kn))
theorem epajU (x8 x31 x30 x29 : Value) :
  execK prog C L 0 59 [2,3] cajU [31,30,29,8] [(3,[31,30,29,8]),(2,[8])] (fs [(8,x8),(31,x31),(30,x30),(29,x29)]) h K =
   pajU C L x8 x31 x30 x29 h (fun x31 x30 x29 x8 h => K .normal (fs [(31,x31),(30,x30),(29,x29),(8,x8)]) h) := by
 rw [execK_seq (a := cavX) (b := camI) (by kernel_rfl) (show live [2,3] camI [31,30,29,8] [(3,[31,30,29,8]),(2,[8])] = [8,10,31,30,29] by kernel_rfl),epavX]
 unfold pajU
 exact (congrArg (pavX C L x8 x31 x30 x29 h) (funext fun x8=>funext fun x10=>funext fun x31=>funext fun x30=>funext fun x29=>funext fun h => (seqK_n _ _ _).trans (by rw [execK_seq (a := cavY) (b := cavZ) (by kernel_rfl) (show live [2,3] cavZ [31,30,29,8] [(3,[31,30,29,8]),(2,[8])] = [8,11,10,31,30,29] by kernel_rfl),epavY]; exact (congrArg (pavY C L x8 x10 x31 x30 x29 h) (funext fun x8=>funext fun x11=>funext fun x10=>funext fun x31=>funext fun x30=>funext fun x29=>funext fun h => (seqK_n _ _ _).trans (epavZ C L h K x8 x11 x10 x31 x30 x29))))))
noncomputable def pajA (C : CF) (L : Nat) {β : Type} (x8 x31 x30 x29 : Value) (h : H) (kn : Kv4 β) : Option β :=
 pajU C L x8 x31 x30 x29 h kn
theorem epajA (x8 x31 x30 x29 : Value) :
  execK prog C L 0 59 [2,3] cajA [31,30,29,8] [(2,[8])] (fs [(8,x8),(31,x31),(30,x30),(29,x29)]) h K =
   pajA C L x8 x31 x30 x29 h (fun x31 x30 x29 x8 h => K .normal (fs [(31,x31),(30,x30),(29,x29),(8,x8)]) h) := by
 rw [execK_block (b := cajU) (id := 3) (by kernel_rfl),epajU]
 unfold pajA
 rfl
noncomputable def cawA : Code := cR cahY
noncomputable def pawA (C : CF) (L : Nat) {β : Type} (x31 x30 x29 x8 : Value) (h : H) (kn : Kv4 β) : Option β :=
 bnd (A.bin prog .add 3 x31 (.int .i64 1)) fun t56 =>
 kn x30 t56 x29 x8 h
theorem epawA (x31 x30 x29 x8 : Value) :
  execK prog C L 0 59 [2,3] cawA [30,31,29,8] [(2,[8])] (fs [(31,x31),(30,x30),(29,x29),(8,x8)]) h K =
   pawA C L x31 x30 x29 x8 h (fun x30 x31 x29 x8 h => K .normal (fs [(30,x30),(31,x31),(29,x29),(8,x8)]) h) := by
 kernel_rfl
noncomputable def pafS (C : CF) (L : Nat) {β : Type} (x30 x31 x29 x8 : Value) (h : H) (kn : Kv4 β) (kx2 : Kv1 β) : Option β :=
 pavV C L x30 x31 x29 x8 h (fun x32 x29 x30 x31 x8 h => pavW C L x32 x29 x30 x31 x8 h (fun x8 x31 x30 x29 h => pajA C L x8 x31 x30 x29 h (fun x31 x30 x29 x8 h => pawA C L x31 x30 x29 x8 h kn)) kx2)
theorem epafS (x30 x31 x29 x8 : Value) :
  execK prog C L 0 59 [2,3] cafS [30,31,29,8] [(2,[8])] (fs [(30,x30),(31,x31),(29,x29),(8,x8)]) h K =
   pafS C L x30 x31 x29 x8 h (fun x30 x31 x29 x8 h => K .normal (fs [(30,x30),(31,x31),(29,x29),(8,x8)]) h) (fun x8 h => K (.exit 2) (fs [(8,x8)]) h) := by
 rw [execK_seq (a := cavV) (b := cahC) (by kernel_rfl) (show live [2,3] cahC [30,31,29,8] [(2,[8])] = [32,29,30,31,8] by kernel_rfl),epavV]
 unfold pafS
 exact (congrArg (pavV C L x30 x31 x29 x8 h) (funext fun x32=>funext fun x29=>funext fun x30=>funext fun x31=>funext fun x8=>funext fun h => (seqK_n _ _ _).trans (by rw [execK_seq (a := cavW) (b := cahY) (by kernel_rfl) (show live [2,3] cahY [30,31,29,8] [(2,[8])] = [8,31,30,29] by kernel_rfl),epavW]; exact (congr (congrArg (pavW C L x32 x29 x30 x31 x8 h) (funext fun x8=>funext fun x31=>funext fun x30=>funext fun x29=>funext fun h => (seqK_n _ _ _).trans (by rw [execK_seq (a := cajA) (b := cawA) (by kernel_rfl) (show live [2,3] cawA [30,31,29,8] [(2,[8])] = [31,30,29,8] by kernel_rfl),epajA]; exact (congrArg (pajA C L x8 x31 x30 x29 h) (funext fun x31=>funext fun x30=>funext fun x29=>funext fun x8=>funext fun h => (seqK_n _ _ _).trans (epawA C L h K x31 x30 x29 x8)))))) (funext fun x8=>funext fun h => seqK_x _ _ _ _)))))
noncomputable def payQ (C : CF) (L : Nat) {β : Type} (kx2 : Kv1 β) : Nat → Kv4 β
 | 0,_,_,_,_,_ => none
 | n + 1,x30,x31,x29,x8,h => pafS C L x30 x31 x29 x8 h (fun x30 x31 x29 x8 h => payQ C L kx2 n x30 x31 x29 x8 h) kx2
theorem epayQ (C : CF) (L : Nat) {β : Type} (K : Ex → T Value → Kv0 β) : ∀ (n : Nat) (x30 x31 x29 x8 : Value) (h : H),
  loopK (fun fr h K => execK prog C L 0 59 [2,3] cafS [30,31,29,8] [(2,[8])] fr h K) n (fs [(30,x30),(31,x31),(29,x29),(8,x8)]) h K =
   payQ C L (fun x8 h => K (.exit 2) (fs [(8,x8)]) h) n x30 x31 x29 x8 h := by
 intro n
 induction n with
 | zero => intros; rfl
 | succ n ih =>
  intros
  simp only [loopK]
  rw [epafS]
  simp only [seqK_n,seqK_x,seqK_r,ih]
  rfl
noncomputable def pafC (C : CF) (L : Nat) {β : Type} (x30 x31 x29 x8 : Value) (h : H) (kx2 : Kv1 β) : Option β :=
 payQ C L kx2 L x30 x31 x29 x8 h
theorem epafC (x30 x31 x29 x8 : Value) :
  execK prog C L 0 59 [2,3] cafC [8] [(2,[8])] (fs [(30,x30),(31,x31),(29,x29),(8,x8)]) h K =
   pafC C L x30 x31 x29 x8 h (fun x8 h => K (.exit 2) (fs [(8,x8)]) h) := by
 rw [execK_loop (b := cafS) (fr1 := (fs [(30,x30),(31,x31),(29,x29),(8,x8)])) (by kernel_rfl) (show live [2,3] cafS [] [(2,[8])] = [30,31,29,8] by kernel_rfl) (by kernel_rfl),epayQ]
 unfold pafC
 rfl
noncomputable def paeT (C : CF) (L : Nat) {β : Type} (x30 x31 x29 x8 : Value) (h : H) (kn : Kv1 β) : Option β :=
 pafC C L x30 x31 x29 x8 h kn
theorem epaeT (x30 x31 x29 x8 : Value) :
  execK prog C L 0 59 [2,3] caeT [8] [] (fs [(30,x30),(31,x31),(29,x29),(8,x8)]) h K =
   paeT C L x30 x31 x29 x8 h (fun x8 h => K .normal (fs [(8,x8)]) h) := by
 rw [execK_block (b := cafC) (id := 2) (by kernel_rfl),epafC]
 unfold paeT
 rfl
noncomputable def padZ (C : CF) (L : Nat) {β : Type} (x0 x8 : Value) (h : H) (kn : Kv1 β) : Option β :=
 pavU C L x0 x8 h (fun x30 x31 x29 x8 h => paeT C L x30 x31 x29 x8 h kn)
theorem epadZ (x0 x8 : Value) :
  execK prog C L 0 59 [2,3] cadZ [8] [] (fs [(0,x0),(8,x8)]) h K =
   padZ C L x0 x8 h (fun x8 h => K .normal (fs [(8,x8)]) h) := by
 rw [execK_seq (a := cavU) (b := caeT) (by kernel_rfl) (show live [2,3] caeT [8] [] = [30,31,29,8] by kernel_rfl),epavU]
 unfold padZ
 exact (congrArg (pavU C L x0 x8 h) (funext fun x30=>funext fun x31=>funext fun x29=>funext fun x8=>funext fun h => (seqK_n _ _ _).trans (epaeT C L h K x30 x31 x29 x8)))
noncomputable def cawB : Code := cR cadV
noncomputable def pawB (C : CF) (L : Nat) {β : Type} (x8 : Value) (h : H) (kr : Kv2 β) : Option β :=
 bnd (A.b2s x8 h) fun t58 =>
 kr t58 (.int .i64 0) h
theorem epawB (x8 : Value) :
  execK prog C L 0 59 [2,3] cawB [2,3] [] (fs [(8,x8)]) h K =
   pawB C L x8 h (fun x2 x3 h => K .ret (fs [(2,x2),(3,x3)]) h) := by
 kernel_rfl
noncomputable def p56a (C : CF) (L : Nat) {β : Type} (x0 : Value) (h : H) (kr : Kv2 β) : Option β :=
 pavQ C L x0 h (fun x0 h => pavR C L x0 h (fun x4 x0 h => paiO C L x4 x0 h kr (fun x4 x0 h => pavT C L x4 x0 h (fun x0 x8 h => padZ C L x0 x8 h (fun x8 h => pawB C L x8 h kr)))))
theorem ep56a (x0 : Value) :
  execK prog C L 0 59 [2,3] c56a [2,3] [] (fs [(0,x0)]) h K =
   p56a C L x0 h (fun x2 x3 h => K .ret (fs [(2,x2),(3,x3)]) h) := by
 rw [execK_seq (a := cavQ) (b := cacG) (by kernel_rfl) (show live [2,3] cacG [2,3] [] = [0] by kernel_rfl),epavQ]
 unfold p56a
 exact (congrArg (pavQ C L x0 h) (funext fun x0=>funext fun h => (seqK_n _ _ _).trans (by rw [execK_seq (a := cavR) (b := cacM) (by kernel_rfl) (show live [2,3] cacM [2,3] [] = [4,0] by kernel_rfl),epavR]; exact (congrArg (pavR C L x0 h) (funext fun x4=>funext fun x0=>funext fun h => (seqK_n _ _ _).trans (by rw [execK_seq (a := caiO) (b := cadI) (by kernel_rfl) (show live [2,3] cadI [2,3] [] = [4,0] by kernel_rfl),epaiO]; exact (congr (congrArg (paiO C L x4 x0 h) (funext fun x2=>funext fun x3=>funext fun h => seqK_r _ _ _)) (funext fun x4=>funext fun x0=>funext fun h => (seqK_n _ _ _).trans (by rw [execK_seq (a := cavT) (b := cadV) (by kernel_rfl) (show live [2,3] cadV [2,3] [] = [0,8] by kernel_rfl),epavT]; exact (congrArg (pavT C L x4 x0 h) (funext fun x0=>funext fun x8=>funext fun h => (seqK_n _ _ _).trans (by rw [execK_seq (a := cadZ) (b := cawB) (by kernel_rfl) (show live [2,3] cawB [2,3] [] = [8] by kernel_rfl),epadZ]; exact (congrArg (padZ C L x0 x8 h) (funext fun x8=>funext fun h => (seqK_n _ _ _).trans (epawB C L h K x8)))))))))))))))
noncomputable def F56 (C : CF) (L : Nat) (x0 : Value) (h : H) : Option (Value × H) :=
 p56a C L x0 h
  (fun x2 x3 h => some (.tuple ⟨[x2,x3]⟩,h))
theorem F56eq (Q : Orc) (n : Nat) (x0 : Value) (h : H) (hQ : Q 56 [x0] = none) : callO prog 0 Q (n + 1) 56 [x0] h = F56 (callO prog 0 Q n) n x0 h := by
 rw [callO_eq hQ (c := c56a) (nt := 59) (RR := [2,3]) (fr := (fs [(0,x0)])) Tryz.func56 (by kernel_rfl) (by kernel_rfl) (by kernel_rfl) (by kernel_rfl) (by kernel_rfl),ep56a]
 kernel_rfl
noncomputable def c83a : Code := (Tryz.f83.body).getD .skip
noncomputable def p83a (C : CF) (L : Nat) {β : Type} (x0 : Value) (h : H) (kr : Kv1 β) : Option β :=
 bnd2 (A.box 24 x0 h) fun t1 hq1 =>
 bnd (A.load true 24 t1 hq1) fun t4 =>
 bnd2 (C 85 [t4] hq1) fun t5 hq2 =>
 bnd (A.bin prog .lss 3 t5 (.int .i64 0)) fun t7 =>
 toBK t7 fun b =>
 (bif b then
 kr (.int .i64 0) hq2
 else
 bnd2 (C 105 [t5] hq2) fun t9 hq3 =>
 bnd (A.bin prog .add 3 (.int .i64 1) t9) fun t10 =>
 bnd (A.bin prog .add 3 t10 t5) fun t12 =>
 kr t12 hq3)
theorem ep83a (x0 : Value) :
  execK prog C L 0 13 [2] c83a [2] [] (fs [(0,x0)]) h K =
   p83a C L x0 h (fun x2 h => K .ret (fs [(2,x2)]) h) := by
 kernel_rfl
noncomputable def F83 (C : CF) (L : Nat) (x0 : Value) (h : H) : Option (Value × H) :=
 p83a C L x0 h
  (fun x2 h => some (x2,h))
theorem F83eq (Q : Orc) (n : Nat) (x0 : Value) (h : H) (hQ : Q 83 [x0] = none) : callO prog 0 Q (n + 1) 83 [x0] h = F83 (callO prog 0 Q n) n x0 h := by
 rw [callO_eq hQ (c := c83a) (nt := 13) (RR := [2]) (fr := (fs [(0,x0)])) Tryz.func83 (by kernel_rfl) (by kernel_rfl) (by kernel_rfl) (by kernel_rfl) (by kernel_rfl),ep83a]
 kernel_rfl
noncomputable def c86a : Code := (Tryz.f86.body).getD .skip
noncomputable def canV : Code := cL c86a
noncomputable def panV (C : CF) (L : Nat) {β : Type} (x0 : Value) (h : H) (kn : Kv1 β) : Option β :=
 bnd2 (A.box 24 x0 h) fun t1 hq1 =>
 kn t1 hq1
theorem epanV (x0 : Value) :
  execK prog C L 0 22 [2] canV [1] [] (fs [(0,x0)]) h K =
   panV C L x0 h (fun x1 h => K .normal (fs [(1,x1)]) h) := by
 kernel_rfl
noncomputable def caeG : Code := cR c86a
noncomputable def caeU : Code := cL caeG
noncomputable def canW : Code := cL caeU
noncomputable def panW (C : CF) (L : Nat) {β : Type} (x1 : Value) (h : H) (kn : Kv2 β) : Option β :=
 bnd (A.fieldAddr 0 x1) fun t3 =>
 bnd (A.load false 1 t3 h) fun t4 =>
 kn x1 t4 h
theorem epanW (x1 : Value) :
  execK prog C L 0 22 [2] canW [1,4] [] (fs [(1,x1)]) h K =
   panW C L x1 h (fun x1 x4 h => K .normal (fs [(1,x1),(4,x4)]) h) := by
 kernel_rfl
noncomputable def cafU : Code := cR caeU
noncomputable def cagP : Code := cL cafU
noncomputable def canX : Code := cL cagP
noncomputable def panX (C : CF) (L : Nat) {β : Type} (x1 x4 : Value) (h : H) (kn : Kv3 β) : Option β :=
 bnd (A.bin prog .eql 5 x4 (.int .u8 3)) fun t6 =>
 toBK t6 fun b =>
 kn (.bool b) x1 x4 h
theorem epanX (x1 x4 : Value) :
  execK prog C L 0 22 [2] canX [5,1,4] [(0,[])] (fs [(1,x1),(4,x4)]) h K =
   panX C L x1 x4 h (fun x5 x1 x4 h => K .normal (fs [(5,x5),(1,x1),(4,x4)]) h) := by
 kernel_rfl
noncomputable def caiM : Code := cR cagP
noncomputable def cayH : Code := cL caiM
noncomputable def payH (C : CF) (L : Nat) {β : Type} (x5 x1 x4 : Value) (h : H) (kr : Kv1 β) : Option β :=
 bnd (A.fieldAddr 1 x1) fun t7 =>
 bnd (A.load false 1 t7 h) fun t8 =>
 toBK t8 fun b =>
 bnd2 (C 112 [(.bool b),(.int .u64 3)] h) fun t9 hq1 =>
 bnd (A.fieldAddr 2 x1) fun t10 =>
 bnd (A.load false 1 t10 hq1) fun t11 =>
 bif (chk (bnd (A.load false 1 t10 h) fun v => some v) t11 && true) then
 bnd (A.bin prog .shl 5 t11 (.int .u64 1)) fun t12 =>
 bnd (A.bin prog .or 5 t9 t12) fun t13 =>
 bnd (A.fieldAddr 3 x1) fun t14 =>
 bnd (A.load false 1 t14 hq1) fun t15 =>
 toBK t15 fun bq1 =>
 bif (chk (bnd (A.load false 1 t14 h) fun v => some v) (.bool bq1) && true) then
 bnd2 (C 112 [(.bool bq1),(.int .u64 0)] hq1) fun t16 hq2 =>
 bif (chk (bnd (A.load false 1 t10 hq2) fun v => some v) t11 && true) then
 bnd (A.bin prog .or 5 t13 t16) fun t17 =>
 kr t17 hq2
 else none
 else none
 else none
theorem epayH (x5 x1 x4 : Value) :
  execK prog C L 0 22 [2] cayH [] [(0,[])] (fs [(5,x5),(1,x1),(4,x4)]) h K =
   payH C L x5 x1 x4 h (fun x2 h => K .ret (fs [(2,x2)]) h) := by
 kernel_rfl
noncomputable def cakH : Code := cR caiM
noncomputable def caoS : Code := cL cakH
noncomputable def paoS (C : CF) (L : Nat) {β : Type} (x5 x1 x4 : Value) (h : H) (kn : Kv1 β) : Option β :=
 bnd (A.bin prog .eql 5 x4 (.int .u8 6)) fun t19 =>
 toBK t19 fun b =>
 (bif b then
 kn (.bool b) h
 else
 bnd (A.bin prog .eql 5 x4 (.int .u8 8)) fun t20 =>
 toBK t20 fun bq1 =>
 (bif bq1 then
 kn (.bool bq1) h
 else
 bnd (A.bin prog .eql 5 x4 (.int .u8 10)) fun t21 =>
 toBK t21 fun bq2 =>
 kn (.bool bq2) h))
theorem epaoS (x5 x1 x4 : Value) :
  execK prog C L 0 22 [2] caoS [18] [(0,[])] (fs [(5,x5),(1,x1),(4,x4)]) h K =
   paoS C L x5 x1 x4 h (fun x18 h => K .normal (fs [(18,x18)]) h) := by
 kernel_rfl
noncomputable def caoT : Code := cR cakH
noncomputable def paoT (C : CF) (L : Nat) {β : Type} (x18 : Value) (h : H) (kr : Kv1 β) (kn : Kv0 β) : Option β :=
 condV x18 (
 kr (.int .u8 2) h) (
 kn h)
theorem epaoT (x18 : Value) :
  execK prog C L 0 22 [2] caoT [] [(0,[])] (fs [(18,x18)]) h K =
   paoT C L x18 h (fun x2 h => K .ret (fs [(2,x2)]) h) (fun h => K .normal (fs []) h) := by
 kernel_rfl
noncomputable def pakH (C : CF) (L : Nat) {β : Type} (x5 x1 x4 : Value) (h : H) (kr : Kv1 β) (kn : Kv0 β) : Option β :=
 paoS C L x5 x1 x4 h (fun x18 h => paoT C L x18 h kr kn)
theorem epakH (x5 x1 x4 : Value) :
  execK prog C L 0 22 [2] cakH [] [(0,[])] (fs [(5,x5),(1,x1),(4,x4)]) h K =
   pakH C L x5 x1 x4 h (fun x2 h => K .ret (fs [(2,x2)]) h) (fun h => K .normal (fs []) h) := by
 rw [execK_seq (a := caoS) (b := caoT) (by kernel_rfl) (show live [2] caoT [] [(0,[])] = [18] by kernel_rfl),epaoS]
 unfold pakH
 exact (congrArg (paoS C L x5 x1 x4 h) (funext fun x18=>funext fun h => (seqK_n _ _ _).trans (epaoT C L h K x18)))
noncomputable def paiM (C : CF) (L : Nat) {β : Type} (x5 x1 x4 : Value) (h : H) (kr : Kv1 β) (kn : Kv0 β) : Option β :=
 condV x5 (payH C L x5 x1 x4 h kr) (pakH C L x5 x1 x4 h kr kn)
theorem epaiM (x5 x1 x4 : Value) :
  execK prog C L 0 22 [2] caiM [] [(0,[])] (fs [(5,x5),(1,x1),(4,x4)]) h K =
   paiM C L x5 x1 x4 h (fun x2 h => K .ret (fs [(2,x2)]) h) (fun h => K .normal (fs []) h) := by
 rw [execK_cond (a := cayH) (b := cakH) (x := (.tmp 5)) (v := x5) (by kernel_rfl) (by kernel_rfl),epayH,epakH]
 unfold paiM
 rfl
noncomputable def pagP (C : CF) (L : Nat) {β : Type} (x1 x4 : Value) (h : H) (kr : Kv1 β) (kn : Kv0 β) : Option β :=
 panX C L x1 x4 h (fun x5 x1 x4 h => paiM C L x5 x1 x4 h kr kn)
theorem epagP (x1 x4 : Value) :
  execK prog C L 0 22 [2] cagP [] [(0,[])] (fs [(1,x1),(4,x4)]) h K =
   pagP C L x1 x4 h (fun x2 h => K .ret (fs [(2,x2)]) h) (fun h => K .normal (fs []) h) := by
 rw [execK_seq (a := canX) (b := caiM) (by kernel_rfl) (show live [2] caiM [] [(0,[])] = [5,1,4] by kernel_rfl),epanX]
 unfold pagP
 exact (congrArg (panX C L x1 x4 h) (funext fun x5=>funext fun x1=>funext fun x4=>funext fun h => (seqK_n _ _ _).trans (epaiM C L h K x5 x1 x4)))
noncomputable def pafU (C : CF) (L : Nat) {β : Type} (x1 x4 : Value) (h : H) (kr : Kv1 β) (kn : Kv0 β) : Option β :=
 pagP C L x1 x4 h kr kn
theorem epafU (x1 x4 : Value) :
  execK prog C L 0 22 [2] cafU [] [] (fs [(1,x1),(4,x4)]) h K =
   pafU C L x1 x4 h (fun x2 h => K .ret (fs [(2,x2)]) h) (fun h => K .normal (fs []) h) := by
 rw [execK_block (b := cagP) (id := 0) (by kernel_rfl),epagP]
 unfold pafU
 rfl
noncomputable def paeU (C : CF) (L : Nat) {β : Type} (x1 : Value) (h : H) (kr : Kv1 β) (kn : Kv0 β) : Option β :=
 panW C L x1 h (fun x1 x4 h => pafU C L x1 x4 h kr kn)
theorem epaeU (x1 : Value) :
  execK prog C L 0 22 [2] caeU [] [] (fs [(1,x1)]) h K =
   paeU C L x1 h (fun x2 h => K .ret (fs [(2,x2)]) h) (fun h => K .normal (fs []) h) := by
 rw [execK_seq (a := canW) (b := cafU) (by kernel_rfl) (show live [2] cafU [] [] = [1,4] by kernel_rfl),epanW]
 unfold paeU
 exact (congrArg (panW C L x1 h) (funext fun x1=>funext fun x4=>funext fun h => (seqK_n _ _ _).trans (epafU C L h K x1 x4)))
noncomputable def caxG : Code := cR caeG
noncomputable def paxG (C : CF) (L : Nat) {β : Type} (h : H) (kr : Kv1 β) : Option β :=
 kr (.int .u8 0) h
theorem epaxG :
  execK prog C L 0 22 [2] caxG [2] [] (fs []) h K =
   paxG C L h (fun x2 h => K .ret (fs [(2,x2)]) h) := by
 kernel_rfl
noncomputable def p86a (C : CF) (L : Nat) {β : Type} (x0 : Value) (h : H) (kr : Kv1 β) : Option β :=
 panV C L x0 h (fun x1 h => paeU C L x1 h kr (fun h => paxG C L h kr))
theorem ep86a (x0 : Value) :
  execK prog C L 0 22 [2] c86a [2] [] (fs [(0,x0)]) h K =
   p86a C L x0 h (fun x2 h => K .ret (fs [(2,x2)]) h) := by
 rw [execK_seq (a := canV) (b := caeG) (by kernel_rfl) (show live [2] caeG [2] [] = [1] by kernel_rfl),epanV]
 unfold p86a
 exact (congrArg (panV C L x0 h) (funext fun x1=>funext fun h => (seqK_n _ _ _).trans (by rw [execK_seq (a := caeU) (b := caxG) (by kernel_rfl) (show live [2] caxG [2] [] = [] by kernel_rfl),epaeU]; exact (congr (congrArg (paeU C L x1 h) (funext fun x2=>funext fun h => seqK_r _ _ _)) (funext fun h => (seqK_n _ _ _).trans (epaxG C L h K))))))
noncomputable def F86 (C : CF) (L : Nat) (x0 : Value) (h : H) : Option (Value × H) :=
 p86a C L x0 h
  (fun x2 h => some (x2,h))
theorem F86eq (Q : Orc) (n : Nat) (x0 : Value) (h : H) (hQ : Q 86 [x0] = none) : callO prog 0 Q (n + 1) 86 [x0] h = F86 (callO prog 0 Q n) n x0 h := by
 rw [callO_eq hQ (c := c86a) (nt := 22) (RR := [2]) (fr := (fs [(0,x0)])) Tryz.func86 (by kernel_rfl) (by kernel_rfl) (by kernel_rfl) (by kernel_rfl) (by kernel_rfl),ep86a]
 kernel_rfl
noncomputable def c87a : Code := (Tryz.f87.body).getD .skip
noncomputable def casX : Code := cL c87a
noncomputable def pasX (C : CF) (L : Nat) {β : Type} (x0 x1 : Value) (h : H) (kn : Kv2 β) : Option β :=
 bnd2 (A.box 24 x1 h) fun t3 hq1 =>
 kn x0 t3 hq1
theorem epasX (x0 x1 : Value) :
  execK prog C L 0 65 [4] casX [0,3] [] (fs [(0,x0),(1,x1)]) h K =
   pasX C L x0 x1 h (fun x0 x3 h => K .normal (fs [(0,x0),(3,x3)]) h) := by
 kernel_rfl
noncomputable def cadC : Code := cR c87a
noncomputable def cagJ : Code := cL cadC
noncomputable def capY : Code := cL cagJ
noncomputable def papY (C : CF) (L : Nat) {β : Type} (x0 x3 : Value) (h : H) (kn : Kv3 β) : Option β :=
 bnd (A.fieldAddr 0 x3) fun t7 =>
 bnd (A.load false 1 t7 h) fun t8 =>
 kn t8 x0 x3 h
theorem epapY (x0 x3 : Value) :
  execK prog C L 0 65 [4] capY [8,0,3] [] (fs [(0,x0),(3,x3)]) h K =
   papY C L x0 x3 h (fun x8 x0 x3 h => K .normal (fs [(8,x8),(0,x0),(3,x3)]) h) := by
 kernel_rfl
noncomputable def cahZ : Code := cR cagJ
noncomputable def caiY : Code := cL cahZ
noncomputable def capZ : Code := cL caiY
noncomputable def papZ (C : CF) (L : Nat) {β : Type} (x8 x0 x3 : Value) (h : H) (kn : Kv4 β) : Option β :=
 bnd (A.bin prog .eql 5 x8 (.int .u8 1)) fun t10 =>
 toBK t10 fun b =>
 kn (.bool b) x8 x0 x3 h
theorem epapZ (x8 x0 x3 : Value) :
  execK prog C L 0 65 [4] capZ [9,8,0,3] [(0,[0,3])] (fs [(8,x8),(0,x0),(3,x3)]) h K =
   papZ C L x8 x0 x3 h (fun x9 x8 x0 x3 h => K .normal (fs [(9,x9),(8,x8),(0,x0),(3,x3)]) h) := by
 kernel_rfl
noncomputable def calI : Code := cR caiY
noncomputable def cayI : Code := cL calI
noncomputable def payI (C : CF) (L : Nat) {β : Type} (x9 x8 x0 x3 : Value) (h : H) (kr : Kv1 β) : Option β :=
 bnd (A.load true 24 x3 h) fun t12 =>
 bnd2 (C 113 [x0,t12] h) fun t13 hq1 =>
 kr t13 hq1
theorem epayI (x9 x8 x0 x3 : Value) :
  execK prog C L 0 65 [4] cayI [0,3] [(0,[0,3])] (fs [(9,x9),(8,x8),(0,x0),(3,x3)]) h K =
   payI C L x9 x8 x0 x3 h (fun x4 h => K .ret (fs [(4,x4)]) h) := by
 kernel_rfl
noncomputable def caxH : Code := cR calI
noncomputable def paxH (C : CF) (L : Nat) {β : Type} (x9 x8 x0 x3 : Value) (h : H) (kr : Kv1 β) (kn : Kv2 β) : Option β :=
 bnd (A.bin prog .eql 5 x8 (.int .u8 2)) fun t15 =>
 toBK t15 fun b =>
 (bif b then
 bnd (A.fieldAddr 20 x3) fun t17 =>
 bnd (A.load false 1 t17 h) fun t18 =>
 toBK t18 fun bq1 =>
 bnd2 (C 112 [(.bool bq1),(.int .u64 0)] h) fun t19 hq1 =>
 bnd (A.fieldAddr 21 x3) fun t20 =>
 bnd (A.load false 1 t20 hq1) fun t21 =>
 bif (chk (bnd (A.load false 1 t20 h) fun v => some v) t21 && true) then
 bnd2 (A.buildSlice 1 2 Z5L [(0,1,t19),(1,1,t21)] hq1) fun t22 hq2 =>
 bnd2 (A.append 1 1 x0 t22 hq2) fun t23 hq3 =>
 kr t23 hq3
 else none
 else
 bnd (A.bin prog .eql 5 x8 (.int .u8 3)) fun t25 =>
 toBK t25 fun bq2 =>
 (bif bq2 then
 bnd (A.fieldAddr 5 x3) fun t27 =>
 bnd (A.load false 1 t27 h) fun t28 =>
 bnd2 (C 114 [x0,t28] h) fun t29 hq4 =>
 kn t29 x3 hq4
 else
 kn x0 x3 h))
theorem epaxH (x9 x8 x0 x3 : Value) :
  execK prog C L 0 65 [4] caxH [0,3] [(0,[0,3])] (fs [(9,x9),(8,x8),(0,x0),(3,x3)]) h K =
   paxH C L x9 x8 x0 x3 h (fun x4 h => K .ret (fs [(4,x4)]) h) (fun x0 x3 h => K .normal (fs [(0,x0),(3,x3)]) h) := by
 kernel_rfl
noncomputable def palI (C : CF) (L : Nat) {β : Type} (x9 x8 x0 x3 : Value) (h : H) (kr : Kv1 β) (kn : Kv2 β) : Option β :=
 condV x9 (payI C L x9 x8 x0 x3 h kr) (paxH C L x9 x8 x0 x3 h kr kn)
theorem epalI (x9 x8 x0 x3 : Value) :
  execK prog C L 0 65 [4] calI [0,3] [(0,[0,3])] (fs [(9,x9),(8,x8),(0,x0),(3,x3)]) h K =
   palI C L x9 x8 x0 x3 h (fun x4 h => K .ret (fs [(4,x4)]) h) (fun x0 x3 h => K .normal (fs [(0,x0),(3,x3)]) h) := by
 rw [execK_cond (a := cayI) (b := caxH) (x := (.tmp 9)) (v := x9) (by kernel_rfl) (by kernel_rfl),epayI,epaxH]
 unfold palI
 rfl
noncomputable def paiY (C : CF) (L : Nat) {β : Type} (x8 x0 x3 : Value) (h : H) (kr : Kv1 β) (kn : Kv2 β) : Option β :=
 papZ C L x8 x0 x3 h (fun x9 x8 x0 x3 h => palI C L x9 x8 x0 x3 h kr kn)
theorem epaiY (x8 x0 x3 : Value) :
  execK prog C L 0 65 [4] caiY [0,3] [(0,[0,3])] (fs [(8,x8),(0,x0),(3,x3)]) h K =
   paiY C L x8 x0 x3 h (fun x4 h => K .ret (fs [(4,x4)]) h) (fun x0 x3 h => K .normal (fs [(0,x0),(3,x3)]) h) := by
 rw [execK_seq (a := capZ) (b := calI) (by kernel_rfl) (show live [4] calI [0,3] [(0,[0,3])] = [9,8,0,3] by kernel_rfl),epapZ]
 unfold paiY
 exact (congrArg (papZ C L x8 x0 x3 h) (funext fun x9=>funext fun x8=>funext fun x0=>funext fun x3=>funext fun h => (seqK_n _ _ _).trans (epalI C L h K x9 x8 x0 x3)))
noncomputable def pahZ (C : CF) (L : Nat) {β : Type} (x8 x0 x3 : Value) (h : H) (kr : Kv1 β) (kn : Kv2 β) : Option β :=
 paiY C L x8 x0 x3 h kr kn
theorem epahZ (x8 x0 x3 : Value) :
  execK prog C L 0 65 [4] cahZ [0,3] [] (fs [(8,x8),(0,x0),(3,x3)]) h K =
   pahZ C L x8 x0 x3 h (fun x4 h => K .ret (fs [(4,x4)]) h) (fun x0 x3 h => K .normal (fs [(0,x0),(3,x3)]) h) := by
 rw [execK_block (b := caiY) (id := 0) (by kernel_rfl),epaiY]
 unfold pahZ
 rfl
noncomputable def pagJ (C : CF) (L : Nat) {β : Type} (x0 x3 : Value) (h : H) (kr : Kv1 β) (kn : Kv2 β) : Option β :=
 papY C L x0 x3 h (fun x8 x0 x3 h => pahZ C L x8 x0 x3 h kr kn)
theorem epagJ (x0 x3 : Value) :
  execK prog C L 0 65 [4] cagJ [0,3] [] (fs [(0,x0),(3,x3)]) h K =
   pagJ C L x0 x3 h (fun x4 h => K .ret (fs [(4,x4)]) h) (fun x0 x3 h => K .normal (fs [(0,x0),(3,x3)]) h) := by
 rw [execK_seq (a := capY) (b := cahZ) (by kernel_rfl) (show live [4] cahZ [0,3] [] = [8,0,3] by kernel_rfl),epapY]
 unfold pagJ
 exact (congrArg (papY C L x0 x3 h) (funext fun x8=>funext fun x0=>funext fun x3=>funext fun h => (seqK_n _ _ _).trans (epahZ C L h K x8 x0 x3)))
noncomputable def cafX : Code := cR cadC
noncomputable def caqA : Code := cL cafX
noncomputable def paqA (C : CF) (L : Nat) {β : Type} (x0 x3 : Value) (h : H) (kn : Kv2 β) : Option β :=
 bnd (A.fieldAddr 4 x3) fun t30 =>
 bnd (A.load false 1 t30 h) fun t31 =>
 bnd (A.bin prog .gtr 72 t31 (.int .u16 0)) fun t32 =>
 toBK t32 fun b =>
 (bif b then
 bnd (A.fieldAddr 4 x3) fun t34 =>
 bnd (A.load false 1 t34 h) fun t35 =>
 bnd2 (C 115 [x0,t35] h) fun t36 hq1 =>
 kn t36 x3 hq1
 else
 kn x0 x3 h)
theorem epaqA (x0 x3 : Value) :
  execK prog C L 0 65 [4] caqA [0,3] [] (fs [(0,x0),(3,x3)]) h K =
   paqA C L x0 x3 h (fun x0 x3 h => K .normal (fs [(0,x0),(3,x3)]) h) := by
 kernel_rfl
noncomputable def cahI : Code := cR cafX
noncomputable def caiE : Code := cL cahI
noncomputable def caxI : Code := cL caiE
noncomputable def paxI (C : CF) (L : Nat) {β : Type} (x0 x3 : Value) (h : H) (kn : Kv5 β) : Option β :=
 bnd (A.fieldAddr 22 x3) fun t37 =>
 bnd (A.load false 1 t37 h) fun t38 =>
 bnd (A.lenS t38) fun t39 =>
 kn t39 (.int .i64 0) t38 x0 x3 h
theorem epaxI (x0 x3 : Value) :
  execK prog C L 0 65 [4] caxI [39,40,38,0,3] [] (fs [(0,x0),(3,x3)]) h K =
   paxI C L x0 x3 h (fun x39 x40 x38 x0 x3 h => K .normal (fs [(39,x39),(40,x40),(38,x38),(0,x0),(3,x3)]) h) := by
 kernel_rfl
noncomputable def cajX : Code := cR caiE
noncomputable def calJ : Code := cL cajX
noncomputable def caoU : Code := cL calJ
noncomputable def paoU (C : CF) (L : Nat) {β : Type} (x39 x40 x38 x0 x3 : Value) (h : H) (kn : Kv5 β) (kx1 : Kv2 β) : Option β :=
 bnd (A.bin prog .lss 3 x40 x39) fun t41 =>
 condV t41 (
 bnd (A.idxS 2 x38 x40) fun t42 =>
 bnd (A.load true 2 t42 h) fun t43 =>
 bnd2 (A.box 2 Z110 h) fun t6 hq1 =>
 bnd (A.store 2 t6 t43 hq1) fun hq2 =>
 bnd (A.fieldAddr 0 t6) fun t45 =>
 bnd (A.load false 1 t45 hq2) fun t46 =>
 bnd2 (C 114 [x0,t46] hq2) fun t47 hq3 =>
 bnd (A.fieldAddr 0 x3) fun t48 =>
 bnd (A.load false 1 t48 hq3) fun t49 =>
 bnd (A.bin prog .eql 5 t49 (.int .u8 8)) fun t50 =>
 toBK t50 fun b =>
 (bif b then
 bnd (A.fieldAddr 1 t6) fun t52 =>
 bnd (A.load false 1 t52 hq3) fun t53 =>
 bnd2 (A.buildSlice 1 1 Z5L [(0,1,t53)] hq3) fun t54 hq4 =>
 bnd2 (A.append 1 1 t47 t54 hq4) fun t55 hq5 =>
 bnd (A.bin prog .add 3 x40 (.int .i64 1)) fun t56 =>
 kn x39 t56 x38 t55 x3 hq5
 else
 bnd (A.bin prog .add 3 x40 (.int .i64 1)) fun t56q1 =>
 kn x39 t56q1 x38 t47 x3 hq3)) (
 kx1 x0 x3 h)
theorem epaoU (x39 x40 x38 x0 x3 : Value) :
  execK prog C L 0 65 [4] caoU [39,40,38,0,3] [(1,[0,3])] (fs [(39,x39),(40,x40),(38,x38),(0,x0),(3,x3)]) h K =
   paoU C L x39 x40 x38 x0 x3 h (fun x39 x40 x38 x0 x3 h => K .normal (fs [(39,x39),(40,x40),(38,x38),(0,x0),(3,x3)]) h) (fun x0 x3 h => K (.exit 1) (fs [(0,x0),(3,x3)]) h) := by
 kernel_rfl
noncomputable def paxJ (C : CF) (L : Nat) {β : Type} (kx1 : Kv2 β) : Nat → Kv5 β
 | 0,_,_,_,_,_,_ => none
 | n + 1,x39,x40,x38,x0,x3,h => paoU C L x39 x40 x38 x0 x3 h (fun x39 x40 x38 x0 x3 h => paxJ C L kx1 n x39 x40 x38 x0 x3 h) kx1
theorem epaxJ (C : CF) (L : Nat) {β : Type} (K : Ex → T Value → Kv0 β) : ∀ (n : Nat) (x39 x40 x38 x0 x3 : Value) (h : H),
  loopK (fun fr h K => execK prog C L 0 65 [4] caoU [39,40,38,0,3] [(1,[0,3])] fr h K) n (fs [(39,x39),(40,x40),(38,x38),(0,x0),(3,x3)]) h K =
   paxJ C L (fun x0 x3 h => K (.exit 1) (fs [(0,x0),(3,x3)]) h) n x39 x40 x38 x0 x3 h := by
 intro n
 induction n with
 | zero => intros; rfl
 | succ n ih =>
  intros
  simp only [loopK]
  rw [epaoU]
  simp only [seqK_n,seqK_x,seqK_r,ih]
  rfl
noncomputable def palJ (C : CF) (L : Nat) {β : Type} (x39 x40 x38 x0 x3 : Value) (h : H) (kx1 : Kv2 β) : Option β :=
 paxJ C L kx1 L x39 x40 x38 x0 x3 h
theorem epalJ (x39 x40 x38 x0 x3 : Value) :
  execK prog C L 0 65 [4] calJ [0,3] [(1,[0,3])] (fs [(39,x39),(40,x40),(38,x38),(0,x0),(3,x3)]) h K =
   palJ C L x39 x40 x38 x0 x3 h (fun x0 x3 h => K (.exit 1) (fs [(0,x0),(3,x3)]) h) := by
 rw [execK_loop (b := caoU) (fr1 := (fs [(39,x39),(40,x40),(38,x38),(0,x0),(3,x3)])) (by kernel_rfl) (show live [4] caoU [] [(1,[0,3])] = [39,40,38,0,3] by kernel_rfl) (by kernel_rfl),epaxJ]
 unfold palJ
 rfl
noncomputable def pajX (C : CF) (L : Nat) {β : Type} (x39 x40 x38 x0 x3 : Value) (h : H) (kn : Kv2 β) : Option β :=
 palJ C L x39 x40 x38 x0 x3 h kn
theorem epajX (x39 x40 x38 x0 x3 : Value) :
  execK prog C L 0 65 [4] cajX [0,3] [] (fs [(39,x39),(40,x40),(38,x38),(0,x0),(3,x3)]) h K =
   pajX C L x39 x40 x38 x0 x3 h (fun x0 x3 h => K .normal (fs [(0,x0),(3,x3)]) h) := by
 rw [execK_block (b := calJ) (id := 1) (by kernel_rfl),epalJ]
 unfold pajX
 rfl
noncomputable def paiE (C : CF) (L : Nat) {β : Type} (x0 x3 : Value) (h : H) (kn : Kv2 β) : Option β :=
 paxI C L x0 x3 h (fun x39 x40 x38 x0 x3 h => pajX C L x39 x40 x38 x0 x3 h kn)
theorem epaiE (x0 x3 : Value) :
  execK prog C L 0 65 [4] caiE [0,3] [] (fs [(0,x0),(3,x3)]) h K =
   paiE C L x0 x3 h (fun x0 x3 h => K .normal (fs [(0,x0),(3,x3)]) h) := by
 rw [execK_seq (a := caxI) (b := cajX) (by kernel_rfl) (show live [4] cajX [0,3] [] = [39,40,38,0,3] by kernel_rfl),epaxI]
 unfold paiE
 exact (congrArg (paxI C L x0 x3 h) (funext fun x39=>funext fun x40=>funext fun x38=>funext fun x0=>funext fun x3=>funext fun h => (seqK_n _ _ _).trans (epajX C L h K x39 x40 x38 x0 x3)))
noncomputable def casY : Code := cR cahI
noncomputable def pasY (C : CF) (L : Nat) {β : Type} (x0 x3 : Value) (h : H) (kr : Kv1 β) : Option β :=
 bnd (A.fieldAddr 23 x3) fun t58 =>
 bnd (A.load false 1 t58 h) fun t59 =>
 bnd2 (A.append 1 1 x0 t59 h) fun t60 hq1 =>
 bnd (A.fieldAddr 6 x3) fun t62 =>
 bnd (A.load false 1 t62 hq1) fun t63 =>
 bnd2 (A.append 1 1 t60 t63 hq1) fun t64 hq2 =>
 kr t64 hq2
theorem epasY (x0 x3 : Value) :
  execK prog C L 0 65 [4] casY [4] [] (fs [(0,x0),(3,x3)]) h K =
   pasY C L x0 x3 h (fun x4 h => K .ret (fs [(4,x4)]) h) := by
 kernel_rfl
noncomputable def pafX (C : CF) (L : Nat) {β : Type} (x0 x3 : Value) (h : H) (kr : Kv1 β) : Option β :=
 paqA C L x0 x3 h (fun x0 x3 h => paiE C L x0 x3 h (fun x0 x3 h => pasY C L x0 x3 h kr))
theorem epafX (x0 x3 : Value) :
  execK prog C L 0 65 [4] cafX [4] [] (fs [(0,x0),(3,x3)]) h K =
   pafX C L x0 x3 h (fun x4 h => K .ret (fs [(4,x4)]) h) := by
 rw [execK_seq (a := caqA) (b := cahI) (by kernel_rfl) (show live [4] cahI [4] [] = [0,3] by kernel_rfl),epaqA]
 unfold pafX
 exact (congrArg (paqA C L x0 x3 h) (funext fun x0=>funext fun x3=>funext fun h => (seqK_n _ _ _).trans (by rw [execK_seq (a := caiE) (b := casY) (by kernel_rfl) (show live [4] casY [4] [] = [0,3] by kernel_rfl),epaiE]; exact (congrArg (paiE C L x0 x3 h) (funext fun x0=>funext fun x3=>funext fun h => (seqK_n _ _ _).trans (epasY C L h K x0 x3))))))
noncomputable def p87a (C : CF) (L : Nat) {β : Type} (x0 x1 : Value) (h : H) (kr : Kv1 β) : Option β :=
 pasX C L x0 x1 h (fun x0 x3 h => pagJ C L x0 x3 h kr (fun x0 x3 h => pafX C L x0 x3 h kr))
theorem ep87a (x0 x1 : Value) :
  execK prog C L 0 65 [4] c87a [4] [] (fs [(0,x0),(1,x1)]) h K =
   p87a C L x0 x1 h (fun x4 h => K .ret (fs [(4,x4)]) h) := by
 rw [execK_seq (a := casX) (b := cadC) (by kernel_rfl) (show live [4] cadC [4] [] = [0,3] by kernel_rfl),epasX]
 unfold p87a
 exact (congrArg (pasX C L x0 x1 h) (funext fun x0=>funext fun x3=>funext fun h => (seqK_n _ _ _).trans (by rw [execK_seq (a := cagJ) (b := cafX) (by kernel_rfl) (show live [4] cafX [4] [] = [0,3] by kernel_rfl),epagJ]; exact (congr (congrArg (pagJ C L x0 x3 h) (funext fun x4=>funext fun h => seqK_r _ _ _)) (funext fun x0=>funext fun x3=>funext fun h => (seqK_n _ _ _).trans (epafX C L h K x0 x3))))))
noncomputable def F87 (C : CF) (L : Nat) (x0 x1 : Value) (h : H) : Option (Value × H) :=
 p87a C L x0 x1 h
  (fun x4 h => some (x4,h))
theorem F87eq (Q : Orc) (n : Nat) (x0 x1 : Value) (h : H) (hQ : Q 87 [x0,x1] = none) : callO prog 0 Q (n + 1) 87 [x0,x1] h = F87 (callO prog 0 Q n) n x0 x1 h := by
 rw [callO_eq hQ (c := c87a) (nt := 65) (RR := [4]) (fr := (fs [(0,x0),(1,x1)])) Tryz.func87 (by kernel_rfl) (by kernel_rfl) (by kernel_rfl) (by kernel_rfl) (by kernel_rfl),ep87a]
 kernel_rfl
noncomputable def c112a : Code := (Tryz.f112.body).getD .skip
noncomputable def p112a (C : CF) (L : Nat) {β : Type} (x0 x1 : Value) (h : H) (kr : Kv1 β) : Option β :=
 toBK x0 fun b =>
 (bif b then
 bnd (A.bin prog .shl 5 (.int .u8 1) x1) fun t7 =>
 kr t7 h
 else
 kr (.int .u8 0) h)
theorem ep112a (x0 x1 : Value) :
  execK prog C L 0 8 [4] c112a [4] [] (fs [(0,x0),(1,x1)]) h K =
   p112a C L x0 x1 h (fun x4 h => K .ret (fs [(4,x4)]) h) := by
 kernel_rfl
noncomputable def F112 (C : CF) (L : Nat) (x0 x1 : Value) (h : H) : Option (Value × H) :=
 p112a C L x0 x1 h
  (fun x4 h => some (x4,h))
theorem F112eq (Q : Orc) (n : Nat) (x0 x1 : Value) (h : H) (hQ : Q 112 [x0,x1] = none) : callO prog 0 Q (n + 1) 112 [x0,x1] h = F112 (callO prog 0 Q n) n x0 x1 h := by
 rw [callO_eq hQ (c := c112a) (nt := 8) (RR := [4]) (fr := (fs [(0,x0),(1,x1)])) Tryz.func112 (by kernel_rfl) (by kernel_rfl) (by kernel_rfl) (by kernel_rfl) (by kernel_rfl),ep112a]
 kernel_rfl
noncomputable def c113a : Code := (Tryz.f113.body).getD .skip
noncomputable def caqP : Code := cL c113a
noncomputable def paqP (C : CF) (L : Nat) {β : Type} (x0 x1 : Value) (h : H) (kn : Kv2 β) : Option β :=
 bnd2 (A.box 24 x1 h) fun t3 hq1 =>
 kn x0 t3 hq1
theorem epaqP (x0 x1 : Value) :
  execK prog C L 0 68 [4] caqP [0,3] [] (fs [(0,x0),(1,x1)]) h K =
   paqP C L x0 x1 h (fun x0 x3 h => K .normal (fs [(0,x0),(3,x3)]) h) := by
 kernel_rfl
noncomputable def cahV : Code := cR c113a
noncomputable def caqQ : Code := cL cahV
noncomputable def paqQ (C : CF) (L : Nat) {β : Type} (x0 x3 : Value) (h : H) (kn : Kv2 β) : Option β :=
 bnd2 (C 114 [x0,(.string ⟨⟨[77,81,84,84]⟩⟩)] h) fun t6 hq1 =>
 kn t6 x3 hq1
theorem epaqQ (x0 x3 : Value) :
  execK prog C L 0 68 [4] caqQ [0,3] [] (fs [(0,x0),(3,x3)]) h K =
   paqQ C L x0 x3 h (fun x0 x3 h => K .normal (fs [(0,x0),(3,x3)]) h) := by
 kernel_rfl
noncomputable def caiZ : Code := cR cahV
noncomputable def caqR : Code := cL caiZ
noncomputable def paqR (C : CF) (L : Nat) {β : Type} (x0 x3 : Value) (h : H) (kn : Kv2 β) : Option β :=
 bnd (A.fieldAddr 7 x3) fun t8 =>
 bnd (A.load false 1 t8 h) fun t9 =>
 bnd (A.fieldAddr 16 x3) fun t10 =>
 bnd (A.load false 1 t10 h) fun t11 =>
 toBK t11 fun b =>
 bnd2 (C 112 [(.bool b),(.int .u64 7)] h) fun t12 hq1 =>
 bif (chk (bnd (A.load false 1 t8 hq1) fun v => some v) t9 && true) then
 bnd (A.fieldAddr 17 x3) fun t13 =>
 bnd (A.load false 1 t13 hq1) fun t14 =>
 toBK t14 fun bq1 =>
 bif (chk (bnd (A.load false 1 t13 h) fun v => some v) (.bool bq1) && true) then
 bnd2 (C 112 [(.bool bq1),(.int .u64 6)] hq1) fun t15 hq2 =>
 bif (chk (bnd (A.load false 1 t8 hq2) fun v => some v) t9 && true) then
 bnd (A.bin prog .or 5 t12 t15) fun t16 =>
 bnd (A.fieldAddr 12 x3) fun t17 =>
 bnd (A.fieldAddr 3 t17) fun t18 =>
 bnd (A.load false 1 t18 hq2) fun t19 =>
 toBK t19 fun bq2 =>
 bif (chk (bnd (A.load false 1 t18 hq1) fun v => some v) (.bool bq2) && (chk (bnd (A.load false 1 t18 h) fun v => some v) (.bool bq2) && true)) then
 bnd2 (C 112 [(.bool bq2),(.int .u64 5)] hq2) fun t20 hq3 =>
 bif (chk (bnd (A.load false 1 t8 hq3) fun v => some v) t9 && true) then
 bnd (A.bin prog .or 5 t16 t20) fun t21 =>
 bnd (A.fieldAddr 12 x3) fun t22 =>
 bnd (A.fieldAddr 2 t22) fun t23 =>
 bnd (A.load false 1 t23 hq3) fun t24 =>
 bif (chk (bnd (A.load false 1 t23 hq2) fun v => some v) t24 && (chk (bnd (A.load false 1 t23 hq1) fun v => some v) t24 && (chk (bnd (A.load false 1 t23 h) fun v => some v) t24 && true))) then
 bnd (A.bin prog .shl 5 t24 (.int .u64 3)) fun t25 =>
 bnd (A.bin prog .or 5 t21 t25) fun t26 =>
 bnd (A.fieldAddr 11 x3) fun t27 =>
 bnd (A.load false 1 t27 hq3) fun t28 =>
 toBK t28 fun bq3 =>
 bif (chk (bnd (A.load false 1 t27 hq2) fun v => some v) (.bool bq3) && (chk (bnd (A.load false 1 t27 hq1) fun v => some v) (.bool bq3) && (chk (bnd (A.load false 1 t27 h) fun v => some v) (.bool bq3) && true))) then
 bnd2 (C 112 [(.bool bq3),(.int .u64 2)] hq3) fun t29 hq4 =>
 bif (chk (bnd (A.load false 1 t23 hq4) fun v => some v) t24 && (chk (bnd (A.load false 1 t8 hq4) fun v => some v) t9 && true)) then
 bnd (A.bin prog .or 5 t26 t29) fun t30 =>
 bnd (A.fieldAddr 8 x3) fun t31 =>
 bnd (A.load false 1 t31 hq4) fun t32 =>
 toBK t32 fun bq4 =>
 bif (chk (bnd (A.load false 1 t31 hq3) fun v => some v) (.bool bq4) && (chk (bnd (A.load false 1 t31 hq2) fun v => some v) (.bool bq4) && (chk (bnd (A.load false 1 t31 hq1) fun v => some v) (.bool bq4) && (chk (bnd (A.load false 1 t31 h) fun v => some v) (.bool bq4) && true)))) then
 bnd2 (C 112 [(.bool bq4),(.int .u64 1)] hq4) fun t33 hq5 =>
 bif (chk (bnd (A.load false 1 t23 hq5) fun v => some v) t24 && (chk (bnd (A.load false 1 t8 hq5) fun v => some v) t9 && true)) then
 bnd (A.bin prog .or 5 t30 t33) fun t34 =>
 bnd2 (A.buildSlice 1 2 Z5L [(0,1,t9),(1,1,t34)] hq5) fun t35 hq6 =>
 bnd2 (A.append 1 1 x0 t35 hq6) fun t36 hq7 =>
 kn t36 x3 hq7
 else none
 else none
 else none
 else none
 else none
 else none
 else none
 else none
 else none
 else none
theorem epaqR (x0 x3 : Value) :
  execK prog C L 0 68 [4] caqR [0,3] [] (fs [(0,x0),(3,x3)]) h K =
   paqR C L x0 x3 h (fun x0 x3 h => K .normal (fs [(0,x0),(3,x3)]) h) := by
 kernel_rfl
noncomputable def cakC : Code := cR caiZ
noncomputable def caqS : Code := cL cakC
noncomputable def paqS (C : CF) (L : Nat) {β : Type} (x0 x3 : Value) (h : H) (kn : Kv2 β) : Option β :=
 bnd (A.fieldAddr 9 x3) fun t38 =>
 bnd (A.load false 1 t38 h) fun t39 =>
 bnd2 (C 115 [x0,t39] h) fun t40 hq1 =>
 bnd (A.fieldAddr 10 x3) fun t41 =>
 bnd (A.load false 1 t41 hq1) fun t42 =>
 bif (chk (bnd (A.load false 1 t41 h) fun v => some v) t42 && true) then
 bnd2 (C 114 [t40,t42] hq1) fun t43 hq2 =>
 kn x3 t43 hq2
 else none
theorem epaqS (x0 x3 : Value) :
  execK prog C L 0 68 [4] caqS [3,0] [] (fs [(0,x0),(3,x3)]) h K =
   paqS C L x0 x3 h (fun x3 x0 h => K .normal (fs [(3,x3),(0,x0)]) h) := by
 kernel_rfl
noncomputable def camD : Code := cR cakC
noncomputable def caqT : Code := cL camD
noncomputable def paqT (C : CF) (L : Nat) {β : Type} (x3 x0 : Value) (h : H) (kn : Kv2 β) : Option β :=
 bnd (A.fieldAddr 11 x3) fun t44 =>
 bnd (A.load false 1 t44 h) fun t45 =>
 toBK t45 fun b =>
 (bif b then
 bnd (A.fieldAddr 12 x3) fun t47 =>
 bnd (A.fieldAddr 0 t47) fun t48 =>
 bnd (A.load false 1 t48 h) fun t49 =>
 bnd2 (C 114 [x0,t49] h) fun t50 hq1 =>
 bnd (A.fieldAddr 12 x3) fun t51 =>
 bnd (A.fieldAddr 1 t51) fun t52 =>
 bnd (A.load false 1 t52 hq1) fun t53 =>
 bif (chk (bnd (A.load false 1 t52 h) fun v => some v) t53 && true) then
 bnd2 (C 114 [t50,t53] hq1) fun t54 hq2 =>
 kn x3 t54 hq2
 else none
 else
 kn x3 x0 h)
theorem epaqT (x3 x0 : Value) :
  execK prog C L 0 68 [4] caqT [3,0] [] (fs [(3,x3),(0,x0)]) h K =
   paqT C L x3 x0 h (fun x3 x0 h => K .normal (fs [(3,x3),(0,x0)]) h) := by
 kernel_rfl
noncomputable def caqU : Code := cR camD
noncomputable def paqU (C : CF) (L : Nat) {β : Type} (x3 x0 : Value) (h : H) (kr : Kv1 β) : Option β :=
 bnd (A.fieldAddr 16 x3) fun t55 =>
 bnd (A.load false 1 t55 h) fun t56 =>
 toBK t56 fun b =>
 (bif b then
 bnd (A.fieldAddr 18 x3) fun t58 =>
 bnd (A.load false 1 t58 h) fun t59 =>
 bnd2 (C 114 [x0,t59] h) fun t60 hq1 =>
 bnd (A.fieldAddr 17 x3) fun t61 =>
 bnd (A.load false 1 t61 hq1) fun t62 =>
 toBK t62 fun bq1 =>
 (bif bq1 then
 bnd (A.fieldAddr 19 x3) fun t64 =>
 bnd (A.load false 1 t64 hq1) fun t65 =>
 bnd2 (C 114 [t60,t65] hq1) fun t66 hq2 =>
 kr t66 hq2
 else
 kr t60 hq1)
 else
 bnd (A.fieldAddr 17 x3) fun t61q1 =>
 bnd (A.load false 1 t61q1 h) fun t62q1 =>
 toBK t62q1 fun bq2 =>
 (bif bq2 then
 bnd (A.fieldAddr 19 x3) fun t64q1 =>
 bnd (A.load false 1 t64q1 h) fun t65q1 =>
 bnd2 (C 114 [x0,t65q1] h) fun t66q1 hq3 =>
 kr t66q1 hq3
 else
 kr x0 h))
theorem epaqU (x3 x0 : Value) :
  execK prog C L 0 68 [4] caqU [4] [] (fs [(3,x3),(0,x0)]) h K =
   paqU C L x3 x0 h (fun x4 h => K .ret (fs [(4,x4)]) h) := by
 kernel_rfl
noncomputable def p113a (C : CF) (L : Nat) {β : Type} (x0 x1 : Value) (h : H) (kr : Kv1 β) : Option β :=
 paqP C L x0 x1 h (fun x0 x3 h => paqQ C L x0 x3 h (fun x0 x3 h => paqR C L x0 x3 h (fun x0 x3 h => paqS C L x0 x3 h (fun x3 x0 h => paqT C L x3 x0 h (fun x3 x0 h => paqU C L x3 x0 h kr)))))
theorem ep113a (x0 x1 : Value) :
  execK prog C L 0 68 [4] c113a [4] [] (fs [(0,x0),(1,x1)]) h K =
   p113a C L x0 x1 h (fun x4 h => K .ret (fs [(4,x4)]) h) := by
 rw [execK_seq (a := caqP) (b := cahV) (by kernel_rfl) (show live [4] cahV [4] [] = [0,3] by kernel_rfl),epaqP]
 unfold p113a
 exact (congrArg (paqP C L x0 x1 h) (funext fun x0=>funext fun x3=>funext fun h => (seqK_n _ _ _).trans (by rw [execK_seq (a := caqQ) (b := caiZ) (by kernel_rfl) (show live [4] caiZ [4] [] = [0,3] by kernel_rfl),epaqQ]; exact (congrArg (paqQ C L x0 x3 h) (funext fun x0=>funext fun x3=>funext fun h => (seqK_n _ _ _).trans (by rw [execK_seq (a := caqR) (b := cakC) (by kernel_rfl) (show live [4] cakC [4] [] = [0,3] by kernel_rfl),epaqR]; exact (congrArg (paqR C L x0 x3 h) (funext fun x0=>funext fun x3=>funext fun h => (seqK_n _ _ _).trans (by rw [execK_seq (a := caqS) (b := camD) (by kernel_rfl) (show live [4] camD [4] [] = [3,0] by kernel_rfl),epaqS]; exact (congrArg (paqS C L x0 x3 h) (funext fun x3=>funext fun x0=>funext fun h => (seqK_n _ _ _).trans (by rw [execK_seq (a := caqT) (b := caqU) (by kernel_rfl) (show live [4] caqU [4] [] = [3,0] by kernel_rfl),epaqT]; exact (congrArg (paqT C L x3 x0 h) (funext fun x3=>funext fun x0=>funext fun h => (seqK_n _ _ _).trans (epaqU C L h K x3 x0)))))))))))))))
noncomputable def F113 (C : CF) (L : Nat) (x0 x1 : Value) (h : H) : Option (Value × H) :=
 p113a C L x0 x1 h
  (fun x4 h => some (x4,h))
theorem F113eq (Q : Orc) (n : Nat) (x0 x1 : Value) (h : H) (hQ : Q 113 [x0,x1] = none) : callO prog 0 Q (n + 1) 113 [x0,x1] h = F113 (callO prog 0 Q n) n x0 x1 h := by
 rw [callO_eq hQ (c := c113a) (nt := 68) (RR := [4]) (fr := (fs [(0,x0),(1,x1)])) Tryz.func113 (by kernel_rfl) (by kernel_rfl) (by kernel_rfl) (by kernel_rfl) (by kernel_rfl),ep113a]
 kernel_rfl
noncomputable def c114a : Code := (Tryz.f114.body).getD .skip
noncomputable def p114a (C : CF) (L : Nat) {β : Type} (x0 x1 : Value) (h : H) (kr : Kv1 β) : Option β :=
 bnd2 (C 144 [x1] h) fun t9 hq1 =>
 bnd (A.extract 0 t9) fun t10 =>
 bnd (A.extract 1 t9) fun t11 =>
 bnd2 (A.append 1 1 x0 t10 hq1) fun t14 hq2 =>
 kr t14 hq2
theorem ep114a (x0 x1 : Value) :
  execK prog C L 0 15 [4] c114a [4] [] (fs [(0,x0),(1,x1)]) h K =
   p114a C L x0 x1 h (fun x4 h => K .ret (fs [(4,x4)]) h) := by
 kernel_rfl
noncomputable def F114 (C : CF) (L : Nat) (x0 x1 : Value) (h : H) : Option (Value × H) :=
 p114a C L x0 x1 h
  (fun x4 h => some (x4,h))
theorem F114eq (Q : Orc) (n : Nat) (x0 x1 : Value) (h : H) (hQ : Q 114 [x0,x1] = none) : callO prog 0 Q (n + 1) 114 [x0,x1] h = F114 (callO prog 0 Q n) n x0 x1 h := by
 rw [callO_eq hQ (c := c114a) (nt := 15) (RR := [4]) (fr := (fs [(0,x0),(1,x1)])) Tryz.func114 (by kernel_rfl) (by kernel_rfl) (by kernel_rfl) (by kernel_rfl) (by kernel_rfl),ep114a]
 kernel_rfl
noncomputable def c115a : Code := (Tryz.f115.body).getD .skip
noncomputable def p115a (C : CF) (L : Nat) {β : Type} (x0 x1 : Value) (h : H) (kr : Kv1 β) : Option β :=
 bnd (A.conv prog 72 3 x1) fun t9 =>
 bnd2 (A.buildSlice 1 1 Z3L [(0,1,t9)] h) fun t10 hq1 =>
 bnd2 (C 145 [t10] hq1) fun t11 hq2 =>
 bnd (A.extract 0 t11) fun t12 =>
 bnd (A.extract 1 t11) fun t13 =>
 bnd2 (A.append 1 1 x0 t12 hq2) fun t16 hq3 =>
 kr t16 hq3
theorem ep115a (x0 x1 : Value) :
  execK prog C L 0 17 [4] c115a [4] [] (fs [(0,x0),(1,x1)]) h K =
   p115a C L x0 x1 h (fun x4 h => K .ret (fs [(4,x4)]) h) := by
 kernel_rfl
noncomputable def F115 (C : CF) (L : Nat) (x0 x1 : Value) (h : H) : Option (Value × H) :=
 p115a C L x0 x1 h
  (fun x4 h => some (x4,h))
theorem F115eq (Q : Orc) (n : Nat) (x0 x1 : Value) (h : H) (hQ : Q 115 [x0,x1] = none) : callO prog 0 Q (n + 1) 115 [x0,x1] h = F115 (callO prog 0 Q n) n x0 x1 h := by
 rw [callO_eq hQ (c := c115a) (nt := 17) (RR := [4]) (fr := (fs [(0,x0),(1,x1)])) Tryz.func115 (by kernel_rfl) (by kernel_rfl) (by kernel_rfl) (by kernel_rfl) (by kernel_rfl),ep115a]
 kernel_rfl
noncomputable def c145a : Code := (Tryz.f145.body).getD .skip
noncomputable def catX : Code := cL c145a
noncomputable def patX (C : CF) (L : Nat) {β : Type} (x0 : Value) (h : H) (kn : Kv1 β) : Option β :=
 kn x0 h
theorem epatX (x0 : Value) :
  execK prog C L 0 34 [2,3] catX [0] [] (fs [(0,x0)]) h K =
   patX C L x0 h (fun x0 h => K .normal (fs [(0,x0)]) h) := by
 kernel_rfl
noncomputable def caeH : Code := cR c145a
noncomputable def catY : Code := cL caeH
noncomputable def patY (C : CF) (L : Nat) {β : Type} (x0 : Value) (h : H) (kn : Kv2 β) : Option β :=
 bnd (A.lenS x0) fun t8 =>
 bnd (A.bin prog .mul 3 (.int .i64 2) t8) fun t9 =>
 bnd2 (A.makeSlice 1 1 Z5L (.int .i64 0) t9 h) fun t10 hq1 =>
 kn x0 t10 hq1
theorem epatY (x0 : Value) :
  execK prog C L 0 34 [2,3] catY [0,4] [] (fs [(0,x0)]) h K =
   patY C L x0 h (fun x0 x4 h => K .normal (fs [(0,x0),(4,x4)]) h) := by
 kernel_rfl
noncomputable def caeV : Code := cR caeH
noncomputable def cafG : Code := cL caeV
noncomputable def catZ : Code := cL cafG
noncomputable def patZ (C : CF) (L : Nat) {β : Type} (x0 x4 : Value) (h : H) (kn : Kv4 β) : Option β :=
 bnd (A.lenS x0) fun t12 =>
 kn t12 (.int .i64 0) x0 x4 h
theorem epatZ (x0 x4 : Value) :
  execK prog C L 0 34 [2,3] catZ [12,13,11,4] [] (fs [(0,x0),(4,x4)]) h K =
   patZ C L x0 x4 h (fun x12 x13 x11 x4 h => K .normal (fs [(12,x12),(13,x13),(11,x11),(4,x4)]) h) := by
 kernel_rfl
noncomputable def cagE : Code := cR cafG
noncomputable def cagT : Code := cL cagE
noncomputable def cahW : Code := cL cagT
noncomputable def cauA : Code := cL cahW
noncomputable def pauA (C : CF) (L : Nat) {β : Type} (x12 x13 x11 x4 : Value) (h : H) (kn : Kv5 β) : Option β :=
 bnd (A.bin prog .lss 3 x13 x12) fun t14 =>
 kn t14 x11 x12 x13 x4 h
theorem epauA (x12 x13 x11 x4 : Value) :
  execK prog C L 0 34 [2,3] cauA [14,11,12,13,4] [(0,[4])] (fs [(12,x12),(13,x13),(11,x11),(4,x4)]) h K =
   pauA C L x12 x13 x11 x4 h (fun x14 x11 x12 x13 x4 h => K .normal (fs [(14,x14),(11,x11),(12,x12),(13,x13),(4,x4)]) h) := by
 kernel_rfl
noncomputable def cajL : Code := cR cahW
noncomputable def cauB : Code := cL cajL
noncomputable def pauB (C : CF) (L : Nat) {β : Type} (x14 x11 x12 x13 x4 : Value) (h : H) (kn : Kv4 β) (kx0 : Kv1 β) : Option β :=
 condV x14 (
 kn x4 x13 x12 x11 h) (
 kx0 x4 h)
theorem epauB (x14 x11 x12 x13 x4 : Value) :
  execK prog C L 0 34 [2,3] cauB [4,13,12,11] [(0,[4])] (fs [(14,x14),(11,x11),(12,x12),(13,x13),(4,x4)]) h K =
   pauB C L x14 x11 x12 x13 x4 h (fun x4 x13 x12 x11 h => K .normal (fs [(4,x4),(13,x13),(12,x12),(11,x11)]) h) (fun x4 h => K (.exit 0) (fs [(4,x4)]) h) := by
 kernel_rfl
noncomputable def cakT : Code := cR cajL
noncomputable def camN : Code := cL cakT
noncomputable def caxT : Code := cL camN
noncomputable def paxT (C : CF) (L : Nat) {β : Type} (x4 x13 x12 x11 : Value) (h : H) (kr : Kv2 β) (kn : Kv4 β) : Option β :=
 bnd (A.idxS 1 x11 x13) fun t15 =>
 bnd (A.load false 1 t15 h) fun t16 =>
 bnd (A.bin prog .lss 3 t16 (.int .i64 0)) fun t18 =>
 toBK t18 fun b =>
 (bif b then
 kr (.string ⟨⟨[]⟩⟩) (.int .i64 1) h
 else
 bnd (A.bin prog .gtr 3 t16 (.int .i64 65535)) fun t21 =>
 toBK t21 fun bq1 =>
 (bif bq1 then
 kr (.string ⟨⟨[]⟩⟩) (.int .i64 1) h
 else
 bnd (A.bin prog .shr 3 t16 (.int .u64 8)) fun t25 =>
 bnd (A.conv prog 3 5 t25) fun t26 =>
 bnd (A.conv prog 3 5 t16) fun t28 =>
 bnd2 (A.buildSlice 1 2 Z5L [(0,1,t26),(1,1,t28)] h) fun t29 hq1 =>
 bnd2 (A.append 1 1 x4 t29 hq1) fun t30 hq2 =>
 kn x13 x12 x11 t30 hq2))
theorem epaxT (x4 x13 x12 x11 : Value) :
  execK prog C L 0 34 [2,3] caxT [13,12,11,4] [(1,[13,12,11,4]),(0,[4])] (fs [(4,x4),(13,x13),(12,x12),(11,x11)]) h K =
   paxT C L x4 x13 x12 x11 h (fun x2 x3 h => K .ret (fs [(2,x2),(3,x3)]) h) (fun x13 x12 x11 x4 h => K .normal (fs [(13,x13),(12,x12),(11,x11),(4,x4)]) h) := by
 kernel_rfl
noncomputable def pamN (C : CF) (L : Nat) {β : Type} (x4 x13 x12 x11 : Value) (h : H) (kr : Kv2 β) (kn : Kv4 β) : Option β :=
 paxT C L x4 x13 x12 x11 h kr kn
theorem epamN (x4 x13 x12 x11 : Value) :
  execK prog C L 0 34 [2,3] camN [13,12,11,4] [(0,[4])] (fs [(4,x4),(13,x13),(12,x12),(11,x11)]) h K =
   pamN C L x4 x13 x12 x11 h (fun x2 x3 h => K .ret (fs [(2,x2),(3,x3)]) h) (fun x13 x12 x11 x4 h => K .normal (fs [(13,x13),(12,x12),(11,x11),(4,x4)]) h) := by
 rw [execK_block (b := caxT) (id := 1) (by kernel_rfl),epaxT]
 unfold pamN
 rfl
noncomputable def cauC : Code := cR cakT
noncomputable def pauC (C : CF) (L : Nat) {β : Type} (x13 x12 x11 x4 : Value) (h : H) (kn : Kv4 β) : Option β :=
 bnd (A.bin prog .add 3 x13 (.int .i64 1)) fun t31 =>
 kn x12 t31 x11 x4 h
theorem epauC (x13 x12 x11 x4 : Value) :
  execK prog C L 0 34 [2,3] cauC [12,13,11,4] [(0,[4])] (fs [(13,x13),(12,x12),(11,x11),(4,x4)]) h K =
   pauC C L x13 x12 x11 x4 h (fun x12 x13 x11 x4 h => K .normal (fs [(12,x12),(13,x13),(11,x11),(4,x4)]) h) := by
 kernel_rfl
noncomputable def pahW (C : CF) (L : Nat) {β : Type} (x12 x13 x11 x4 : Value) (h : H) (kn : Kv4 β) (kr : Kv2 β) (kx0 : Kv1 β) : Option β :=
 pauA C L x12 x13 x11 x4 h (fun x14 x11 x12 x13 x4 h => pauB C L x14 x11 x12 x13 x4 h (fun x4 x13 x12 x11 h => pamN C L x4 x13 x12 x11 h kr (fun x13 x12 x11 x4 h => pauC C L x13 x12 x11 x4 h kn)) kx0)
theorem epahW (x12 x13 x11 x4 : Value) :
  execK prog C L 0 34 [2,3] cahW [12,13,11,4] [(0,[4])] (fs [(12,x12),(13,x13),(11,x11),(4,x4)]) h K =
   pahW C L x12 x13 x11 x4 h (fun x12 x13 x11 x4 h => K .normal (fs [(12,x12),(13,x13),(11,x11),(4,x4)]) h) (fun x2 x3 h => K .ret (fs [(2,x2),(3,x3)]) h) (fun x4 h => K (.exit 0) (fs [(4,x4)]) h) := by
 rw [execK_seq (a := cauA) (b := cajL) (by kernel_rfl) (show live [2,3] cajL [12,13,11,4] [(0,[4])] = [14,11,12,13,4] by kernel_rfl),epauA]
 unfold pahW
 exact (congrArg (pauA C L x12 x13 x11 x4 h) (funext fun x14=>funext fun x11=>funext fun x12=>funext fun x13=>funext fun x4=>funext fun h => (seqK_n _ _ _).trans (by rw [execK_seq (a := cauB) (b := cakT) (by kernel_rfl) (show live [2,3] cakT [12,13,11,4] [(0,[4])] = [4,13,12,11] by kernel_rfl),epauB]; exact (congr (congrArg (pauB C L x14 x11 x12 x13 x4 h) (funext fun x4=>funext fun x13=>funext fun x12=>funext fun x11=>funext fun h => (seqK_n _ _ _).trans (by rw [execK_seq (a := camN) (b := cauC) (by kernel_rfl) (show live [2,3] cauC [12,13,11,4] [(0,[4])] = [13,12,11,4] by kernel_rfl),epamN]; exact (congr (congrArg (pamN C L x4 x13 x12 x11 h) (funext fun x2=>funext fun x3=>funext fun h => seqK_r _ _ _)) (funext fun x13=>funext fun x12=>funext fun x11=>funext fun x4=>funext fun h => (seqK_n _ _ _).trans (epauC C L h K x13 x12 x11 x4)))))) (funext fun x4=>funext fun h => seqK_x _ _ _ _)))))
noncomputable def payT (C : CF) (L : Nat) {β : Type} (kr : Kv2 β) (kx0 : Kv1 β) : Nat → Kv4 β
 | 0,_,_,_,_,_ => none
 | n + 1,x12,x13,x11,x4,h => pahW C L x12 x13 x11 x4 h (fun x12 x13 x11 x4 h => payT C L kr kx0 n x12 x13 x11 x4 h) kr kx0
theorem epayT (C : CF) (L : Nat) {β : Type} (K : Ex → T Value → Kv0 β) : ∀ (n : Nat) (x12 x13 x11 x4 : Value) (h : H),
  loopK (fun fr h K => execK prog C L 0 34 [2,3] cahW [12,13,11,4] [(0,[4])] fr h K) n (fs [(12,x12),(13,x13),(11,x11),(4,x4)]) h K =
   payT C L (fun x2 x3 h => K .ret (fs [(2,x2),(3,x3)]) h) (fun x4 h => K (.exit 0) (fs [(4,x4)]) h) n x12 x13 x11 x4 h := by
 intro n
 induction n with
 | zero => intros; rfl
 | succ n ih =>
  intros
  simp only [loopK]
  rw [epahW]
  simp only [seqK_n,seqK_x,seqK_r,ih]
  rfl
noncomputable def pagT (C : CF) (L : Nat) {β : Type} (x12 x13 x11 x4 : Value) (h : H) (kr : Kv2 β) (kx0 : Kv1 β) : Option β :=
 payT C L kr kx0 L x12 x13 x11 x4 h
theorem epagT (x12 x13 x11 x4 : Value) :
  execK prog C L 0 34 [2,3] cagT [4] [(0,[4])] (fs [(12,x12),(13,x13),(11,x11),(4,x4)]) h K =
   pagT C L x12 x13 x11 x4 h (fun x2 x3 h => K .ret (fs [(2,x2),(3,x3)]) h) (fun x4 h => K (.exit 0) (fs [(4,x4)]) h) := by
 rw [execK_loop (b := cahW) (fr1 := (fs [(12,x12),(13,x13),(11,x11),(4,x4)])) (by kernel_rfl) (show live [2,3] cahW [] [(0,[4])] = [12,13,11,4] by kernel_rfl) (by kernel_rfl),epayT]
 unfold pagT
 rfl
noncomputable def pagE (C : CF) (L : Nat) {β : Type} (x12 x13 x11 x4 : Value) (h : H) (kr : Kv2 β) (kn : Kv1 β) : Option β :=
 pagT C L x12 x13 x11 x4 h kr kn
theorem epagE (x12 x13 x11 x4 : Value) :
  execK prog C L 0 34 [2,3] cagE [4] [] (fs [(12,x12),(13,x13),(11,x11),(4,x4)]) h K =
   pagE C L x12 x13 x11 x4 h (fun x2 x3 h => K .ret (fs [(2,x2),(3,x3)]) h) (fun x4 h => K .normal (fs [(4,x4)]) h) := by
 rw [execK_block (b := cagT) (id := 0) (by kernel_rfl),epagT]
 unfold pagE
 rfl
noncomputable def pafG (C : CF) (L : Nat) {β : Type} (x0 x4 : Value) (h : H) (kr : Kv2 β) (kn : Kv1 β) : Option β :=
 patZ C L x0 x4 h (fun x12 x13 x11 x4 h => pagE C L x12 x13 x11 x4 h kr kn)
theorem epafG (x0 x4 : Value) :
  execK prog C L 0 34 [2,3] cafG [4] [] (fs [(0,x0),(4,x4)]) h K =
   pafG C L x0 x4 h (fun x2 x3 h => K .ret (fs [(2,x2),(3,x3)]) h) (fun x4 h => K .normal (fs [(4,x4)]) h) := by
 rw [execK_seq (a := catZ) (b := cagE) (by kernel_rfl) (show live [2,3] cagE [4] [] = [12,13,11,4] by kernel_rfl),epatZ]
 unfold pafG
 exact (congrArg (patZ C L x0 x4 h) (funext fun x12=>funext fun x13=>funext fun x11=>funext fun x4=>funext fun h => (seqK_n _ _ _).trans (epagE C L h K x12 x13 x11 x4)))
noncomputable def cauD : Code := cR caeV
noncomputable def pauD (C : CF) (L : Nat) {β : Type} (x4 : Value) (h : H) (kr : Kv2 β) : Option β :=
 bnd (A.b2s x4 h) fun t33 =>
 kr t33 (.int .i64 0) h
theorem epauD (x4 : Value) :
  execK prog C L 0 34 [2,3] cauD [2,3] [] (fs [(4,x4)]) h K =
   pauD C L x4 h (fun x2 x3 h => K .ret (fs [(2,x2),(3,x3)]) h) := by
 kernel_rfl
noncomputable def p145a (C : CF) (L : Nat) {β : Type} (x0 : Value) (h : H) (kr : Kv2 β) : Option β :=
 patX C L x0 h (fun x0 h => patY C L x0 h (fun x0 x4 h => pafG C L x0 x4 h kr (fun x4 h => pauD C L x4 h kr)))
theorem ep145a (x0 : Value) :
  execK prog C L 0 34 [2,3] c145a [2,3] [] (fs [(0,x0)]) h K =
   p145a C L x0 h (fun x2 x3 h => K .ret (fs [(2,x2),(3,x3)]) h) := by
 rw [execK_seq (a := catX) (b := caeH) (by kernel_rfl) (show live [2,3] caeH [2,3] [] = [0] by kernel_rfl),epatX]
 unfold p145a
 exact (congrArg (patX C L x0 h) (funext fun x0=>funext fun h => (seqK_n _ _ _).trans (by rw [execK_seq (a := catY) (b := caeV) (by kernel_rfl) (show live [2,3] caeV [2,3] [] = [0,4] by kernel_rfl),epatY]; exact (congrArg (patY C L x0 h) (funext fun x0=>funext fun x4=>funext fun h => (seqK_n _ _ _).trans (by rw [execK_seq (a := cafG) (b := cauD) (by kernel_rfl) (show live [2,3] cauD [2,3] [] = [4] by kernel_rfl),epafG]; exact (congr (congrArg (pafG C L x0 x4 h) (funext fun x2=>funext fun x3=>funext fun h => seqK_r _ _ _)) (funext fun x4=>funext fun h => (seqK_n _ _ _).trans (epauD C L h K x4)))))))))
noncomputable def F145 (C : CF) (L : Nat) (x0 : Value) (h : H) : Option (Value × H) :=
 p145a C L x0 h
  (fun x2 x3 h => some (.tuple ⟨[x2,x3]⟩,h))
theorem F145eq (Q : Orc) (n : Nat) (x0 : Value) (h : H) (hQ : Q 145 [x0] = none) : callO prog 0 Q (n + 1) 145 [x0] h = F145 (callO prog 0 Q n) n x0 h := by
 rw [callO_eq hQ (c := c145a) (nt := 34) (RR := [2,3]) (fr := (fs [(0,x0)])) Tryz.func145 (by kernel_rfl) (by kernel_rfl) (by kernel_rfl) (by kernel_rfl) (by kernel_rfl),ep145a]
 kernel_rfl
end Go.Proofs.YtdljlmpleibkiaaGreatDoor.ScA
