/-
  Functions of the program over the abstract machine: printed by a program of mine (wip/tools/Dec.lean), each with its equation to the machine's call.
-/
import Derived.Test.YtoohgaejekfmdaaGreatDoorProg
import Derived.Test.YtoohgaejekfmdaaGreatDoorAmDec
set_option linter.unusedVariables false
set_option maxRecDepth 100000
namespace Go.Proofs.YtoohgaejekfmdaaGreatDoor.WlD
open Go Go.AM

noncomputable def Z3 : Value := (.int .i64 0)
noncomputable def Z3L : List Value := [(.int .i64 0)]

/-! F3: relayhouse/relayhouselaw22.WorkerLanes -/
noncomputable def c3a : Code := (Tryz.f3.body).getD .skip
noncomputable def p3a (C : CF) (L : Nat) {β : Type} (x0 : Value) (h : H) (kr : Value → H → Option β) : Option β :=
  bnd2 (C 4 [x0] h) fun t4 hq1 =>
  bnd2 (C 5 [x0] hq1) fun t6 hq2 =>
  bnd (A.bin Tryz.prog .eql 3 t4 t6) fun t7 =>
  toBK t7 fun b =>
  (bif b then
  bnd2 (C 6 [] hq2) fun t9 hq3 =>
  toBK t9 fun bq1 =>
  kr (.bool bq1) hq3
  else
  kr (.bool false) hq2)
theorem ep3a (C : CF) (L : Nat) {β : Type} (x0 : Value) (h : H) (K : Ex → T Value → H → Option β) :
    execK Tryz.prog C L 0 11 [2] c3a [2] [] (fs [(0, x0)]) h K =
      p3a C L x0 h (fun x2 h => K .ret (fs [(2, x2)]) h) := by
  kernel_rfl
noncomputable def F3 (C : CF) (L : Nat) (x0 : Value) (h : H) : Option (Value × H) :=
  p3a C L x0 h
    (fun x2 h => some (x2, h))
theorem F3eq (O : List FuncId) (hO : O.any (Nat.beq 3) = false) (n : Nat) (x0 : Value) (h : H) : callB Tryz.prog 0 O (n + 1) 3 [x0] h = F3 (callB Tryz.prog 0 O n) n x0 h := by
  rw [callB_eq hO (c := c3a) (nt := 11) (RR := [2]) (fr := (fs [(0, x0)])) Tryz.func3 (by kernel_rfl) (by kernel_rfl) (by kernel_rfl) (by kernel_rfl) (by kernel_rfl), ep3a]
  kernel_rfl

/-! F4: relayhouse/worker.Lane -/
noncomputable def c4a : Code := (Tryz.f4.body).getD .skip
noncomputable def c4al : Code := cL c4a
noncomputable def p4al (C : CF) (L : Nat) {β : Type} (x0 : Value) (h : H) (kn : Value → H → Option β) : Option β :=
  kn x0 h
theorem ep4al (C : CF) (L : Nat) {β : Type} (x0 : Value) (h : H) (K : Ex → T Value → H → Option β) :
    execK Tryz.prog C L 0 26 [2] c4al [0] [] (fs [(0, x0)]) h K =
      p4al C L x0 h (fun x0 h => K .normal (fs [(0, x0)]) h) := by
  kernel_rfl
noncomputable def c4ar : Code := cR c4a
noncomputable def c4arl : Code := cL c4ar
noncomputable def c4arll : Code := cL c4arl
noncomputable def p4arll (C : CF) (L : Nat) {β : Type} (x0 : Value) (h : H) (kn : Value → H → Option β) : Option β :=
  kn x0 h
theorem ep4arll (C : CF) (L : Nat) {β : Type} (x0 : Value) (h : H) (K : Ex → T Value → H → Option β) :
    execK Tryz.prog C L 0 26 [2] c4arll [3] [] (fs [(0, x0)]) h K =
      p4arll C L x0 h (fun x3 h => K .normal (fs [(3, x3)]) h) := by
  kernel_rfl
noncomputable def c4arlr : Code := cR c4arl
noncomputable def c4arlrb : Code := cL c4arlr
noncomputable def c4arlrbl : Code := cL c4arlrb
noncomputable def p4arlrbl (C : CF) (L : Nat) {β : Type} (x3 : Value) (h : H) (kn : Value → Value → H → Option β) : Option β :=
  bnd (A.bin Tryz.prog .eql 5 x3 (.int .u8 1)) fun t5 =>
  toBK t5 fun b =>
  (bif b then
  kn (.bool b) x3 h
  else
  bnd (A.bin Tryz.prog .eql 5 x3 (.int .u8 2)) fun t6 =>
  toBK t6 fun bq1 =>
  kn (.bool bq1) x3 h)
theorem ep4arlrbl (C : CF) (L : Nat) {β : Type} (x3 : Value) (h : H) (K : Ex → T Value → H → Option β) :
    execK Tryz.prog C L 0 26 [2] c4arlrbl [4, 3] [(0, [])] (fs [(3, x3)]) h K =
      p4arlrbl C L x3 h (fun x4 x3 h => K .normal (fs [(4, x4), (3, x3)]) h) := by
  kernel_rfl
noncomputable def c4arlrbr : Code := cR c4arlrb
noncomputable def c4arlrbrt : Code := cL c4arlrbr
noncomputable def p4arlrbrt (C : CF) (L : Nat) {β : Type} (x4 : Value) (x3 : Value) (h : H) (kr : Value → H → Option β) : Option β :=
  kr (.int .i64 1) h
theorem ep4arlrbrt (C : CF) (L : Nat) {β : Type} (x4 : Value) (x3 : Value) (h : H) (K : Ex → T Value → H → Option β) :
    execK Tryz.prog C L 0 26 [2] c4arlrbrt [] [(0, [])] (fs [(4, x4), (3, x3)]) h K =
      p4arlrbrt C L x4 x3 h (fun x2 h => K .ret (fs [(2, x2)]) h) := by
  kernel_rfl
noncomputable def c4arlrbrf : Code := cR c4arlrbr
noncomputable def c4arlrbrfl : Code := cL c4arlrbrf
noncomputable def p4arlrbrfl (C : CF) (L : Nat) {β : Type} (x4 : Value) (x3 : Value) (h : H) (kn : Value → Value → H → Option β) : Option β :=
  bnd (A.bin Tryz.prog .eql 5 x3 (.int .u8 3)) fun t8 =>
  toBK t8 fun b =>
  kn (.bool b) x3 h
theorem ep4arlrbrfl (C : CF) (L : Nat) {β : Type} (x4 : Value) (x3 : Value) (h : H) (K : Ex → T Value → H → Option β) :
    execK Tryz.prog C L 0 26 [2] c4arlrbrfl [7, 3] [(0, [])] (fs [(4, x4), (3, x3)]) h K =
      p4arlrbrfl C L x4 x3 h (fun x7 x3 h => K .normal (fs [(7, x7), (3, x3)]) h) := by
  kernel_rfl
noncomputable def c4arlrbrfr : Code := cR c4arlrbrf
noncomputable def c4arlrbrfrt : Code := cL c4arlrbrfr
noncomputable def p4arlrbrfrt (C : CF) (L : Nat) {β : Type} (x7 : Value) (x3 : Value) (h : H) (kr : Value → H → Option β) : Option β :=
  kr (.int .i64 2) h
theorem ep4arlrbrfrt (C : CF) (L : Nat) {β : Type} (x7 : Value) (x3 : Value) (h : H) (K : Ex → T Value → H → Option β) :
    execK Tryz.prog C L 0 26 [2] c4arlrbrfrt [] [(0, [])] (fs [(7, x7), (3, x3)]) h K =
      p4arlrbrfrt C L x7 x3 h (fun x2 h => K .ret (fs [(2, x2)]) h) := by
  kernel_rfl
noncomputable def c4arlrbrfrf : Code := cR c4arlrbrfr
noncomputable def c4arlrbrfrfl : Code := cL c4arlrbrfrf
noncomputable def p4arlrbrfrfl (C : CF) (L : Nat) {β : Type} (x7 : Value) (x3 : Value) (h : H) (kn : Value → Value → H → Option β) : Option β :=
  bnd (A.bin Tryz.prog .eql 5 x3 (.int .u8 4)) fun t10 =>
  toBK t10 fun b =>
  kn (.bool b) x3 h
theorem ep4arlrbrfrfl (C : CF) (L : Nat) {β : Type} (x7 : Value) (x3 : Value) (h : H) (K : Ex → T Value → H → Option β) :
    execK Tryz.prog C L 0 26 [2] c4arlrbrfrfl [9, 3] [(0, [])] (fs [(7, x7), (3, x3)]) h K =
      p4arlrbrfrfl C L x7 x3 h (fun x9 x3 h => K .normal (fs [(9, x9), (3, x3)]) h) := by
  kernel_rfl
noncomputable def c4arlrbrfrfr : Code := cR c4arlrbrfrf
noncomputable def c4arlrbrfrfrt : Code := cL c4arlrbrfrfr
noncomputable def p4arlrbrfrfrt (C : CF) (L : Nat) {β : Type} (x9 : Value) (x3 : Value) (h : H) (kr : Value → H → Option β) : Option β :=
  kr (.int .i64 3) h
theorem ep4arlrbrfrfrt (C : CF) (L : Nat) {β : Type} (x9 : Value) (x3 : Value) (h : H) (K : Ex → T Value → H → Option β) :
    execK Tryz.prog C L 0 26 [2] c4arlrbrfrfrt [] [(0, [])] (fs [(9, x9), (3, x3)]) h K =
      p4arlrbrfrfrt C L x9 x3 h (fun x2 h => K .ret (fs [(2, x2)]) h) := by
  kernel_rfl
noncomputable def c4arlrbrfrfrf : Code := cR c4arlrbrfrfr
noncomputable def c4arlrbrfrfrfl : Code := cL c4arlrbrfrfrf
noncomputable def p4arlrbrfrfrfl (C : CF) (L : Nat) {β : Type} (x9 : Value) (x3 : Value) (h : H) (kn : Value → Value → H → Option β) : Option β :=
  bnd (A.bin Tryz.prog .eql 5 x3 (.int .u8 5)) fun t12 =>
  toBK t12 fun b =>
  (bif b then
  kn (.bool b) x3 h
  else
  bnd (A.bin Tryz.prog .eql 5 x3 (.int .u8 6)) fun t13 =>
  toBK t13 fun bq1 =>
  (bif bq1 then
  kn (.bool bq1) x3 h
  else
  bnd (A.bin Tryz.prog .eql 5 x3 (.int .u8 7)) fun t14 =>
  toBK t14 fun bq2 =>
  kn (.bool bq2) x3 h))
theorem ep4arlrbrfrfrfl (C : CF) (L : Nat) {β : Type} (x9 : Value) (x3 : Value) (h : H) (K : Ex → T Value → H → Option β) :
    execK Tryz.prog C L 0 26 [2] c4arlrbrfrfrfl [11, 3] [(0, [])] (fs [(9, x9), (3, x3)]) h K =
      p4arlrbrfrfrfl C L x9 x3 h (fun x11 x3 h => K .normal (fs [(11, x11), (3, x3)]) h) := by
  kernel_rfl
noncomputable def c4arlrbrfrfrfr : Code := cR c4arlrbrfrfrf
noncomputable def c4arlrbrfrfrfrt : Code := cL c4arlrbrfrfrfr
noncomputable def p4arlrbrfrfrfrt (C : CF) (L : Nat) {β : Type} (x11 : Value) (x3 : Value) (h : H) (kr : Value → H → Option β) : Option β :=
  kr (.int .i64 4) h
theorem ep4arlrbrfrfrfrt (C : CF) (L : Nat) {β : Type} (x11 : Value) (x3 : Value) (h : H) (K : Ex → T Value → H → Option β) :
    execK Tryz.prog C L 0 26 [2] c4arlrbrfrfrfrt [] [(0, [])] (fs [(11, x11), (3, x3)]) h K =
      p4arlrbrfrfrfrt C L x11 x3 h (fun x2 h => K .ret (fs [(2, x2)]) h) := by
  kernel_rfl
noncomputable def c4arlrbrfrfrfrf : Code := cR c4arlrbrfrfrfr
noncomputable def c4arlrbrfrfrfrfl : Code := cL c4arlrbrfrfrfrf
noncomputable def p4arlrbrfrfrfrfl (C : CF) (L : Nat) {β : Type} (x11 : Value) (x3 : Value) (h : H) (kn : Value → Value → H → Option β) : Option β :=
  bnd (A.bin Tryz.prog .eql 5 x3 (.int .u8 8)) fun t16 =>
  toBK t16 fun b =>
  (bif b then
  kn (.bool b) x3 h
  else
  bnd (A.bin Tryz.prog .eql 5 x3 (.int .u8 9)) fun t17 =>
  toBK t17 fun bq1 =>
  (bif bq1 then
  kn (.bool bq1) x3 h
  else
  bnd (A.bin Tryz.prog .eql 5 x3 (.int .u8 10)) fun t18 =>
  toBK t18 fun bq2 =>
  (bif bq2 then
  kn (.bool bq2) x3 h
  else
  bnd (A.bin Tryz.prog .eql 5 x3 (.int .u8 11)) fun t19 =>
  toBK t19 fun bq3 =>
  kn (.bool bq3) x3 h)))
theorem ep4arlrbrfrfrfrfl (C : CF) (L : Nat) {β : Type} (x11 : Value) (x3 : Value) (h : H) (K : Ex → T Value → H → Option β) :
    execK Tryz.prog C L 0 26 [2] c4arlrbrfrfrfrfl [15, 3] [(0, [])] (fs [(11, x11), (3, x3)]) h K =
      p4arlrbrfrfrfrfl C L x11 x3 h (fun x15 x3 h => K .normal (fs [(15, x15), (3, x3)]) h) := by
  kernel_rfl
noncomputable def c4arlrbrfrfrfrfr : Code := cR c4arlrbrfrfrfrf
noncomputable def c4arlrbrfrfrfrfrt : Code := cL c4arlrbrfrfrfrfr
noncomputable def p4arlrbrfrfrfrfrt (C : CF) (L : Nat) {β : Type} (x15 : Value) (x3 : Value) (h : H) (kr : Value → H → Option β) : Option β :=
  kr (.int .i64 5) h
theorem ep4arlrbrfrfrfrfrt (C : CF) (L : Nat) {β : Type} (x15 : Value) (x3 : Value) (h : H) (K : Ex → T Value → H → Option β) :
    execK Tryz.prog C L 0 26 [2] c4arlrbrfrfrfrfrt [] [(0, [])] (fs [(15, x15), (3, x3)]) h K =
      p4arlrbrfrfrfrfrt C L x15 x3 h (fun x2 h => K .ret (fs [(2, x2)]) h) := by
  kernel_rfl
noncomputable def c4arlrbrfrfrfrfrf : Code := cR c4arlrbrfrfrfrfr
noncomputable def c4arlrbrfrfrfrfrfl : Code := cL c4arlrbrfrfrfrfrf
noncomputable def p4arlrbrfrfrfrfrfl (C : CF) (L : Nat) {β : Type} (x15 : Value) (x3 : Value) (h : H) (kn : Value → Value → H → Option β) : Option β :=
  bnd (A.bin Tryz.prog .eql 5 x3 (.int .u8 12)) fun t21 =>
  toBK t21 fun b =>
  kn (.bool b) x3 h
theorem ep4arlrbrfrfrfrfrfl (C : CF) (L : Nat) {β : Type} (x15 : Value) (x3 : Value) (h : H) (K : Ex → T Value → H → Option β) :
    execK Tryz.prog C L 0 26 [2] c4arlrbrfrfrfrfrfl [20, 3] [(0, [])] (fs [(15, x15), (3, x3)]) h K =
      p4arlrbrfrfrfrfrfl C L x15 x3 h (fun x20 x3 h => K .normal (fs [(20, x20), (3, x3)]) h) := by
  kernel_rfl
noncomputable def c4arlrbrfrfrfrfrfr : Code := cR c4arlrbrfrfrfrfrf
noncomputable def c4arlrbrfrfrfrfrfrt : Code := cL c4arlrbrfrfrfrfrfr
noncomputable def p4arlrbrfrfrfrfrfrt (C : CF) (L : Nat) {β : Type} (x20 : Value) (x3 : Value) (h : H) (kr : Value → H → Option β) : Option β :=
  kr (.int .i64 6) h
theorem ep4arlrbrfrfrfrfrfrt (C : CF) (L : Nat) {β : Type} (x20 : Value) (x3 : Value) (h : H) (K : Ex → T Value → H → Option β) :
    execK Tryz.prog C L 0 26 [2] c4arlrbrfrfrfrfrfrt [] [(0, [])] (fs [(20, x20), (3, x3)]) h K =
      p4arlrbrfrfrfrfrfrt C L x20 x3 h (fun x2 h => K .ret (fs [(2, x2)]) h) := by
  kernel_rfl
noncomputable def c4arlrbrfrfrfrfrfrf : Code := cR c4arlrbrfrfrfrfrfr
noncomputable def c4arlrbrfrfrfrfrfrfl : Code := cL c4arlrbrfrfrfrfrfrf
noncomputable def p4arlrbrfrfrfrfrfrfl (C : CF) (L : Nat) {β : Type} (x20 : Value) (x3 : Value) (h : H) (kn : Value → H → Option β) : Option β :=
  bnd (A.bin Tryz.prog .eql 5 x3 (.int .u8 13)) fun t23 =>
  toBK t23 fun b =>
  (bif b then
  kn (.bool b) h
  else
  bnd (A.bin Tryz.prog .eql 5 x3 (.int .u8 14)) fun t24 =>
  toBK t24 fun bq1 =>
  (bif bq1 then
  kn (.bool bq1) h
  else
  bnd (A.bin Tryz.prog .eql 5 x3 (.int .u8 15)) fun t25 =>
  toBK t25 fun bq2 =>
  kn (.bool bq2) h))
theorem ep4arlrbrfrfrfrfrfrfl (C : CF) (L : Nat) {β : Type} (x20 : Value) (x3 : Value) (h : H) (K : Ex → T Value → H → Option β) :
    execK Tryz.prog C L 0 26 [2] c4arlrbrfrfrfrfrfrfl [22] [(0, [])] (fs [(20, x20), (3, x3)]) h K =
      p4arlrbrfrfrfrfrfrfl C L x20 x3 h (fun x22 h => K .normal (fs [(22, x22)]) h) := by
  kernel_rfl
noncomputable def c4arlrbrfrfrfrfrfrfr : Code := cR c4arlrbrfrfrfrfrfrf
noncomputable def p4arlrbrfrfrfrfrfrfr (C : CF) (L : Nat) {β : Type} (x22 : Value) (h : H) (kr : Value → H → Option β) (kn : H → Option β) : Option β :=
  condV x22 (
  kr (.int .i64 7) h) (
  kn h)
theorem ep4arlrbrfrfrfrfrfrfr (C : CF) (L : Nat) {β : Type} (x22 : Value) (h : H) (K : Ex → T Value → H → Option β) :
    execK Tryz.prog C L 0 26 [2] c4arlrbrfrfrfrfrfrfr [] [(0, [])] (fs [(22, x22)]) h K =
      p4arlrbrfrfrfrfrfrfr C L x22 h (fun x2 h => K .ret (fs [(2, x2)]) h) (fun h => K .normal (fs []) h) := by
  kernel_rfl
noncomputable def p4arlrbrfrfrfrfrfrf (C : CF) (L : Nat) {β : Type} (x20 : Value) (x3 : Value) (h : H) (kr : Value → H → Option β) (kn : H → Option β) : Option β :=
  p4arlrbrfrfrfrfrfrfl C L x20 x3 h (fun x22 h => p4arlrbrfrfrfrfrfrfr C L x22 h kr kn)
theorem ep4arlrbrfrfrfrfrfrf (C : CF) (L : Nat) {β : Type} (x20 : Value) (x3 : Value) (h : H) (K : Ex → T Value → H → Option β) :
    execK Tryz.prog C L 0 26 [2] c4arlrbrfrfrfrfrfrf [] [(0, [])] (fs [(20, x20), (3, x3)]) h K =
      p4arlrbrfrfrfrfrfrf C L x20 x3 h (fun x2 h => K .ret (fs [(2, x2)]) h) (fun h => K .normal (fs []) h) := by
  rw [execK_seq (a := c4arlrbrfrfrfrfrfrfl) (b := c4arlrbrfrfrfrfrfrfr) (by kernel_rfl) (show live [2] c4arlrbrfrfrfrfrfrfr [] [(0, [])] = [22] by kernel_rfl), ep4arlrbrfrfrfrfrfrfl]
  unfold p4arlrbrfrfrfrfrfrf
  exact (congrArg (p4arlrbrfrfrfrfrfrfl C L x20 x3 h) (funext fun x22 => funext fun h => (seqK_n _ _ _).trans (ep4arlrbrfrfrfrfrfrfr C L x22 h K)))
noncomputable def p4arlrbrfrfrfrfrfr (C : CF) (L : Nat) {β : Type} (x20 : Value) (x3 : Value) (h : H) (kr : Value → H → Option β) (kn : H → Option β) : Option β :=
  condV x20 (p4arlrbrfrfrfrfrfrt C L x20 x3 h kr) (p4arlrbrfrfrfrfrfrf C L x20 x3 h kr kn)
theorem ep4arlrbrfrfrfrfrfr (C : CF) (L : Nat) {β : Type} (x20 : Value) (x3 : Value) (h : H) (K : Ex → T Value → H → Option β) :
    execK Tryz.prog C L 0 26 [2] c4arlrbrfrfrfrfrfr [] [(0, [])] (fs [(20, x20), (3, x3)]) h K =
      p4arlrbrfrfrfrfrfr C L x20 x3 h (fun x2 h => K .ret (fs [(2, x2)]) h) (fun h => K .normal (fs []) h) := by
  rw [execK_cond (a := c4arlrbrfrfrfrfrfrt) (b := c4arlrbrfrfrfrfrfrf) (x := (.tmp 20)) (v := x20) (by kernel_rfl) (by kernel_rfl), ep4arlrbrfrfrfrfrfrt, ep4arlrbrfrfrfrfrfrf]
  unfold p4arlrbrfrfrfrfrfr
  rfl
noncomputable def p4arlrbrfrfrfrfrf (C : CF) (L : Nat) {β : Type} (x15 : Value) (x3 : Value) (h : H) (kr : Value → H → Option β) (kn : H → Option β) : Option β :=
  p4arlrbrfrfrfrfrfl C L x15 x3 h (fun x20 x3 h => p4arlrbrfrfrfrfrfr C L x20 x3 h kr kn)
theorem ep4arlrbrfrfrfrfrf (C : CF) (L : Nat) {β : Type} (x15 : Value) (x3 : Value) (h : H) (K : Ex → T Value → H → Option β) :
    execK Tryz.prog C L 0 26 [2] c4arlrbrfrfrfrfrf [] [(0, [])] (fs [(15, x15), (3, x3)]) h K =
      p4arlrbrfrfrfrfrf C L x15 x3 h (fun x2 h => K .ret (fs [(2, x2)]) h) (fun h => K .normal (fs []) h) := by
  rw [execK_seq (a := c4arlrbrfrfrfrfrfl) (b := c4arlrbrfrfrfrfrfr) (by kernel_rfl) (show live [2] c4arlrbrfrfrfrfrfr [] [(0, [])] = [20, 3] by kernel_rfl), ep4arlrbrfrfrfrfrfl]
  unfold p4arlrbrfrfrfrfrf
  exact (congrArg (p4arlrbrfrfrfrfrfl C L x15 x3 h) (funext fun x20 => funext fun x3 => funext fun h => (seqK_n _ _ _).trans (ep4arlrbrfrfrfrfrfr C L x20 x3 h K)))
noncomputable def p4arlrbrfrfrfrfr (C : CF) (L : Nat) {β : Type} (x15 : Value) (x3 : Value) (h : H) (kr : Value → H → Option β) (kn : H → Option β) : Option β :=
  condV x15 (p4arlrbrfrfrfrfrt C L x15 x3 h kr) (p4arlrbrfrfrfrfrf C L x15 x3 h kr kn)
theorem ep4arlrbrfrfrfrfr (C : CF) (L : Nat) {β : Type} (x15 : Value) (x3 : Value) (h : H) (K : Ex → T Value → H → Option β) :
    execK Tryz.prog C L 0 26 [2] c4arlrbrfrfrfrfr [] [(0, [])] (fs [(15, x15), (3, x3)]) h K =
      p4arlrbrfrfrfrfr C L x15 x3 h (fun x2 h => K .ret (fs [(2, x2)]) h) (fun h => K .normal (fs []) h) := by
  rw [execK_cond (a := c4arlrbrfrfrfrfrt) (b := c4arlrbrfrfrfrfrf) (x := (.tmp 15)) (v := x15) (by kernel_rfl) (by kernel_rfl), ep4arlrbrfrfrfrfrt, ep4arlrbrfrfrfrfrf]
  unfold p4arlrbrfrfrfrfr
  rfl
noncomputable def p4arlrbrfrfrfrf (C : CF) (L : Nat) {β : Type} (x11 : Value) (x3 : Value) (h : H) (kr : Value → H → Option β) (kn : H → Option β) : Option β :=
  p4arlrbrfrfrfrfl C L x11 x3 h (fun x15 x3 h => p4arlrbrfrfrfrfr C L x15 x3 h kr kn)
theorem ep4arlrbrfrfrfrf (C : CF) (L : Nat) {β : Type} (x11 : Value) (x3 : Value) (h : H) (K : Ex → T Value → H → Option β) :
    execK Tryz.prog C L 0 26 [2] c4arlrbrfrfrfrf [] [(0, [])] (fs [(11, x11), (3, x3)]) h K =
      p4arlrbrfrfrfrf C L x11 x3 h (fun x2 h => K .ret (fs [(2, x2)]) h) (fun h => K .normal (fs []) h) := by
  rw [execK_seq (a := c4arlrbrfrfrfrfl) (b := c4arlrbrfrfrfrfr) (by kernel_rfl) (show live [2] c4arlrbrfrfrfrfr [] [(0, [])] = [15, 3] by kernel_rfl), ep4arlrbrfrfrfrfl]
  unfold p4arlrbrfrfrfrf
  exact (congrArg (p4arlrbrfrfrfrfl C L x11 x3 h) (funext fun x15 => funext fun x3 => funext fun h => (seqK_n _ _ _).trans (ep4arlrbrfrfrfrfr C L x15 x3 h K)))
noncomputable def p4arlrbrfrfrfr (C : CF) (L : Nat) {β : Type} (x11 : Value) (x3 : Value) (h : H) (kr : Value → H → Option β) (kn : H → Option β) : Option β :=
  condV x11 (p4arlrbrfrfrfrt C L x11 x3 h kr) (p4arlrbrfrfrfrf C L x11 x3 h kr kn)
theorem ep4arlrbrfrfrfr (C : CF) (L : Nat) {β : Type} (x11 : Value) (x3 : Value) (h : H) (K : Ex → T Value → H → Option β) :
    execK Tryz.prog C L 0 26 [2] c4arlrbrfrfrfr [] [(0, [])] (fs [(11, x11), (3, x3)]) h K =
      p4arlrbrfrfrfr C L x11 x3 h (fun x2 h => K .ret (fs [(2, x2)]) h) (fun h => K .normal (fs []) h) := by
  rw [execK_cond (a := c4arlrbrfrfrfrt) (b := c4arlrbrfrfrfrf) (x := (.tmp 11)) (v := x11) (by kernel_rfl) (by kernel_rfl), ep4arlrbrfrfrfrt, ep4arlrbrfrfrfrf]
  unfold p4arlrbrfrfrfr
  rfl
noncomputable def p4arlrbrfrfrf (C : CF) (L : Nat) {β : Type} (x9 : Value) (x3 : Value) (h : H) (kr : Value → H → Option β) (kn : H → Option β) : Option β :=
  p4arlrbrfrfrfl C L x9 x3 h (fun x11 x3 h => p4arlrbrfrfrfr C L x11 x3 h kr kn)
theorem ep4arlrbrfrfrf (C : CF) (L : Nat) {β : Type} (x9 : Value) (x3 : Value) (h : H) (K : Ex → T Value → H → Option β) :
    execK Tryz.prog C L 0 26 [2] c4arlrbrfrfrf [] [(0, [])] (fs [(9, x9), (3, x3)]) h K =
      p4arlrbrfrfrf C L x9 x3 h (fun x2 h => K .ret (fs [(2, x2)]) h) (fun h => K .normal (fs []) h) := by
  rw [execK_seq (a := c4arlrbrfrfrfl) (b := c4arlrbrfrfrfr) (by kernel_rfl) (show live [2] c4arlrbrfrfrfr [] [(0, [])] = [11, 3] by kernel_rfl), ep4arlrbrfrfrfl]
  unfold p4arlrbrfrfrf
  exact (congrArg (p4arlrbrfrfrfl C L x9 x3 h) (funext fun x11 => funext fun x3 => funext fun h => (seqK_n _ _ _).trans (ep4arlrbrfrfrfr C L x11 x3 h K)))
noncomputable def p4arlrbrfrfr (C : CF) (L : Nat) {β : Type} (x9 : Value) (x3 : Value) (h : H) (kr : Value → H → Option β) (kn : H → Option β) : Option β :=
  condV x9 (p4arlrbrfrfrt C L x9 x3 h kr) (p4arlrbrfrfrf C L x9 x3 h kr kn)
theorem ep4arlrbrfrfr (C : CF) (L : Nat) {β : Type} (x9 : Value) (x3 : Value) (h : H) (K : Ex → T Value → H → Option β) :
    execK Tryz.prog C L 0 26 [2] c4arlrbrfrfr [] [(0, [])] (fs [(9, x9), (3, x3)]) h K =
      p4arlrbrfrfr C L x9 x3 h (fun x2 h => K .ret (fs [(2, x2)]) h) (fun h => K .normal (fs []) h) := by
  rw [execK_cond (a := c4arlrbrfrfrt) (b := c4arlrbrfrfrf) (x := (.tmp 9)) (v := x9) (by kernel_rfl) (by kernel_rfl), ep4arlrbrfrfrt, ep4arlrbrfrfrf]
  unfold p4arlrbrfrfr
  rfl
noncomputable def p4arlrbrfrf (C : CF) (L : Nat) {β : Type} (x7 : Value) (x3 : Value) (h : H) (kr : Value → H → Option β) (kn : H → Option β) : Option β :=
  p4arlrbrfrfl C L x7 x3 h (fun x9 x3 h => p4arlrbrfrfr C L x9 x3 h kr kn)
theorem ep4arlrbrfrf (C : CF) (L : Nat) {β : Type} (x7 : Value) (x3 : Value) (h : H) (K : Ex → T Value → H → Option β) :
    execK Tryz.prog C L 0 26 [2] c4arlrbrfrf [] [(0, [])] (fs [(7, x7), (3, x3)]) h K =
      p4arlrbrfrf C L x7 x3 h (fun x2 h => K .ret (fs [(2, x2)]) h) (fun h => K .normal (fs []) h) := by
  rw [execK_seq (a := c4arlrbrfrfl) (b := c4arlrbrfrfr) (by kernel_rfl) (show live [2] c4arlrbrfrfr [] [(0, [])] = [9, 3] by kernel_rfl), ep4arlrbrfrfl]
  unfold p4arlrbrfrf
  exact (congrArg (p4arlrbrfrfl C L x7 x3 h) (funext fun x9 => funext fun x3 => funext fun h => (seqK_n _ _ _).trans (ep4arlrbrfrfr C L x9 x3 h K)))
noncomputable def p4arlrbrfr (C : CF) (L : Nat) {β : Type} (x7 : Value) (x3 : Value) (h : H) (kr : Value → H → Option β) (kn : H → Option β) : Option β :=
  condV x7 (p4arlrbrfrt C L x7 x3 h kr) (p4arlrbrfrf C L x7 x3 h kr kn)
theorem ep4arlrbrfr (C : CF) (L : Nat) {β : Type} (x7 : Value) (x3 : Value) (h : H) (K : Ex → T Value → H → Option β) :
    execK Tryz.prog C L 0 26 [2] c4arlrbrfr [] [(0, [])] (fs [(7, x7), (3, x3)]) h K =
      p4arlrbrfr C L x7 x3 h (fun x2 h => K .ret (fs [(2, x2)]) h) (fun h => K .normal (fs []) h) := by
  rw [execK_cond (a := c4arlrbrfrt) (b := c4arlrbrfrf) (x := (.tmp 7)) (v := x7) (by kernel_rfl) (by kernel_rfl), ep4arlrbrfrt, ep4arlrbrfrf]
  unfold p4arlrbrfr
  rfl
noncomputable def p4arlrbrf (C : CF) (L : Nat) {β : Type} (x4 : Value) (x3 : Value) (h : H) (kr : Value → H → Option β) (kn : H → Option β) : Option β :=
  p4arlrbrfl C L x4 x3 h (fun x7 x3 h => p4arlrbrfr C L x7 x3 h kr kn)
theorem ep4arlrbrf (C : CF) (L : Nat) {β : Type} (x4 : Value) (x3 : Value) (h : H) (K : Ex → T Value → H → Option β) :
    execK Tryz.prog C L 0 26 [2] c4arlrbrf [] [(0, [])] (fs [(4, x4), (3, x3)]) h K =
      p4arlrbrf C L x4 x3 h (fun x2 h => K .ret (fs [(2, x2)]) h) (fun h => K .normal (fs []) h) := by
  rw [execK_seq (a := c4arlrbrfl) (b := c4arlrbrfr) (by kernel_rfl) (show live [2] c4arlrbrfr [] [(0, [])] = [7, 3] by kernel_rfl), ep4arlrbrfl]
  unfold p4arlrbrf
  exact (congrArg (p4arlrbrfl C L x4 x3 h) (funext fun x7 => funext fun x3 => funext fun h => (seqK_n _ _ _).trans (ep4arlrbrfr C L x7 x3 h K)))
noncomputable def p4arlrbr (C : CF) (L : Nat) {β : Type} (x4 : Value) (x3 : Value) (h : H) (kr : Value → H → Option β) (kn : H → Option β) : Option β :=
  condV x4 (p4arlrbrt C L x4 x3 h kr) (p4arlrbrf C L x4 x3 h kr kn)
theorem ep4arlrbr (C : CF) (L : Nat) {β : Type} (x4 : Value) (x3 : Value) (h : H) (K : Ex → T Value → H → Option β) :
    execK Tryz.prog C L 0 26 [2] c4arlrbr [] [(0, [])] (fs [(4, x4), (3, x3)]) h K =
      p4arlrbr C L x4 x3 h (fun x2 h => K .ret (fs [(2, x2)]) h) (fun h => K .normal (fs []) h) := by
  rw [execK_cond (a := c4arlrbrt) (b := c4arlrbrf) (x := (.tmp 4)) (v := x4) (by kernel_rfl) (by kernel_rfl), ep4arlrbrt, ep4arlrbrf]
  unfold p4arlrbr
  rfl
noncomputable def p4arlrb (C : CF) (L : Nat) {β : Type} (x3 : Value) (h : H) (kr : Value → H → Option β) (kn : H → Option β) : Option β :=
  p4arlrbl C L x3 h (fun x4 x3 h => p4arlrbr C L x4 x3 h kr kn)
theorem ep4arlrb (C : CF) (L : Nat) {β : Type} (x3 : Value) (h : H) (K : Ex → T Value → H → Option β) :
    execK Tryz.prog C L 0 26 [2] c4arlrb [] [(0, [])] (fs [(3, x3)]) h K =
      p4arlrb C L x3 h (fun x2 h => K .ret (fs [(2, x2)]) h) (fun h => K .normal (fs []) h) := by
  rw [execK_seq (a := c4arlrbl) (b := c4arlrbr) (by kernel_rfl) (show live [2] c4arlrbr [] [(0, [])] = [4, 3] by kernel_rfl), ep4arlrbl]
  unfold p4arlrb
  exact (congrArg (p4arlrbl C L x3 h) (funext fun x4 => funext fun x3 => funext fun h => (seqK_n _ _ _).trans (ep4arlrbr C L x4 x3 h K)))
noncomputable def p4arlr (C : CF) (L : Nat) {β : Type} (x3 : Value) (h : H) (kr : Value → H → Option β) (kn : H → Option β) : Option β :=
  p4arlrb C L x3 h kr kn
theorem ep4arlr (C : CF) (L : Nat) {β : Type} (x3 : Value) (h : H) (K : Ex → T Value → H → Option β) :
    execK Tryz.prog C L 0 26 [2] c4arlr [] [] (fs [(3, x3)]) h K =
      p4arlr C L x3 h (fun x2 h => K .ret (fs [(2, x2)]) h) (fun h => K .normal (fs []) h) := by
  rw [execK_block (b := c4arlrb) (id := 0) (by kernel_rfl), ep4arlrb]
  unfold p4arlr
  rfl
noncomputable def p4arl (C : CF) (L : Nat) {β : Type} (x0 : Value) (h : H) (kr : Value → H → Option β) (kn : H → Option β) : Option β :=
  p4arll C L x0 h (fun x3 h => p4arlr C L x3 h kr kn)
theorem ep4arl (C : CF) (L : Nat) {β : Type} (x0 : Value) (h : H) (K : Ex → T Value → H → Option β) :
    execK Tryz.prog C L 0 26 [2] c4arl [] [] (fs [(0, x0)]) h K =
      p4arl C L x0 h (fun x2 h => K .ret (fs [(2, x2)]) h) (fun h => K .normal (fs []) h) := by
  rw [execK_seq (a := c4arll) (b := c4arlr) (by kernel_rfl) (show live [2] c4arlr [] [] = [3] by kernel_rfl), ep4arll]
  unfold p4arl
  exact (congrArg (p4arll C L x0 h) (funext fun x3 => funext fun h => (seqK_n _ _ _).trans (ep4arlr C L x3 h K)))
noncomputable def c4arr : Code := cR c4ar
noncomputable def p4arr (C : CF) (L : Nat) {β : Type} (h : H) (kr : Value → H → Option β) : Option β :=
  kr (.int .i64 0) h
theorem ep4arr (C : CF) (L : Nat) {β : Type} (h : H) (K : Ex → T Value → H → Option β) :
    execK Tryz.prog C L 0 26 [2] c4arr [2] [] (fs []) h K =
      p4arr C L h (fun x2 h => K .ret (fs [(2, x2)]) h) := by
  kernel_rfl
noncomputable def p4ar (C : CF) (L : Nat) {β : Type} (x0 : Value) (h : H) (kr : Value → H → Option β) : Option β :=
  p4arl C L x0 h kr (fun h => p4arr C L h kr)
theorem ep4ar (C : CF) (L : Nat) {β : Type} (x0 : Value) (h : H) (K : Ex → T Value → H → Option β) :
    execK Tryz.prog C L 0 26 [2] c4ar [2] [] (fs [(0, x0)]) h K =
      p4ar C L x0 h (fun x2 h => K .ret (fs [(2, x2)]) h) := by
  rw [execK_seq (a := c4arl) (b := c4arr) (by kernel_rfl) (show live [2] c4arr [2] [] = [] by kernel_rfl), ep4arl]
  unfold p4ar
  exact (congr (congrArg (p4arl C L x0 h) (funext fun x2 => funext fun h => seqK_r _ _ _)) (funext fun h => (seqK_n _ _ _).trans (ep4arr C L h K)))
noncomputable def p4a (C : CF) (L : Nat) {β : Type} (x0 : Value) (h : H) (kr : Value → H → Option β) : Option β :=
  p4al C L x0 h (fun x0 h => p4ar C L x0 h kr)
theorem ep4a (C : CF) (L : Nat) {β : Type} (x0 : Value) (h : H) (K : Ex → T Value → H → Option β) :
    execK Tryz.prog C L 0 26 [2] c4a [2] [] (fs [(0, x0)]) h K =
      p4a C L x0 h (fun x2 h => K .ret (fs [(2, x2)]) h) := by
  rw [execK_seq (a := c4al) (b := c4ar) (by kernel_rfl) (show live [2] c4ar [2] [] = [0] by kernel_rfl), ep4al]
  unfold p4a
  exact (congrArg (p4al C L x0 h) (funext fun x0 => funext fun h => (seqK_n _ _ _).trans (ep4ar C L x0 h K)))
noncomputable def F4 (C : CF) (L : Nat) (x0 : Value) (h : H) : Option (Value × H) :=
  p4a C L x0 h
    (fun x2 h => some (x2, h))
theorem F4eq (O : List FuncId) (hO : O.any (Nat.beq 4) = false) (n : Nat) (x0 : Value) (h : H) : callB Tryz.prog 0 O (n + 1) 4 [x0] h = F4 (callB Tryz.prog 0 O n) n x0 h := by
  rw [callB_eq hO (c := c4a) (nt := 26) (RR := [2]) (fr := (fs [(0, x0)])) Tryz.func4 (by kernel_rfl) (by kernel_rfl) (by kernel_rfl) (by kernel_rfl) (by kernel_rfl), ep4a]
  kernel_rfl

/-! F5: relayhouse/relayhouseref22.Lane -/
noncomputable def c5a : Code := (Tryz.f5.body).getD .skip
noncomputable def p5a (C : CF) (L : Nat) {β : Type} (x0 : Value) (h : H) (kr : Value → H → Option β) : Option β :=
  bnd (A.bin Tryz.prog .gtr 5 x0 (.int .u8 15)) fun t4 =>
  toBK t4 fun b =>
  (bif b then
  kr (.int .i64 0) h
  else
  bnd2 (A.buildSlice 1 16 Z3L [(0, 1, (.int .i64 0)), (1, 1, (.int .i64 1)), (2, 1, (.int .i64 1)), (3, 1, (.int .i64 2)), (4, 1, (.int .i64 3)), (5, 1, (.int .i64 4)), (6, 1, (.int .i64 4)), (7, 1, (.int .i64 4)), (8, 1, (.int .i64 5)), (9, 1, (.int .i64 5)), (10, 1, (.int .i64 5)), (11, 1, (.int .i64 5)), (12, 1, (.int .i64 6)), (13, 1, (.int .i64 7)), (14, 1, (.int .i64 7)), (15, 1, (.int .i64 7))] h) fun t5 hq1 =>
  bnd (A.idxS 1 t5 x0) fun t7 =>
  bnd (A.load false 1 t7 hq1) fun t8 =>
  kr t8 hq1)
theorem ep5a (C : CF) (L : Nat) {β : Type} (x0 : Value) (h : H) (K : Ex → T Value → H → Option β) :
    execK Tryz.prog C L 0 9 [2] c5a [2] [] (fs [(0, x0)]) h K =
      p5a C L x0 h (fun x2 h => K .ret (fs [(2, x2)]) h) := by
  kernel_rfl
noncomputable def F5 (C : CF) (L : Nat) (x0 : Value) (h : H) : Option (Value × H) :=
  p5a C L x0 h
    (fun x2 h => some (x2, h))
theorem F5eq (O : List FuncId) (hO : O.any (Nat.beq 5) = false) (n : Nat) (x0 : Value) (h : H) : callB Tryz.prog 0 O (n + 1) 5 [x0] h = F5 (callB Tryz.prog 0 O n) n x0 h := by
  rw [callB_eq hO (c := c5a) (nt := 9) (RR := [2]) (fr := (fs [(0, x0)])) Tryz.func5 (by kernel_rfl) (by kernel_rfl) (by kernel_rfl) (by kernel_rfl) (by kernel_rfl), ep5a]
  kernel_rfl

end Go.Proofs.YtoohgaejekfmdaaGreatDoor.WlD
