/-
  Functions of the program over the abstract machine: printed by a program of mine (wip/tools/Dec.lean), each with its equation to the machine's call.
-/
import Derived.Test.YtpohcbdpgjhhhaaGreatDoorProg
import Derived.Test.YtpohcbdpgjhhhaaGreatDoorAmDec
set_option linter.unusedVariables false
set_option maxRecDepth 100000
namespace Go.Proofs.YtpohcbdpgjhhhaaGreatDoor.SbD
open Go Go.AM


/-! F3: relayhouse/relayhouselaw29.SettleBounds -/
noncomputable def c3a : Code := (Tryz.f3.body).getD .skip
noncomputable def p3a (C : CF) (L : Nat) {β : Type} (x0 : Value) (x1 : Value) (x2 : Value) (h : H) (kr : Value → H → Option β) : Option β :=
  bnd2 (C 4 [x0, x1, x2] h) fun t10 hq1 =>
  bnd2 (C 5 [x0, x1, x2] hq1) fun t14 hq2 =>
  bnd (A.bin Tryz.prog .eql 3 t10 t14) fun t15 =>
  toBK t15 fun b =>
  (bif b then
  bnd2 (C 6 [] hq2) fun t17 hq3 =>
  toBK t17 fun bq1 =>
  kr (.bool bq1) hq3
  else
  kr (.bool false) hq2)
theorem ep3a (C : CF) (L : Nat) {β : Type} (x0 : Value) (x1 : Value) (x2 : Value) (h : H) (K : Ex → T Value → H → Option β) :
    execK Tryz.prog C L 0 19 [6] c3a [6] [] (fs [(0, x0), (1, x1), (2, x2)]) h K =
      p3a C L x0 x1 x2 h (fun x6 h => K .ret (fs [(6, x6)]) h) := by
  kernel_rfl
noncomputable def F3 (C : CF) (L : Nat) (x0 : Value) (x1 : Value) (x2 : Value) (h : H) : Option (Value × H) :=
  p3a C L x0 x1 x2 h
    (fun x6 h => some (x6, h))
theorem F3eq (O : List FuncId) (hO : O.any (Nat.beq 3) = false) (n : Nat) (x0 : Value) (x1 : Value) (x2 : Value) (h : H) : callB Tryz.prog 0 O (n + 1) 3 [x0, x1, x2] h = F3 (callB Tryz.prog 0 O n) n x0 x1 x2 h := by
  rw [callB_eq hO (c := c3a) (nt := 19) (RR := [6]) (fr := (fs [(0, x0), (1, x1), (2, x2)])) Tryz.func3 (by kernel_rfl) (by kernel_rfl) (by kernel_rfl) (by kernel_rfl) (by kernel_rfl), ep3a]
  kernel_rfl

/-! F4: relayhouse/settle.Bound -/
noncomputable def c4a : Code := (Tryz.f4.body).getD .skip
noncomputable def c4al : Code := cL c4a
noncomputable def p4al (C : CF) (L : Nat) {β : Type} (x0 : Value) (x1 : Value) (x2 : Value) (h : H) (kn : Value → Value → Value → H → Option β) : Option β :=
  kn x2 x1 x0 h
theorem ep4al (C : CF) (L : Nat) {β : Type} (x0 : Value) (x1 : Value) (x2 : Value) (h : H) (K : Ex → T Value → H → Option β) :
    execK Tryz.prog C L 0 40 [6] c4al [2, 1, 0] [] (fs [(0, x0), (1, x1), (2, x2)]) h K =
      p4al C L x0 x1 x2 h (fun x2 x1 x0 h => K .normal (fs [(2, x2), (1, x1), (0, x0)]) h) := by
  kernel_rfl
noncomputable def c4ar : Code := cR c4a
noncomputable def c4arl : Code := cL c4ar
noncomputable def c4arll : Code := cL c4arl
noncomputable def p4arll (C : CF) (L : Nat) {β : Type} (x2 : Value) (x1 : Value) (x0 : Value) (h : H) (kn : Value → Value → Value → Value → H → Option β) : Option β :=
  bnd (A.bin Tryz.prog .lss 3 x0 (.int .i64 1)) fun t8 =>
  toBK t8 fun b =>
  (bif b then
  kn (.bool true) x2 x1 x0 h
  else
  bnd (A.bin Tryz.prog .gtr 3 x0 (.int .i64 64)) fun t11 =>
  toBK t11 fun bq1 =>
  (bif bq1 then
  kn (.bool true) x2 x1 x0 h
  else
  bnd (A.bin Tryz.prog .lss 3 x1 (.int .i64 0)) fun t15 =>
  toBK t15 fun bq2 =>
  (bif bq2 then
  kn (.bool true) x2 x1 x0 h
  else
  bnd (A.bin Tryz.prog .gtr 3 x1 (.int .i64 4096)) fun t19 =>
  toBK t19 fun bq3 =>
  (bif bq3 then
  kn (.bool true) x2 x1 x0 h
  else
  bnd (A.bin Tryz.prog .lss 3 x2 (.int .i64 0)) fun t23 =>
  toBK t23 fun bq4 =>
  (bif bq4 then
  kn (.bool true) x2 x1 x0 h
  else
  bnd (A.bin Tryz.prog .gtr 3 x2 (.int .i64 2147483648)) fun t27 =>
  toBK t27 fun bq5 =>
  kn (.bool bq5) x2 x1 x0 h)))))
theorem ep4arll (C : CF) (L : Nat) {β : Type} (x2 : Value) (x1 : Value) (x0 : Value) (h : H) (K : Ex → T Value → H → Option β) :
    execK Tryz.prog C L 0 40 [6] c4arll [28, 2, 1, 0] [] (fs [(2, x2), (1, x1), (0, x0)]) h K =
      p4arll C L x2 x1 x0 h (fun x28 x2 x1 x0 h => K .normal (fs [(28, x28), (2, x2), (1, x1), (0, x0)]) h) := by
  kernel_rfl
noncomputable def c4arlr : Code := cR c4arl
noncomputable def p4arlr (C : CF) (L : Nat) {β : Type} (x28 : Value) (x2 : Value) (x1 : Value) (x0 : Value) (h : H) (kr : Value → H → Option β) (kn : Value → Value → Value → H → Option β) : Option β :=
  condV x28 (
  kr (.int .i64 0) h) (
  kn x2 x1 x0 h)
theorem ep4arlr (C : CF) (L : Nat) {β : Type} (x28 : Value) (x2 : Value) (x1 : Value) (x0 : Value) (h : H) (K : Ex → T Value → H → Option β) :
    execK Tryz.prog C L 0 40 [6] c4arlr [2, 1, 0] [] (fs [(28, x28), (2, x2), (1, x1), (0, x0)]) h K =
      p4arlr C L x28 x2 x1 x0 h (fun x6 h => K .ret (fs [(6, x6)]) h) (fun x2 x1 x0 h => K .normal (fs [(2, x2), (1, x1), (0, x0)]) h) := by
  kernel_rfl
noncomputable def p4arl (C : CF) (L : Nat) {β : Type} (x2 : Value) (x1 : Value) (x0 : Value) (h : H) (kr : Value → H → Option β) (kn : Value → Value → Value → H → Option β) : Option β :=
  p4arll C L x2 x1 x0 h (fun x28 x2 x1 x0 h => p4arlr C L x28 x2 x1 x0 h kr kn)
theorem ep4arl (C : CF) (L : Nat) {β : Type} (x2 : Value) (x1 : Value) (x0 : Value) (h : H) (K : Ex → T Value → H → Option β) :
    execK Tryz.prog C L 0 40 [6] c4arl [2, 1, 0] [] (fs [(2, x2), (1, x1), (0, x0)]) h K =
      p4arl C L x2 x1 x0 h (fun x6 h => K .ret (fs [(6, x6)]) h) (fun x2 x1 x0 h => K .normal (fs [(2, x2), (1, x1), (0, x0)]) h) := by
  rw [execK_seq (a := c4arll) (b := c4arlr) (by kernel_rfl) (show live [6] c4arlr [2, 1, 0] [] = [28, 2, 1, 0] by kernel_rfl), ep4arll]
  unfold p4arl
  exact (congrArg (p4arll C L x2 x1 x0 h) (funext fun x28 => funext fun x2 => funext fun x1 => funext fun x0 => funext fun h => (seqK_n _ _ _).trans (ep4arlr C L x28 x2 x1 x0 h K)))
noncomputable def c4arr : Code := cR c4ar
noncomputable def p4arr (C : CF) (L : Nat) {β : Type} (x2 : Value) (x1 : Value) (x0 : Value) (h : H) (kr : Value → H → Option β) : Option β :=
  bnd (A.bin Tryz.prog .quo 3 x2 (.int .i64 2)) fun t30 =>
  bnd (A.bin Tryz.prog .add 3 t30 x1) fun t32 =>
  bnd (A.bin Tryz.prog .add 3 t32 (.int .i64 1)) fun t33 =>
  bnd (A.bin Tryz.prog .add 3 x0 (.int .i64 4)) fun t35 =>
  bnd (A.bin Tryz.prog .mul 3 t33 t35) fun t36 =>
  bnd (A.bin Tryz.prog .add 3 x0 (.int .i64 4)) fun t38 =>
  bnd (A.bin Tryz.prog .mul 3 t36 t38) fun t39 =>
  kr t39 h
theorem ep4arr (C : CF) (L : Nat) {β : Type} (x2 : Value) (x1 : Value) (x0 : Value) (h : H) (K : Ex → T Value → H → Option β) :
    execK Tryz.prog C L 0 40 [6] c4arr [6] [] (fs [(2, x2), (1, x1), (0, x0)]) h K =
      p4arr C L x2 x1 x0 h (fun x6 h => K .ret (fs [(6, x6)]) h) := by
  kernel_rfl
noncomputable def p4ar (C : CF) (L : Nat) {β : Type} (x2 : Value) (x1 : Value) (x0 : Value) (h : H) (kr : Value → H → Option β) : Option β :=
  p4arl C L x2 x1 x0 h kr (fun x2 x1 x0 h => p4arr C L x2 x1 x0 h kr)
theorem ep4ar (C : CF) (L : Nat) {β : Type} (x2 : Value) (x1 : Value) (x0 : Value) (h : H) (K : Ex → T Value → H → Option β) :
    execK Tryz.prog C L 0 40 [6] c4ar [6] [] (fs [(2, x2), (1, x1), (0, x0)]) h K =
      p4ar C L x2 x1 x0 h (fun x6 h => K .ret (fs [(6, x6)]) h) := by
  rw [execK_seq (a := c4arl) (b := c4arr) (by kernel_rfl) (show live [6] c4arr [6] [] = [2, 1, 0] by kernel_rfl), ep4arl]
  unfold p4ar
  exact (congr (congrArg (p4arl C L x2 x1 x0 h) (funext fun x6 => funext fun h => seqK_r _ _ _)) (funext fun x2 => funext fun x1 => funext fun x0 => funext fun h => (seqK_n _ _ _).trans (ep4arr C L x2 x1 x0 h K)))
noncomputable def p4a (C : CF) (L : Nat) {β : Type} (x0 : Value) (x1 : Value) (x2 : Value) (h : H) (kr : Value → H → Option β) : Option β :=
  p4al C L x0 x1 x2 h (fun x2 x1 x0 h => p4ar C L x2 x1 x0 h kr)
theorem ep4a (C : CF) (L : Nat) {β : Type} (x0 : Value) (x1 : Value) (x2 : Value) (h : H) (K : Ex → T Value → H → Option β) :
    execK Tryz.prog C L 0 40 [6] c4a [6] [] (fs [(0, x0), (1, x1), (2, x2)]) h K =
      p4a C L x0 x1 x2 h (fun x6 h => K .ret (fs [(6, x6)]) h) := by
  rw [execK_seq (a := c4al) (b := c4ar) (by kernel_rfl) (show live [6] c4ar [6] [] = [2, 1, 0] by kernel_rfl), ep4al]
  unfold p4a
  exact (congrArg (p4al C L x0 x1 x2 h) (funext fun x2 => funext fun x1 => funext fun x0 => funext fun h => (seqK_n _ _ _).trans (ep4ar C L x2 x1 x0 h K)))
noncomputable def F4 (C : CF) (L : Nat) (x0 : Value) (x1 : Value) (x2 : Value) (h : H) : Option (Value × H) :=
  p4a C L x0 x1 x2 h
    (fun x6 h => some (x6, h))
theorem F4eq (O : List FuncId) (hO : O.any (Nat.beq 4) = false) (n : Nat) (x0 : Value) (x1 : Value) (x2 : Value) (h : H) : callB Tryz.prog 0 O (n + 1) 4 [x0, x1, x2] h = F4 (callB Tryz.prog 0 O n) n x0 x1 x2 h := by
  rw [callB_eq hO (c := c4a) (nt := 40) (RR := [6]) (fr := (fs [(0, x0), (1, x1), (2, x2)])) Tryz.func4 (by kernel_rfl) (by kernel_rfl) (by kernel_rfl) (by kernel_rfl) (by kernel_rfl), ep4a]
  kernel_rfl

/-! F5: relayhouse/relayhouseref29.Bound -/
noncomputable def c5a : Code := (Tryz.f5.body).getD .skip
noncomputable def c5al : Code := cL c5a
noncomputable def p5al (C : CF) (L : Nat) {β : Type} (x0 : Value) (x1 : Value) (x2 : Value) (h : H) (kn : Value → Value → Value → H → Option β) : Option β :=
  kn x2 x1 x0 h
theorem ep5al (C : CF) (L : Nat) {β : Type} (x0 : Value) (x1 : Value) (x2 : Value) (h : H) (K : Ex → T Value → H → Option β) :
    execK Tryz.prog C L 0 42 [6] c5al [2, 1, 0] [] (fs [(0, x0), (1, x1), (2, x2)]) h K =
      p5al C L x0 x1 x2 h (fun x2 x1 x0 h => K .normal (fs [(2, x2), (1, x1), (0, x0)]) h) := by
  kernel_rfl
noncomputable def c5ar : Code := cR c5a
noncomputable def c5arl : Code := cL c5ar
noncomputable def c5arll : Code := cL c5arl
noncomputable def p5arll (C : CF) (L : Nat) {β : Type} (x2 : Value) (x1 : Value) (x0 : Value) (h : H) (kn : Value → Value → Value → Value → H → Option β) : Option β :=
  bnd (A.bin Tryz.prog .lss 3 x0 (.int .i64 1)) fun t8 =>
  toBK t8 fun b =>
  (bif b then
  kn (.bool true) x2 x1 x0 h
  else
  bnd (A.bin Tryz.prog .gtr 3 x0 (.int .i64 64)) fun t11 =>
  toBK t11 fun bq1 =>
  (bif bq1 then
  kn (.bool true) x2 x1 x0 h
  else
  bnd (A.bin Tryz.prog .lss 3 x1 (.int .i64 0)) fun t15 =>
  toBK t15 fun bq2 =>
  (bif bq2 then
  kn (.bool true) x2 x1 x0 h
  else
  bnd (A.bin Tryz.prog .gtr 3 x1 (.int .i64 4096)) fun t19 =>
  toBK t19 fun bq3 =>
  (bif bq3 then
  kn (.bool true) x2 x1 x0 h
  else
  bnd (A.bin Tryz.prog .lss 3 x2 (.int .i64 0)) fun t23 =>
  toBK t23 fun bq4 =>
  (bif bq4 then
  kn (.bool true) x2 x1 x0 h
  else
  bnd (A.bin Tryz.prog .gtr 3 x2 (.int .i64 2147483648)) fun t27 =>
  toBK t27 fun bq5 =>
  kn (.bool bq5) x2 x1 x0 h)))))
theorem ep5arll (C : CF) (L : Nat) {β : Type} (x2 : Value) (x1 : Value) (x0 : Value) (h : H) (K : Ex → T Value → H → Option β) :
    execK Tryz.prog C L 0 42 [6] c5arll [28, 2, 1, 0] [] (fs [(2, x2), (1, x1), (0, x0)]) h K =
      p5arll C L x2 x1 x0 h (fun x28 x2 x1 x0 h => K .normal (fs [(28, x28), (2, x2), (1, x1), (0, x0)]) h) := by
  kernel_rfl
noncomputable def c5arlr : Code := cR c5arl
noncomputable def p5arlr (C : CF) (L : Nat) {β : Type} (x28 : Value) (x2 : Value) (x1 : Value) (x0 : Value) (h : H) (kr : Value → H → Option β) (kn : Value → Value → Value → H → Option β) : Option β :=
  condV x28 (
  kr (.int .i64 0) h) (
  kn x2 x1 x0 h)
theorem ep5arlr (C : CF) (L : Nat) {β : Type} (x28 : Value) (x2 : Value) (x1 : Value) (x0 : Value) (h : H) (K : Ex → T Value → H → Option β) :
    execK Tryz.prog C L 0 42 [6] c5arlr [2, 1, 0] [] (fs [(28, x28), (2, x2), (1, x1), (0, x0)]) h K =
      p5arlr C L x28 x2 x1 x0 h (fun x6 h => K .ret (fs [(6, x6)]) h) (fun x2 x1 x0 h => K .normal (fs [(2, x2), (1, x1), (0, x0)]) h) := by
  kernel_rfl
noncomputable def p5arl (C : CF) (L : Nat) {β : Type} (x2 : Value) (x1 : Value) (x0 : Value) (h : H) (kr : Value → H → Option β) (kn : Value → Value → Value → H → Option β) : Option β :=
  p5arll C L x2 x1 x0 h (fun x28 x2 x1 x0 h => p5arlr C L x28 x2 x1 x0 h kr kn)
theorem ep5arl (C : CF) (L : Nat) {β : Type} (x2 : Value) (x1 : Value) (x0 : Value) (h : H) (K : Ex → T Value → H → Option β) :
    execK Tryz.prog C L 0 42 [6] c5arl [2, 1, 0] [] (fs [(2, x2), (1, x1), (0, x0)]) h K =
      p5arl C L x2 x1 x0 h (fun x6 h => K .ret (fs [(6, x6)]) h) (fun x2 x1 x0 h => K .normal (fs [(2, x2), (1, x1), (0, x0)]) h) := by
  rw [execK_seq (a := c5arll) (b := c5arlr) (by kernel_rfl) (show live [6] c5arlr [2, 1, 0] [] = [28, 2, 1, 0] by kernel_rfl), ep5arll]
  unfold p5arl
  exact (congrArg (p5arll C L x2 x1 x0 h) (funext fun x28 => funext fun x2 => funext fun x1 => funext fun x0 => funext fun h => (seqK_n _ _ _).trans (ep5arlr C L x28 x2 x1 x0 h K)))
noncomputable def c5arr : Code := cR c5ar
noncomputable def p5arr (C : CF) (L : Nat) {β : Type} (x2 : Value) (x1 : Value) (x0 : Value) (h : H) (kr : Value → H → Option β) : Option β :=
  bnd (A.bin Tryz.prog .quo 3 x2 (.int .i64 2)) fun t30 =>
  bnd (A.bin Tryz.prog .add 3 t30 x1) fun t32 =>
  bnd (A.bin Tryz.prog .add 3 t32 (.int .i64 1)) fun t33 =>
  bnd (A.bin Tryz.prog .mul 3 x0 x0) fun t36 =>
  bnd (A.bin Tryz.prog .mul 3 (.int .i64 8) x0) fun t38 =>
  bnd (A.bin Tryz.prog .add 3 t36 t38) fun t39 =>
  bnd (A.bin Tryz.prog .add 3 t39 (.int .i64 16)) fun t40 =>
  bnd (A.bin Tryz.prog .mul 3 t33 t40) fun t41 =>
  kr t41 h
theorem ep5arr (C : CF) (L : Nat) {β : Type} (x2 : Value) (x1 : Value) (x0 : Value) (h : H) (K : Ex → T Value → H → Option β) :
    execK Tryz.prog C L 0 42 [6] c5arr [6] [] (fs [(2, x2), (1, x1), (0, x0)]) h K =
      p5arr C L x2 x1 x0 h (fun x6 h => K .ret (fs [(6, x6)]) h) := by
  kernel_rfl
noncomputable def p5ar (C : CF) (L : Nat) {β : Type} (x2 : Value) (x1 : Value) (x0 : Value) (h : H) (kr : Value → H → Option β) : Option β :=
  p5arl C L x2 x1 x0 h kr (fun x2 x1 x0 h => p5arr C L x2 x1 x0 h kr)
theorem ep5ar (C : CF) (L : Nat) {β : Type} (x2 : Value) (x1 : Value) (x0 : Value) (h : H) (K : Ex → T Value → H → Option β) :
    execK Tryz.prog C L 0 42 [6] c5ar [6] [] (fs [(2, x2), (1, x1), (0, x0)]) h K =
      p5ar C L x2 x1 x0 h (fun x6 h => K .ret (fs [(6, x6)]) h) := by
  rw [execK_seq (a := c5arl) (b := c5arr) (by kernel_rfl) (show live [6] c5arr [6] [] = [2, 1, 0] by kernel_rfl), ep5arl]
  unfold p5ar
  exact (congr (congrArg (p5arl C L x2 x1 x0 h) (funext fun x6 => funext fun h => seqK_r _ _ _)) (funext fun x2 => funext fun x1 => funext fun x0 => funext fun h => (seqK_n _ _ _).trans (ep5arr C L x2 x1 x0 h K)))
noncomputable def p5a (C : CF) (L : Nat) {β : Type} (x0 : Value) (x1 : Value) (x2 : Value) (h : H) (kr : Value → H → Option β) : Option β :=
  p5al C L x0 x1 x2 h (fun x2 x1 x0 h => p5ar C L x2 x1 x0 h kr)
theorem ep5a (C : CF) (L : Nat) {β : Type} (x0 : Value) (x1 : Value) (x2 : Value) (h : H) (K : Ex → T Value → H → Option β) :
    execK Tryz.prog C L 0 42 [6] c5a [6] [] (fs [(0, x0), (1, x1), (2, x2)]) h K =
      p5a C L x0 x1 x2 h (fun x6 h => K .ret (fs [(6, x6)]) h) := by
  rw [execK_seq (a := c5al) (b := c5ar) (by kernel_rfl) (show live [6] c5ar [6] [] = [2, 1, 0] by kernel_rfl), ep5al]
  unfold p5a
  exact (congrArg (p5al C L x0 x1 x2 h) (funext fun x2 => funext fun x1 => funext fun x0 => funext fun h => (seqK_n _ _ _).trans (ep5ar C L x2 x1 x0 h K)))
noncomputable def F5 (C : CF) (L : Nat) (x0 : Value) (x1 : Value) (x2 : Value) (h : H) : Option (Value × H) :=
  p5a C L x0 x1 x2 h
    (fun x6 h => some (x6, h))
theorem F5eq (O : List FuncId) (hO : O.any (Nat.beq 5) = false) (n : Nat) (x0 : Value) (x1 : Value) (x2 : Value) (h : H) : callB Tryz.prog 0 O (n + 1) 5 [x0, x1, x2] h = F5 (callB Tryz.prog 0 O n) n x0 x1 x2 h := by
  rw [callB_eq hO (c := c5a) (nt := 42) (RR := [6]) (fr := (fs [(0, x0), (1, x1), (2, x2)])) Tryz.func5 (by kernel_rfl) (by kernel_rfl) (by kernel_rfl) (by kernel_rfl) (by kernel_rfl), ep5a]
  kernel_rfl

end Go.Proofs.YtpohcbdpgjhhhaaGreatDoor.SbD
