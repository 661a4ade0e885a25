/-
  Functions of the program over the abstract machine: printed by a program of mine (wip/tools/Dec.lean), each with its equation to the machine's call.
-/
import Derived.Test.YtdjhkdogpbiglaaProg
import Derived.Test.YtdjhkdogpbiglaaAmDec
set_option linter.unusedVariables false
set_option maxRecDepth 100000
namespace Go.Proofs.Ytdjhkdogpbiglaa.MailF4
open Go Go.AM

noncomputable def Z31 : Value := (.agg ⟨[(.int .u8 0), (.int .i64 0), (.int .i64 0), (.int .i64 0), (.slice none 0 0)]⟩)
noncomputable def Z31L : List Value := [(.int .u8 0), (.int .i64 0), (.int .i64 0), (.int .i64 0), (.slice none 0 0)]

/-! F4: relayhouse/relayhouselaw16.MailRow -/
noncomputable def c4a : Code := (Try.f4.body).getD .skip
noncomputable def c4al : Code := cL c4a
noncomputable def p4al (C : CF) (L : Nat) {β : Type} (x0 : Value) (x1 : Value) (x2 : Value) (h : H) (kn : Value → Value → Value → H → Option β) : Option β :=
  kn x1 x0 x2 h
theorem ep4al (C : CF) (L : Nat) {β : Type} (x0 : Value) (x1 : Value) (x2 : Value) (h : H) (K : Ex → T Value → H → Option β) :
    execK Try.prog C L 0 267 [6] c4al [1, 0, 2] [] (fs [(0, x0), (1, x1), (2, x2)]) h K =
      p4al C L x0 x1 x2 h (fun x1 x0 x2 h => K .normal (fs [(1, x1), (0, x0), (2, x2)]) h) := by
  kernel_rfl
noncomputable def c4ar : Code := cR c4a
noncomputable def c4arl : Code := cL c4ar
noncomputable def p4arl (C : CF) (L : Nat) {β : Type} (x1 : Value) (x0 : Value) (x2 : Value) (h : H) (kr : Value → H → Option β) (kn : Value → Value → Value → H → Option β) : Option β :=
  bnd2 (C 8 [x2] h) fun t21 hq1 =>
  toBK t21 fun b =>
  (bif b then
  bnd2 (C 9 [] hq1) fun t22 hq2 =>
  toBK t22 fun bq1 =>
  kr (.bool bq1) hq2
  else
  kn x1 x0 x2 hq1)
theorem ep4arl (C : CF) (L : Nat) {β : Type} (x1 : Value) (x0 : Value) (x2 : Value) (h : H) (K : Ex → T Value → H → Option β) :
    execK Try.prog C L 0 267 [6] c4arl [1, 0, 2] [] (fs [(1, x1), (0, x0), (2, x2)]) h K =
      p4arl C L x1 x0 x2 h (fun x6 h => K .ret (fs [(6, x6)]) h) (fun x1 x0 x2 h => K .normal (fs [(1, x1), (0, x0), (2, x2)]) h) := by
  kernel_rfl
noncomputable def c4arr : Code := cR c4ar
noncomputable def c4arrl : Code := cL c4arr
noncomputable def p4arrl (C : CF) (L : Nat) {β : Type} (x1 : Value) (x0 : Value) (x2 : Value) (h : H) (kn : Value → Value → Value → Value → H → Option β) : Option β :=
  bnd2 (C 10 [x0, x1] h) fun t25 hq1 =>
  kn x1 x0 x2 t25 hq1
theorem ep4arrl (C : CF) (L : Nat) {β : Type} (x1 : Value) (x0 : Value) (x2 : Value) (h : H) (K : Ex → T Value → H → Option β) :
    execK Try.prog C L 0 267 [6] c4arrl [1, 0, 2, 7] [] (fs [(1, x1), (0, x0), (2, x2)]) h K =
      p4arrl C L x1 x0 x2 h (fun x1 x0 x2 x7 h => K .normal (fs [(1, x1), (0, x0), (2, x2), (7, x7)]) h) := by
  kernel_rfl
noncomputable def c4arrr : Code := cR c4arr
noncomputable def c4arrrl : Code := cL c4arrr
noncomputable def p4arrrl (C : CF) (L : Nat) {β : Type} (x1 : Value) (x0 : Value) (x2 : Value) (x7 : Value) (h : H) (kr : Value → H → Option β) (kn : Value → Value → Value → Value → H → Option β) : Option β :=
  bnd (A.bin Try.prog .eql 25 x7 (.pointer none)) fun t27 =>
  toBK t27 fun b =>
  (bif b then
  bnd (A.bin Try.prog .lss 3 x0 (.int .i64 1)) fun t29 =>
  toBK t29 fun bq1 =>
  (bif bq1 then
  bnd2 (C 9 [] h) fun t43 hq1 =>
  toBK t43 fun bq2 =>
  kr (.bool bq2) hq1
  else
  bnd (A.bin Try.prog .gtr 3 x0 (.int .i64 64)) fun t32 =>
  toBK t32 fun bq3 =>
  (bif bq3 then
  bnd2 (C 9 [] h) fun t43q1 hq2 =>
  toBK t43q1 fun bq4 =>
  kr (.bool bq4) hq2
  else
  bnd (A.bin Try.prog .lss 3 x1 (.int .i64 1)) fun t36 =>
  toBK t36 fun bq5 =>
  (bif bq5 then
  bnd2 (C 9 [] h) fun t43q2 hq3 =>
  toBK t43q2 fun bq6 =>
  kr (.bool bq6) hq3
  else
  bnd (A.bin Try.prog .gtr 3 x1 (.int .i64 64)) fun t40 =>
  toBK t40 fun bq7 =>
  (bif bq7 then
  bnd2 (C 9 [] h) fun t43q3 hq4 =>
  toBK t43q3 fun bq8 =>
  kr (.bool bq8) hq4
  else
  kr (.bool false) h))))
  else
  kn x1 x0 x2 x7 h)
theorem ep4arrrl (C : CF) (L : Nat) {β : Type} (x1 : Value) (x0 : Value) (x2 : Value) (x7 : Value) (h : H) (K : Ex → T Value → H → Option β) :
    execK Try.prog C L 0 267 [6] c4arrrl [1, 0, 2, 7] [] (fs [(1, x1), (0, x0), (2, x2), (7, x7)]) h K =
      p4arrrl C L x1 x0 x2 x7 h (fun x6 h => K .ret (fs [(6, x6)]) h) (fun x1 x0 x2 x7 h => K .normal (fs [(1, x1), (0, x0), (2, x2), (7, x7)]) h) := by
  kernel_rfl
noncomputable def c4arrrr : Code := cR c4arrr
noncomputable def c4arrrrl : Code := cL c4arrrr
noncomputable def p4arrrrl (C : CF) (L : Nat) {β : Type} (x1 : Value) (x0 : Value) (x2 : Value) (x7 : Value) (h : H) (kn : Value → Value → Value → Value → Value → H → Option β) : Option β :=
  kn x1 x0 x2 (.slice none 0 0) x7 h
theorem ep4arrrrl (C : CF) (L : Nat) {β : Type} (x1 : Value) (x0 : Value) (x2 : Value) (x7 : Value) (h : H) (K : Ex → T Value → H → Option β) :
    execK Try.prog C L 0 267 [6] c4arrrrl [1, 0, 2, 8, 7] [] (fs [(1, x1), (0, x0), (2, x2), (7, x7)]) h K =
      p4arrrrl C L x1 x0 x2 x7 h (fun x1 x0 x2 x8 x7 h => K .normal (fs [(1, x1), (0, x0), (2, x2), (8, x8), (7, x7)]) h) := by
  kernel_rfl
noncomputable def c4arrrrr : Code := cR c4arrrr
noncomputable def c4arrrrrl : Code := cL c4arrrrr
noncomputable def c4arrrrrll : Code := cL c4arrrrrl
noncomputable def p4arrrrrll (C : CF) (L : Nat) {β : Type} (x1 : Value) (x0 : Value) (x2 : Value) (x8 : Value) (x7 : Value) (h : H) (kn : Value → Value → Value → Value → Value → Value → H → Option β) : Option β :=
  kn (.int .i64 0) x1 x0 x2 x8 x7 h
theorem ep4arrrrrll (C : CF) (L : Nat) {β : Type} (x1 : Value) (x0 : Value) (x2 : Value) (x8 : Value) (x7 : Value) (h : H) (K : Ex → T Value → H → Option β) :
    execK Try.prog C L 0 267 [6] c4arrrrrll [9, 1, 0, 2, 8, 7] [] (fs [(1, x1), (0, x0), (2, x2), (8, x8), (7, x7)]) h K =
      p4arrrrrll C L x1 x0 x2 x8 x7 h (fun x9 x1 x0 x2 x8 x7 h => K .normal (fs [(9, x9), (1, x1), (0, x0), (2, x2), (8, x8), (7, x7)]) h) := by
  kernel_rfl
noncomputable def c4arrrrrlr : Code := cR c4arrrrrl
noncomputable def c4arrrrrlrb : Code := cL c4arrrrrlr
noncomputable def c4arrrrrlrbo : Code := cL c4arrrrrlrb
noncomputable def c4arrrrrlrbol : Code := cL c4arrrrrlrbo
noncomputable def p4arrrrrlrbol (C : CF) (L : Nat) {β : Type} (x9 : Value) (x1 : Value) (x0 : Value) (x2 : Value) (x8 : Value) (x7 : Value) (h : H) (kn : Value → Value → Value → Value → Value → Value → H → Option β) (kx0 : Value → Value → H → Option β) : Option β :=
  bnd (A.lenS x2) fun t47 =>
  bnd (A.bin Try.prog .lss 3 x9 t47) fun t48 =>
  toBK t48 fun b =>
  (bif b then
  kn x9 x1 x0 x2 x8 x7 h
  else
  kx0 x8 x7 h)
theorem ep4arrrrrlrbol (C : CF) (L : Nat) {β : Type} (x9 : Value) (x1 : Value) (x0 : Value) (x2 : Value) (x8 : Value) (x7 : Value) (h : H) (K : Ex → T Value → H → Option β) :
    execK Try.prog C L 0 267 [6] c4arrrrrlrbol [9, 1, 0, 2, 8, 7] [(0, [8, 7])] (fs [(9, x9), (1, x1), (0, x0), (2, x2), (8, x8), (7, x7)]) h K =
      p4arrrrrlrbol C L x9 x1 x0 x2 x8 x7 h (fun x9 x1 x0 x2 x8 x7 h => K .normal (fs [(9, x9), (1, x1), (0, x0), (2, x2), (8, x8), (7, x7)]) h) (fun x8 x7 h => K (.exit 0) (fs [(8, x8), (7, x7)]) h) := by
  kernel_rfl
noncomputable def c4arrrrrlrbor : Code := cR c4arrrrrlrbo
noncomputable def c4arrrrrlrborl : Code := cL c4arrrrrlrbor
noncomputable def c4arrrrrlrborlb : Code := cL c4arrrrrlrborl
noncomputable def c4arrrrrlrborlbl : Code := cL c4arrrrrlrborlb
noncomputable def p4arrrrrlrborlbl (C : CF) (L : Nat) {β : Type} (x9 : Value) (x1 : Value) (x0 : Value) (x2 : Value) (x8 : Value) (x7 : Value) (h : H) (kn : Value → Value → Value → Value → Value → Value → Value → H → Option β) : Option β :=
  bnd (A.idxS 5 x2 x9) fun t53 =>
  bnd (A.load true 5 t53 h) fun t54 =>
  bnd2 (A.box 5 Z31 h) fun t10 hq1 =>
  bnd (A.store 5 t10 t54 hq1) fun hq2 =>
  kn t10 x9 x1 x0 x2 x8 x7 hq2
theorem ep4arrrrrlrborlbl (C : CF) (L : Nat) {β : Type} (x9 : Value) (x1 : Value) (x0 : Value) (x2 : Value) (x8 : Value) (x7 : Value) (h : H) (K : Ex → T Value → H → Option β) :
    execK Try.prog C L 0 267 [6] c4arrrrrlrborlbl [10, 9, 1, 0, 2, 8, 7] [(1, [9, 1, 0, 2, 8, 7]), (0, [8, 7])] (fs [(9, x9), (1, x1), (0, x0), (2, x2), (8, x8), (7, x7)]) h K =
      p4arrrrrlrborlbl C L x9 x1 x0 x2 x8 x7 h (fun x10 x9 x1 x0 x2 x8 x7 h => K .normal (fs [(10, x10), (9, x9), (1, x1), (0, x0), (2, x2), (8, x8), (7, x7)]) h) := by
  kernel_rfl
noncomputable def c4arrrrrlrborlbr : Code := cR c4arrrrrlrborlb
noncomputable def c4arrrrrlrborlbrl : Code := cL c4arrrrrlrborlbr
noncomputable def p4arrrrrlrborlbrl (C : CF) (L : Nat) {β : Type} (x10 : Value) (x9 : Value) (x1 : Value) (x0 : Value) (x2 : Value) (x8 : Value) (x7 : Value) (h : H) (kn : Value → Value → Value → Value → Value → Value → Value → Value → H → Option β) : Option β :=
  bnd (A.fieldAddr 1 x10) fun t55 =>
  bnd (A.load false 1 t55 h) fun t56 =>
  bnd (A.bin Try.prog .geq 3 t56 (.int .i64 0)) fun t57 =>
  toBK t57 fun b =>
  (bif b then
  bnd (A.fieldAddr 1 x10) fun t59 =>
  bnd (A.load false 1 t59 h) fun t60 =>
  bnd (A.bin Try.prog .lss 3 t60 x0) fun t62 =>
  toBK t62 fun bq1 =>
  (bif bq1 then
  bnd (A.fieldAddr 2 x10) fun t65 =>
  bnd (A.load false 1 t65 h) fun t66 =>
  bnd (A.bin Try.prog .geq 3 t66 (.int .i64 0)) fun t67 =>
  toBK t67 fun bq2 =>
  (bif bq2 then
  bnd (A.fieldAddr 2 x10) fun t70 =>
  bnd (A.load false 1 t70 h) fun t71 =>
  bnd (A.bin Try.prog .lss 3 t71 x0) fun t73 =>
  toBK t73 fun bq3 =>
  (bif bq3 then
  bnd (A.fieldAddr 3 x10) fun t76 =>
  bnd (A.load false 1 t76 h) fun t77 =>
  bnd (A.bin Try.prog .geq 3 t77 (.int .i64 1)) fun t78 =>
  toBK t78 fun bq4 =>
  (bif bq4 then
  bnd (A.fieldAddr 3 x10) fun t81 =>
  bnd (A.load false 1 t81 h) fun t82 =>
  bnd (A.bin Try.prog .leq 3 t82 (.int .i64 7)) fun t83 =>
  toBK t83 fun bq5 =>
  kn (.bool bq5) x10 x9 x1 x0 x2 x8 x7 h
  else
  kn (.bool false) x10 x9 x1 x0 x2 x8 x7 h)
  else
  kn (.bool false) x10 x9 x1 x0 x2 x8 x7 h)
  else
  kn (.bool false) x10 x9 x1 x0 x2 x8 x7 h)
  else
  kn (.bool false) x10 x9 x1 x0 x2 x8 x7 h)
  else
  kn (.bool false) x10 x9 x1 x0 x2 x8 x7 h)
theorem ep4arrrrrlrborlbrl (C : CF) (L : Nat) {β : Type} (x10 : Value) (x9 : Value) (x1 : Value) (x0 : Value) (x2 : Value) (x8 : Value) (x7 : Value) (h : H) (K : Ex → T Value → H → Option β) :
    execK Try.prog C L 0 267 [6] c4arrrrrlrborlbrl [11, 10, 9, 1, 0, 2, 8, 7] [(1, [9, 1, 0, 2, 8, 7]), (0, [8, 7])] (fs [(10, x10), (9, x9), (1, x1), (0, x0), (2, x2), (8, x8), (7, x7)]) h K =
      p4arrrrrlrborlbrl C L x10 x9 x1 x0 x2 x8 x7 h (fun x11 x10 x9 x1 x0 x2 x8 x7 h => K .normal (fs [(11, x11), (10, x10), (9, x9), (1, x1), (0, x0), (2, x2), (8, x8), (7, x7)]) h) := by
  kernel_rfl
noncomputable def c4arrrrrlrborlbrr : Code := cR c4arrrrrlrborlbr
noncomputable def c4arrrrrlrborlbrrl : Code := cL c4arrrrrlrborlbrr
noncomputable def p4arrrrrlrborlbrrl (C : CF) (L : Nat) {β : Type} (x11 : Value) (x10 : Value) (x9 : Value) (x1 : Value) (x0 : Value) (x2 : Value) (x8 : Value) (x7 : Value) (h : H) (kn : Value → Value → Value → Value → Value → Value → Value → Value → Value → Value → H → Option β) : Option β :=
  kn x11 (.int .i64 (-1)) x10 (.int .i64 0) x9 x1 x0 x2 x8 x7 h
theorem ep4arrrrrlrborlbrrl (C : CF) (L : Nat) {β : Type} (x11 : Value) (x10 : Value) (x9 : Value) (x1 : Value) (x0 : Value) (x2 : Value) (x8 : Value) (x7 : Value) (h : H) (K : Ex → T Value → H → Option β) :
    execK Try.prog C L 0 267 [6] c4arrrrrlrborlbrrl [11, 12, 10, 13, 9, 1, 0, 2, 8, 7] [(1, [9, 1, 0, 2, 8, 7]), (0, [8, 7])] (fs [(11, x11), (10, x10), (9, x9), (1, x1), (0, x0), (2, x2), (8, x8), (7, x7)]) h K =
      p4arrrrrlrborlbrrl C L x11 x10 x9 x1 x0 x2 x8 x7 h (fun x11 x12 x10 x13 x9 x1 x0 x2 x8 x7 h => K .normal (fs [(11, x11), (12, x12), (10, x10), (13, x13), (9, x9), (1, x1), (0, x0), (2, x2), (8, x8), (7, x7)]) h) := by
  kernel_rfl
noncomputable def c4arrrrrlrborlbrrr : Code := cR c4arrrrrlrborlbrr
noncomputable def c4arrrrrlrborlbrrrl : Code := cL c4arrrrrlrborlbrrr
noncomputable def c4arrrrrlrborlbrrrll : Code := cL c4arrrrrlrborlbrrrl
noncomputable def p4arrrrrlrborlbrrrll (C : CF) (L : Nat) {β : Type} (x11 : Value) (x12 : Value) (x10 : Value) (x13 : Value) (x9 : Value) (x1 : Value) (x0 : Value) (x2 : Value) (x8 : Value) (x7 : Value) (h : H) (kn : Value → Value → Value → Value → Value → Value → Value → Value → Value → Value → Value → H → Option β) : Option β :=
  kn (.int .i64 0) x11 x12 x10 x13 x9 x1 x0 x2 x8 x7 h
theorem ep4arrrrrlrborlbrrrll (C : CF) (L : Nat) {β : Type} (x11 : Value) (x12 : Value) (x10 : Value) (x13 : Value) (x9 : Value) (x1 : Value) (x0 : Value) (x2 : Value) (x8 : Value) (x7 : Value) (h : H) (K : Ex → T Value → H → Option β) :
    execK Try.prog C L 0 267 [6] c4arrrrrlrborlbrrrll [14, 11, 12, 10, 13, 9, 1, 0, 2, 8, 7] [(1, [9, 1, 0, 2, 8, 7]), (0, [8, 7])] (fs [(11, x11), (12, x12), (10, x10), (13, x13), (9, x9), (1, x1), (0, x0), (2, x2), (8, x8), (7, x7)]) h K =
      p4arrrrrlrborlbrrrll C L x11 x12 x10 x13 x9 x1 x0 x2 x8 x7 h (fun x14 x11 x12 x10 x13 x9 x1 x0 x2 x8 x7 h => K .normal (fs [(14, x14), (11, x11), (12, x12), (10, x10), (13, x13), (9, x9), (1, x1), (0, x0), (2, x2), (8, x8), (7, x7)]) h) := by
  kernel_rfl
noncomputable def c4arrrrrlrborlbrrrlr : Code := cR c4arrrrrlrborlbrrrl
noncomputable def c4arrrrrlrborlbrrrlrb : Code := cL c4arrrrrlrborlbrrrlr
noncomputable def c4arrrrrlrborlbrrrlrbo : Code := cL c4arrrrrlrborlbrrrlrb
noncomputable def c4arrrrrlrborlbrrrlrbol : Code := cL c4arrrrrlrborlbrrrlrbo
noncomputable def p4arrrrrlrborlbrrrlrbol (C : CF) (L : Nat) {β : Type} (x14 : Value) (x11 : Value) (x12 : Value) (x10 : Value) (x13 : Value) (x9 : Value) (x1 : Value) (x0 : Value) (x2 : Value) (x8 : Value) (x7 : Value) (h : H) (kn : Value → Value → Value → Value → Value → Value → Value → Value → Value → Value → Value → H → Option β) (kx2 : Value → Value → Value → Value → Value → Value → Value → Value → Value → Value → H → Option β) : Option β :=
  bnd (A.lenS x8) fun t87 =>
  bnd (A.bin Try.prog .lss 3 x14 t87) fun t88 =>
  toBK t88 fun b =>
  (bif b then
  kn x14 x11 x12 x10 x13 x9 x1 x0 x2 x8 x7 h
  else
  kx2 x11 x12 x10 x13 x9 x1 x0 x2 x8 x7 h)
theorem ep4arrrrrlrborlbrrrlrbol (C : CF) (L : Nat) {β : Type} (x14 : Value) (x11 : Value) (x12 : Value) (x10 : Value) (x13 : Value) (x9 : Value) (x1 : Value) (x0 : Value) (x2 : Value) (x8 : Value) (x7 : Value) (h : H) (K : Ex → T Value → H → Option β) :
    execK Try.prog C L 0 267 [6] c4arrrrrlrborlbrrrlrbol [14, 11, 12, 10, 13, 9, 1, 0, 2, 8, 7] [(2, [11, 12, 10, 13, 9, 1, 0, 2, 8, 7]), (1, [9, 1, 0, 2, 8, 7]), (0, [8, 7])] (fs [(14, x14), (11, x11), (12, x12), (10, x10), (13, x13), (9, x9), (1, x1), (0, x0), (2, x2), (8, x8), (7, x7)]) h K =
      p4arrrrrlrborlbrrrlrbol C L x14 x11 x12 x10 x13 x9 x1 x0 x2 x8 x7 h (fun x14 x11 x12 x10 x13 x9 x1 x0 x2 x8 x7 h => K .normal (fs [(14, x14), (11, x11), (12, x12), (10, x10), (13, x13), (9, x9), (1, x1), (0, x0), (2, x2), (8, x8), (7, x7)]) h) (fun x11 x12 x10 x13 x9 x1 x0 x2 x8 x7 h => K (.exit 2) (fs [(11, x11), (12, x12), (10, x10), (13, x13), (9, x9), (1, x1), (0, x0), (2, x2), (8, x8), (7, x7)]) h) := by
  kernel_rfl
noncomputable def c4arrrrrlrborlbrrrlrbor : Code := cR c4arrrrrlrborlbrrrlrbo
noncomputable def c4arrrrrlrborlbrrrlrborl : Code := cL c4arrrrrlrborlbrrrlrbor
noncomputable def c4arrrrrlrborlbrrrlrborlb : Code := cL c4arrrrrlrborlbrrrlrborl
noncomputable def c4arrrrrlrborlbrrrlrborlbl : Code := cL c4arrrrrlrborlbrrrlrborlb
noncomputable def p4arrrrrlrborlbrrrlrborlbl (C : CF) (L : Nat) {β : Type} (x14 : Value) (x11 : Value) (x12 : Value) (x10 : Value) (x13 : Value) (x9 : Value) (x1 : Value) (x0 : Value) (x2 : Value) (x8 : Value) (x7 : Value) (h : H) (kn : Value → Value → Value → Value → Value → Value → Value → Value → Value → Value → Value → Value → H → Option β) : Option β :=
  bnd (A.idxS 5 x8 x14) fun t93 =>
  bnd (A.fieldAddr 0 t93) fun t94 =>
  bnd (A.load false 1 t94 h) fun t95 =>
  bnd (A.bin Try.prog .eql 5 t95 (.int .u8 0)) fun t96 =>
  toBK t96 fun b =>
  (bif b then
  bnd (A.idxS 5 x8 x14) fun t100 =>
  bnd (A.fieldAddr 1 t100) fun t101 =>
  bnd (A.load false 1 t101 h) fun t102 =>
  bnd (A.fieldAddr 1 x10) fun t103 =>
  bnd (A.load false 1 t103 h) fun t104 =>
  bnd (A.bin Try.prog .eql 3 t102 t104) fun t105 =>
  toBK t105 fun bq1 =>
  (bif bq1 then
  bnd (A.idxS 5 x8 x14) fun t110 =>
  bnd (A.fieldAddr 2 t110) fun t111 =>
  bnd (A.load false 1 t111 h) fun t112 =>
  bnd (A.fieldAddr 2 x10) fun t113 =>
  bnd (A.load false 1 t113 h) fun t114 =>
  bnd (A.bin Try.prog .eql 3 t112 t114) fun t115 =>
  toBK t115 fun bq2 =>
  (bif bq2 then
  bnd (A.idxS 5 x8 x14) fun t120 =>
  bnd (A.fieldAddr 3 t120) fun t121 =>
  bnd (A.load false 1 t121 h) fun t122 =>
  bnd (A.fieldAddr 3 x10) fun t123 =>
  bnd (A.load false 1 t123 h) fun t124 =>
  bnd (A.bin Try.prog .eql 3 t122 t124) fun t125 =>
  toBK t125 fun bq3 =>
  kn (.bool bq3) x14 x11 x12 x10 x13 x9 x1 x0 x2 x8 x7 h
  else
  kn (.bool false) x14 x11 x12 x10 x13 x9 x1 x0 x2 x8 x7 h)
  else
  kn (.bool false) x14 x11 x12 x10 x13 x9 x1 x0 x2 x8 x7 h)
  else
  kn (.bool false) x14 x11 x12 x10 x13 x9 x1 x0 x2 x8 x7 h)
theorem ep4arrrrrlrborlbrrrlrborlbl (C : CF) (L : Nat) {β : Type} (x14 : Value) (x11 : Value) (x12 : Value) (x10 : Value) (x13 : Value) (x9 : Value) (x1 : Value) (x0 : Value) (x2 : Value) (x8 : Value) (x7 : Value) (h : H) (K : Ex → T Value → H → Option β) :
    execK Try.prog C L 0 267 [6] c4arrrrrlrborlbrrrlrborlbl [126, 14, 11, 12, 10, 13, 9, 1, 0, 2, 8, 7] [(3, [14, 11, 12, 10, 13, 9, 1, 0, 2, 8, 7]), (2, [11, 12, 10, 13, 9, 1, 0, 2, 8, 7]), (1, [9, 1, 0, 2, 8, 7]), (0, [8, 7])] (fs [(14, x14), (11, x11), (12, x12), (10, x10), (13, x13), (9, x9), (1, x1), (0, x0), (2, x2), (8, x8), (7, x7)]) h K =
      p4arrrrrlrborlbrrrlrborlbl C L x14 x11 x12 x10 x13 x9 x1 x0 x2 x8 x7 h (fun x126 x14 x11 x12 x10 x13 x9 x1 x0 x2 x8 x7 h => K .normal (fs [(126, x126), (14, x14), (11, x11), (12, x12), (10, x10), (13, x13), (9, x9), (1, x1), (0, x0), (2, x2), (8, x8), (7, x7)]) h) := by
  kernel_rfl
noncomputable def c4arrrrrlrborlbrrrlrborlbr : Code := cR c4arrrrrlrborlbrrrlrborlb
noncomputable def p4arrrrrlrborlbrrrlrborlbr (C : CF) (L : Nat) {β : Type} (x126 : Value) (x14 : Value) (x11 : Value) (x12 : Value) (x10 : Value) (x13 : Value) (x9 : Value) (x1 : Value) (x0 : Value) (x2 : Value) (x8 : Value) (x7 : Value) (h : H) (kn : Value → Value → Value → Value → Value → Value → Value → Value → Value → Value → Value → H → Option β) : Option β :=
  condV x126 (
  bnd (A.bin Try.prog .add 3 x13 (.int .i64 1)) fun t128 =>
  bnd (A.bin Try.prog .lss 3 x12 (.int .i64 0)) fun t130 =>
  toBK t130 fun b =>
  (bif b then
  kn x14 x11 x14 x10 t128 x9 x1 x0 x2 x8 x7 h
  else
  kn x14 x11 x12 x10 t128 x9 x1 x0 x2 x8 x7 h)) (
  kn x14 x11 x12 x10 x13 x9 x1 x0 x2 x8 x7 h)
theorem ep4arrrrrlrborlbrrrlrborlbr (C : CF) (L : Nat) {β : Type} (x126 : Value) (x14 : Value) (x11 : Value) (x12 : Value) (x10 : Value) (x13 : Value) (x9 : Value) (x1 : Value) (x0 : Value) (x2 : Value) (x8 : Value) (x7 : Value) (h : H) (K : Ex → T Value → H → Option β) :
    execK Try.prog C L 0 267 [6] c4arrrrrlrborlbrrrlrborlbr [14, 11, 12, 10, 13, 9, 1, 0, 2, 8, 7] [(3, [14, 11, 12, 10, 13, 9, 1, 0, 2, 8, 7]), (2, [11, 12, 10, 13, 9, 1, 0, 2, 8, 7]), (1, [9, 1, 0, 2, 8, 7]), (0, [8, 7])] (fs [(126, x126), (14, x14), (11, x11), (12, x12), (10, x10), (13, x13), (9, x9), (1, x1), (0, x0), (2, x2), (8, x8), (7, x7)]) h K =
      p4arrrrrlrborlbrrrlrborlbr C L x126 x14 x11 x12 x10 x13 x9 x1 x0 x2 x8 x7 h (fun x14 x11 x12 x10 x13 x9 x1 x0 x2 x8 x7 h => K .normal (fs [(14, x14), (11, x11), (12, x12), (10, x10), (13, x13), (9, x9), (1, x1), (0, x0), (2, x2), (8, x8), (7, x7)]) h) := by
  kernel_rfl
noncomputable def p4arrrrrlrborlbrrrlrborlb (C : CF) (L : Nat) {β : Type} (x14 : Value) (x11 : Value) (x12 : Value) (x10 : Value) (x13 : Value) (x9 : Value) (x1 : Value) (x0 : Value) (x2 : Value) (x8 : Value) (x7 : Value) (h : H) (kn : Value → Value → Value → Value → Value → Value → Value → Value → Value → Value → Value → H → Option β) : Option β :=
  p4arrrrrlrborlbrrrlrborlbl C L x14 x11 x12 x10 x13 x9 x1 x0 x2 x8 x7 h (fun x126 x14 x11 x12 x10 x13 x9 x1 x0 x2 x8 x7 h => p4arrrrrlrborlbrrrlrborlbr C L x126 x14 x11 x12 x10 x13 x9 x1 x0 x2 x8 x7 h kn)
theorem ep4arrrrrlrborlbrrrlrborlb (C : CF) (L : Nat) {β : Type} (x14 : Value) (x11 : Value) (x12 : Value) (x10 : Value) (x13 : Value) (x9 : Value) (x1 : Value) (x0 : Value) (x2 : Value) (x8 : Value) (x7 : Value) (h : H) (K : Ex → T Value → H → Option β) :
    execK Try.prog C L 0 267 [6] c4arrrrrlrborlbrrrlrborlb [14, 11, 12, 10, 13, 9, 1, 0, 2, 8, 7] [(3, [14, 11, 12, 10, 13, 9, 1, 0, 2, 8, 7]), (2, [11, 12, 10, 13, 9, 1, 0, 2, 8, 7]), (1, [9, 1, 0, 2, 8, 7]), (0, [8, 7])] (fs [(14, x14), (11, x11), (12, x12), (10, x10), (13, x13), (9, x9), (1, x1), (0, x0), (2, x2), (8, x8), (7, x7)]) h K =
      p4arrrrrlrborlbrrrlrborlb C L x14 x11 x12 x10 x13 x9 x1 x0 x2 x8 x7 h (fun x14 x11 x12 x10 x13 x9 x1 x0 x2 x8 x7 h => K .normal (fs [(14, x14), (11, x11), (12, x12), (10, x10), (13, x13), (9, x9), (1, x1), (0, x0), (2, x2), (8, x8), (7, x7)]) h) := by
  rw [execK_seq (a := c4arrrrrlrborlbrrrlrborlbl) (b := c4arrrrrlrborlbrrrlrborlbr) (by kernel_rfl) (show live [6] c4arrrrrlrborlbrrrlrborlbr [14, 11, 12, 10, 13, 9, 1, 0, 2, 8, 7] [(3, [14, 11, 12, 10, 13, 9, 1, 0, 2, 8, 7]), (2, [11, 12, 10, 13, 9, 1, 0, 2, 8, 7]), (1, [9, 1, 0, 2, 8, 7]), (0, [8, 7])] = [126, 14, 11, 12, 10, 13, 9, 1, 0, 2, 8, 7] by kernel_rfl), ep4arrrrrlrborlbrrrlrborlbl]
  unfold p4arrrrrlrborlbrrrlrborlb
  exact (congrArg (p4arrrrrlrborlbrrrlrborlbl C L x14 x11 x12 x10 x13 x9 x1 x0 x2 x8 x7 h) (funext fun x126 => funext fun x14 => funext fun x11 => funext fun x12 => funext fun x10 => funext fun x13 => funext fun x9 => funext fun x1 => funext fun x0 => funext fun x2 => funext fun x8 => funext fun x7 => funext fun h => (seqK_n _ _ _).trans (ep4arrrrrlrborlbrrrlrborlbr C L x126 x14 x11 x12 x10 x13 x9 x1 x0 x2 x8 x7 h K)))
noncomputable def p4arrrrrlrborlbrrrlrborl (C : CF) (L : Nat) {β : Type} (x14 : Value) (x11 : Value) (x12 : Value) (x10 : Value) (x13 : Value) (x9 : Value) (x1 : Value) (x0 : Value) (x2 : Value) (x8 : Value) (x7 : Value) (h : H) (kn : Value → Value → Value → Value → Value → Value → Value → Value → Value → Value → Value → H → Option β) : Option β :=
  p4arrrrrlrborlbrrrlrborlb C L x14 x11 x12 x10 x13 x9 x1 x0 x2 x8 x7 h kn
theorem ep4arrrrrlrborlbrrrlrborl (C : CF) (L : Nat) {β : Type} (x14 : Value) (x11 : Value) (x12 : Value) (x10 : Value) (x13 : Value) (x9 : Value) (x1 : Value) (x0 : Value) (x2 : Value) (x8 : Value) (x7 : Value) (h : H) (K : Ex → T Value → H → Option β) :
    execK Try.prog C L 0 267 [6] c4arrrrrlrborlbrrrlrborl [14, 11, 12, 10, 13, 9, 1, 0, 2, 8, 7] [(2, [11, 12, 10, 13, 9, 1, 0, 2, 8, 7]), (1, [9, 1, 0, 2, 8, 7]), (0, [8, 7])] (fs [(14, x14), (11, x11), (12, x12), (10, x10), (13, x13), (9, x9), (1, x1), (0, x0), (2, x2), (8, x8), (7, x7)]) h K =
      p4arrrrrlrborlbrrrlrborl C L x14 x11 x12 x10 x13 x9 x1 x0 x2 x8 x7 h (fun x14 x11 x12 x10 x13 x9 x1 x0 x2 x8 x7 h => K .normal (fs [(14, x14), (11, x11), (12, x12), (10, x10), (13, x13), (9, x9), (1, x1), (0, x0), (2, x2), (8, x8), (7, x7)]) h) := by
  rw [execK_block (b := c4arrrrrlrborlbrrrlrborlb) (id := 3) (by kernel_rfl), ep4arrrrrlrborlbrrrlrborlb]
  unfold p4arrrrrlrborlbrrrlrborl
  rfl
noncomputable def c4arrrrrlrborlbrrrlrborr : Code := cR c4arrrrrlrborlbrrrlrbor
noncomputable def p4arrrrrlrborlbrrrlrborr (C : CF) (L : Nat) {β : Type} (x14 : Value) (x11 : Value) (x12 : Value) (x10 : Value) (x13 : Value) (x9 : Value) (x1 : Value) (x0 : Value) (x2 : Value) (x8 : Value) (x7 : Value) (h : H) (kn : Value → Value → Value → Value → Value → Value → Value → Value → Value → Value → Value → H → Option β) : Option β :=
  bnd (A.bin Try.prog .add 3 x14 (.int .i64 1)) fun t90 =>
  kn t90 x11 x12 x10 x13 x9 x1 x0 x2 x8 x7 h
theorem ep4arrrrrlrborlbrrrlrborr (C : CF) (L : Nat) {β : Type} (x14 : Value) (x11 : Value) (x12 : Value) (x10 : Value) (x13 : Value) (x9 : Value) (x1 : Value) (x0 : Value) (x2 : Value) (x8 : Value) (x7 : Value) (h : H) (K : Ex → T Value → H → Option β) :
    execK Try.prog C L 0 267 [6] c4arrrrrlrborlbrrrlrborr [14, 11, 12, 10, 13, 9, 1, 0, 2, 8, 7] [(2, [11, 12, 10, 13, 9, 1, 0, 2, 8, 7]), (1, [9, 1, 0, 2, 8, 7]), (0, [8, 7])] (fs [(14, x14), (11, x11), (12, x12), (10, x10), (13, x13), (9, x9), (1, x1), (0, x0), (2, x2), (8, x8), (7, x7)]) h K =
      p4arrrrrlrborlbrrrlrborr C L x14 x11 x12 x10 x13 x9 x1 x0 x2 x8 x7 h (fun x14 x11 x12 x10 x13 x9 x1 x0 x2 x8 x7 h => K .normal (fs [(14, x14), (11, x11), (12, x12), (10, x10), (13, x13), (9, x9), (1, x1), (0, x0), (2, x2), (8, x8), (7, x7)]) h) := by
  kernel_rfl
noncomputable def p4arrrrrlrborlbrrrlrbor (C : CF) (L : Nat) {β : Type} (x14 : Value) (x11 : Value) (x12 : Value) (x10 : Value) (x13 : Value) (x9 : Value) (x1 : Value) (x0 : Value) (x2 : Value) (x8 : Value) (x7 : Value) (h : H) (kn : Value → Value → Value → Value → Value → Value → Value → Value → Value → Value → Value → H → Option β) : Option β :=
  p4arrrrrlrborlbrrrlrborl C L x14 x11 x12 x10 x13 x9 x1 x0 x2 x8 x7 h (fun x14 x11 x12 x10 x13 x9 x1 x0 x2 x8 x7 h => p4arrrrrlrborlbrrrlrborr C L x14 x11 x12 x10 x13 x9 x1 x0 x2 x8 x7 h kn)
theorem ep4arrrrrlrborlbrrrlrbor (C : CF) (L : Nat) {β : Type} (x14 : Value) (x11 : Value) (x12 : Value) (x10 : Value) (x13 : Value) (x9 : Value) (x1 : Value) (x0 : Value) (x2 : Value) (x8 : Value) (x7 : Value) (h : H) (K : Ex → T Value → H → Option β) :
    execK Try.prog C L 0 267 [6] c4arrrrrlrborlbrrrlrbor [14, 11, 12, 10, 13, 9, 1, 0, 2, 8, 7] [(2, [11, 12, 10, 13, 9, 1, 0, 2, 8, 7]), (1, [9, 1, 0, 2, 8, 7]), (0, [8, 7])] (fs [(14, x14), (11, x11), (12, x12), (10, x10), (13, x13), (9, x9), (1, x1), (0, x0), (2, x2), (8, x8), (7, x7)]) h K =
      p4arrrrrlrborlbrrrlrbor C L x14 x11 x12 x10 x13 x9 x1 x0 x2 x8 x7 h (fun x14 x11 x12 x10 x13 x9 x1 x0 x2 x8 x7 h => K .normal (fs [(14, x14), (11, x11), (12, x12), (10, x10), (13, x13), (9, x9), (1, x1), (0, x0), (2, x2), (8, x8), (7, x7)]) h) := by
  rw [execK_seq (a := c4arrrrrlrborlbrrrlrborl) (b := c4arrrrrlrborlbrrrlrborr) (by kernel_rfl) (show live [6] c4arrrrrlrborlbrrrlrborr [14, 11, 12, 10, 13, 9, 1, 0, 2, 8, 7] [(2, [11, 12, 10, 13, 9, 1, 0, 2, 8, 7]), (1, [9, 1, 0, 2, 8, 7]), (0, [8, 7])] = [14, 11, 12, 10, 13, 9, 1, 0, 2, 8, 7] by kernel_rfl), ep4arrrrrlrborlbrrrlrborl]
  unfold p4arrrrrlrborlbrrrlrbor
  exact (congrArg (p4arrrrrlrborlbrrrlrborl C L x14 x11 x12 x10 x13 x9 x1 x0 x2 x8 x7 h) (funext fun x14 => funext fun x11 => funext fun x12 => funext fun x10 => funext fun x13 => funext fun x9 => funext fun x1 => funext fun x0 => funext fun x2 => funext fun x8 => funext fun x7 => funext fun h => (seqK_n _ _ _).trans (ep4arrrrrlrborlbrrrlrborr C L x14 x11 x12 x10 x13 x9 x1 x0 x2 x8 x7 h K)))
noncomputable def p4arrrrrlrborlbrrrlrbo (C : CF) (L : Nat) {β : Type} (x14 : Value) (x11 : Value) (x12 : Value) (x10 : Value) (x13 : Value) (x9 : Value) (x1 : Value) (x0 : Value) (x2 : Value) (x8 : Value) (x7 : Value) (h : H) (kn : Value → Value → Value → Value → Value → Value → Value → Value → Value → Value → Value → H → Option β) (kx2 : Value → Value → Value → Value → Value → Value → Value → Value → Value → Value → H → Option β) : Option β :=
  p4arrrrrlrborlbrrrlrbol C L x14 x11 x12 x10 x13 x9 x1 x0 x2 x8 x7 h (fun x14 x11 x12 x10 x13 x9 x1 x0 x2 x8 x7 h => p4arrrrrlrborlbrrrlrbor C L x14 x11 x12 x10 x13 x9 x1 x0 x2 x8 x7 h kn) kx2
theorem ep4arrrrrlrborlbrrrlrbo (C : CF) (L : Nat) {β : Type} (x14 : Value) (x11 : Value) (x12 : Value) (x10 : Value) (x13 : Value) (x9 : Value) (x1 : Value) (x0 : Value) (x2 : Value) (x8 : Value) (x7 : Value) (h : H) (K : Ex → T Value → H → Option β) :
    execK Try.prog C L 0 267 [6] c4arrrrrlrborlbrrrlrbo [14, 11, 12, 10, 13, 9, 1, 0, 2, 8, 7] [(2, [11, 12, 10, 13, 9, 1, 0, 2, 8, 7]), (1, [9, 1, 0, 2, 8, 7]), (0, [8, 7])] (fs [(14, x14), (11, x11), (12, x12), (10, x10), (13, x13), (9, x9), (1, x1), (0, x0), (2, x2), (8, x8), (7, x7)]) h K =
      p4arrrrrlrborlbrrrlrbo C L x14 x11 x12 x10 x13 x9 x1 x0 x2 x8 x7 h (fun x14 x11 x12 x10 x13 x9 x1 x0 x2 x8 x7 h => K .normal (fs [(14, x14), (11, x11), (12, x12), (10, x10), (13, x13), (9, x9), (1, x1), (0, x0), (2, x2), (8, x8), (7, x7)]) h) (fun x11 x12 x10 x13 x9 x1 x0 x2 x8 x7 h => K (.exit 2) (fs [(11, x11), (12, x12), (10, x10), (13, x13), (9, x9), (1, x1), (0, x0), (2, x2), (8, x8), (7, x7)]) h) := by
  rw [execK_seq (a := c4arrrrrlrborlbrrrlrbol) (b := c4arrrrrlrborlbrrrlrbor) (by kernel_rfl) (show live [6] c4arrrrrlrborlbrrrlrbor [14, 11, 12, 10, 13, 9, 1, 0, 2, 8, 7] [(2, [11, 12, 10, 13, 9, 1, 0, 2, 8, 7]), (1, [9, 1, 0, 2, 8, 7]), (0, [8, 7])] = [14, 11, 12, 10, 13, 9, 1, 0, 2, 8, 7] by kernel_rfl), ep4arrrrrlrborlbrrrlrbol]
  unfold p4arrrrrlrborlbrrrlrbo
  exact (congr (congrArg (p4arrrrrlrborlbrrrlrbol C L x14 x11 x12 x10 x13 x9 x1 x0 x2 x8 x7 h) (funext fun x14 => funext fun x11 => funext fun x12 => funext fun x10 => funext fun x13 => funext fun x9 => funext fun x1 => funext fun x0 => funext fun x2 => funext fun x8 => funext fun x7 => funext fun h => (seqK_n _ _ _).trans (ep4arrrrrlrborlbrrrlrbor C L x14 x11 x12 x10 x13 x9 x1 x0 x2 x8 x7 h K))) (funext fun x11 => funext fun x12 => funext fun x10 => funext fun x13 => funext fun x9 => funext fun x1 => funext fun x0 => funext fun x2 => funext fun x8 => funext fun x7 => funext fun h => seqK_x _ _ _ _))
noncomputable def p4arrrrrlrborlbrrrlrbw (C : CF) (L : Nat) {β : Type} (kx2 : Value → Value → Value → Value → Value → Value → Value → Value → Value → Value → H → Option β) : Nat → Value → Value → Value → Value → Value → Value → Value → Value → Value → Value → Value → H → Option β
  | 0, _, _, _, _, _, _, _, _, _, _, _, _ => none
  | n + 1, x14, x11, x12, x10, x13, x9, x1, x0, x2, x8, x7, h => p4arrrrrlrborlbrrrlrbo C L x14 x11 x12 x10 x13 x9 x1 x0 x2 x8 x7 h (fun x14 x11 x12 x10 x13 x9 x1 x0 x2 x8 x7 h => p4arrrrrlrborlbrrrlrbw C L kx2 n x14 x11 x12 x10 x13 x9 x1 x0 x2 x8 x7 h) kx2
theorem ep4arrrrrlrborlbrrrlrbw (C : CF) (L : Nat) {β : Type} (K : Ex → T Value → H → Option β) : ∀ (n : Nat) (x14 : Value) (x11 : Value) (x12 : Value) (x10 : Value) (x13 : Value) (x9 : Value) (x1 : Value) (x0 : Value) (x2 : Value) (x8 : Value) (x7 : Value) (h : H),
    loopK (fun fr h K => execK Try.prog C L 0 267 [6] c4arrrrrlrborlbrrrlrbo [14, 11, 12, 10, 13, 9, 1, 0, 2, 8, 7] [(2, [11, 12, 10, 13, 9, 1, 0, 2, 8, 7]), (1, [9, 1, 0, 2, 8, 7]), (0, [8, 7])] fr h K) n (fs [(14, x14), (11, x11), (12, x12), (10, x10), (13, x13), (9, x9), (1, x1), (0, x0), (2, x2), (8, x8), (7, x7)]) h K =
      p4arrrrrlrborlbrrrlrbw C L (fun x11 x12 x10 x13 x9 x1 x0 x2 x8 x7 h => K (.exit 2) (fs [(11, x11), (12, x12), (10, x10), (13, x13), (9, x9), (1, x1), (0, x0), (2, x2), (8, x8), (7, x7)]) h) n x14 x11 x12 x10 x13 x9 x1 x0 x2 x8 x7 h := by
  intro n
  induction n with
  | zero => intros; rfl
  | succ n ih =>
    intros
    simp only [loopK]
    rw [ep4arrrrrlrborlbrrrlrbo]
    simp only [seqK_n, seqK_x, seqK_r, ih]
    rfl
noncomputable def p4arrrrrlrborlbrrrlrb (C : CF) (L : Nat) {β : Type} (x14 : Value) (x11 : Value) (x12 : Value) (x10 : Value) (x13 : Value) (x9 : Value) (x1 : Value) (x0 : Value) (x2 : Value) (x8 : Value) (x7 : Value) (h : H) (kx2 : Value → Value → Value → Value → Value → Value → Value → Value → Value → Value → H → Option β) : Option β :=
  p4arrrrrlrborlbrrrlrbw C L kx2 L x14 x11 x12 x10 x13 x9 x1 x0 x2 x8 x7 h
theorem ep4arrrrrlrborlbrrrlrb (C : CF) (L : Nat) {β : Type} (x14 : Value) (x11 : Value) (x12 : Value) (x10 : Value) (x13 : Value) (x9 : Value) (x1 : Value) (x0 : Value) (x2 : Value) (x8 : Value) (x7 : Value) (h : H) (K : Ex → T Value → H → Option β) :
    execK Try.prog C L 0 267 [6] c4arrrrrlrborlbrrrlrb [11, 12, 10, 13, 9, 1, 0, 2, 8, 7] [(2, [11, 12, 10, 13, 9, 1, 0, 2, 8, 7]), (1, [9, 1, 0, 2, 8, 7]), (0, [8, 7])] (fs [(14, x14), (11, x11), (12, x12), (10, x10), (13, x13), (9, x9), (1, x1), (0, x0), (2, x2), (8, x8), (7, x7)]) h K =
      p4arrrrrlrborlbrrrlrb C L x14 x11 x12 x10 x13 x9 x1 x0 x2 x8 x7 h (fun x11 x12 x10 x13 x9 x1 x0 x2 x8 x7 h => K (.exit 2) (fs [(11, x11), (12, x12), (10, x10), (13, x13), (9, x9), (1, x1), (0, x0), (2, x2), (8, x8), (7, x7)]) h) := by
  rw [execK_loop (b := c4arrrrrlrborlbrrrlrbo) (fr1 := (fs [(14, x14), (11, x11), (12, x12), (10, x10), (13, x13), (9, x9), (1, x1), (0, x0), (2, x2), (8, x8), (7, x7)])) (by kernel_rfl) (show live [6] c4arrrrrlrborlbrrrlrbo [] [(2, [11, 12, 10, 13, 9, 1, 0, 2, 8, 7]), (1, [9, 1, 0, 2, 8, 7]), (0, [8, 7])] = [14, 11, 12, 10, 13, 9, 1, 0, 2, 8, 7] by kernel_rfl) (by kernel_rfl), ep4arrrrrlrborlbrrrlrbw]
  unfold p4arrrrrlrborlbrrrlrb
  rfl
noncomputable def p4arrrrrlrborlbrrrlr (C : CF) (L : Nat) {β : Type} (x14 : Value) (x11 : Value) (x12 : Value) (x10 : Value) (x13 : Value) (x9 : Value) (x1 : Value) (x0 : Value) (x2 : Value) (x8 : Value) (x7 : Value) (h : H) (kn : Value → Value → Value → Value → Value → Value → Value → Value → Value → Value → H → Option β) : Option β :=
  p4arrrrrlrborlbrrrlrb C L x14 x11 x12 x10 x13 x9 x1 x0 x2 x8 x7 h kn
theorem ep4arrrrrlrborlbrrrlr (C : CF) (L : Nat) {β : Type} (x14 : Value) (x11 : Value) (x12 : Value) (x10 : Value) (x13 : Value) (x9 : Value) (x1 : Value) (x0 : Value) (x2 : Value) (x8 : Value) (x7 : Value) (h : H) (K : Ex → T Value → H → Option β) :
    execK Try.prog C L 0 267 [6] c4arrrrrlrborlbrrrlr [11, 12, 10, 13, 9, 1, 0, 2, 8, 7] [(1, [9, 1, 0, 2, 8, 7]), (0, [8, 7])] (fs [(14, x14), (11, x11), (12, x12), (10, x10), (13, x13), (9, x9), (1, x1), (0, x0), (2, x2), (8, x8), (7, x7)]) h K =
      p4arrrrrlrborlbrrrlr C L x14 x11 x12 x10 x13 x9 x1 x0 x2 x8 x7 h (fun x11 x12 x10 x13 x9 x1 x0 x2 x8 x7 h => K .normal (fs [(11, x11), (12, x12), (10, x10), (13, x13), (9, x9), (1, x1), (0, x0), (2, x2), (8, x8), (7, x7)]) h) := by
  rw [execK_block (b := c4arrrrrlrborlbrrrlrb) (id := 2) (by kernel_rfl), ep4arrrrrlrborlbrrrlrb]
  unfold p4arrrrrlrborlbrrrlr
  rfl
noncomputable def p4arrrrrlrborlbrrrl (C : CF) (L : Nat) {β : Type} (x11 : Value) (x12 : Value) (x10 : Value) (x13 : Value) (x9 : Value) (x1 : Value) (x0 : Value) (x2 : Value) (x8 : Value) (x7 : Value) (h : H) (kn : Value → Value → Value → Value → Value → Value → Value → Value → Value → Value → H → Option β) : Option β :=
  p4arrrrrlrborlbrrrll C L x11 x12 x10 x13 x9 x1 x0 x2 x8 x7 h (fun x14 x11 x12 x10 x13 x9 x1 x0 x2 x8 x7 h => p4arrrrrlrborlbrrrlr C L x14 x11 x12 x10 x13 x9 x1 x0 x2 x8 x7 h kn)
theorem ep4arrrrrlrborlbrrrl (C : CF) (L : Nat) {β : Type} (x11 : Value) (x12 : Value) (x10 : Value) (x13 : Value) (x9 : Value) (x1 : Value) (x0 : Value) (x2 : Value) (x8 : Value) (x7 : Value) (h : H) (K : Ex → T Value → H → Option β) :
    execK Try.prog C L 0 267 [6] c4arrrrrlrborlbrrrl [11, 12, 10, 13, 9, 1, 0, 2, 8, 7] [(1, [9, 1, 0, 2, 8, 7]), (0, [8, 7])] (fs [(11, x11), (12, x12), (10, x10), (13, x13), (9, x9), (1, x1), (0, x0), (2, x2), (8, x8), (7, x7)]) h K =
      p4arrrrrlrborlbrrrl C L x11 x12 x10 x13 x9 x1 x0 x2 x8 x7 h (fun x11 x12 x10 x13 x9 x1 x0 x2 x8 x7 h => K .normal (fs [(11, x11), (12, x12), (10, x10), (13, x13), (9, x9), (1, x1), (0, x0), (2, x2), (8, x8), (7, x7)]) h) := by
  rw [execK_seq (a := c4arrrrrlrborlbrrrll) (b := c4arrrrrlrborlbrrrlr) (by kernel_rfl) (show live [6] c4arrrrrlrborlbrrrlr [11, 12, 10, 13, 9, 1, 0, 2, 8, 7] [(1, [9, 1, 0, 2, 8, 7]), (0, [8, 7])] = [14, 11, 12, 10, 13, 9, 1, 0, 2, 8, 7] by kernel_rfl), ep4arrrrrlrborlbrrrll]
  unfold p4arrrrrlrborlbrrrl
  exact (congrArg (p4arrrrrlrborlbrrrll C L x11 x12 x10 x13 x9 x1 x0 x2 x8 x7 h) (funext fun x14 => funext fun x11 => funext fun x12 => funext fun x10 => funext fun x13 => funext fun x9 => funext fun x1 => funext fun x0 => funext fun x2 => funext fun x8 => funext fun x7 => funext fun h => (seqK_n _ _ _).trans (ep4arrrrrlrborlbrrrlr C L x14 x11 x12 x10 x13 x9 x1 x0 x2 x8 x7 h K)))
noncomputable def c4arrrrrlrborlbrrrr : Code := cR c4arrrrrlrborlbrrr
noncomputable def c4arrrrrlrborlbrrrrl : Code := cL c4arrrrrlrborlbrrrr
noncomputable def c4arrrrrlrborlbrrrrll : Code := cL c4arrrrrlrborlbrrrrl
noncomputable def p4arrrrrlrborlbrrrrll (C : CF) (L : Nat) {β : Type} (x11 : Value) (x12 : Value) (x10 : Value) (x13 : Value) (x9 : Value) (x1 : Value) (x0 : Value) (x2 : Value) (x8 : Value) (x7 : Value) (h : H) (kn : Value → Value → Value → Value → Value → Value → Value → Value → Value → Value → Value → H → Option β) : Option β :=
  bnd (A.fieldAddr 0 x10) fun t132 =>
  bnd (A.load false 1 t132 h) fun t133 =>
  bnd (A.bin Try.prog .rem 5 t133 (.int .u8 8)) fun t134 =>
  bnd (A.bin Try.prog .lss 5 t134 (.int .u8 5)) fun t135 =>
  toBK t135 fun b =>
  kn (.bool b) x11 x12 x10 x13 x9 x1 x0 x2 x8 x7 h
theorem ep4arrrrrlrborlbrrrrll (C : CF) (L : Nat) {β : Type} (x11 : Value) (x12 : Value) (x10 : Value) (x13 : Value) (x9 : Value) (x1 : Value) (x0 : Value) (x2 : Value) (x8 : Value) (x7 : Value) (h : H) (K : Ex → T Value → H → Option β) :
    execK Try.prog C L 0 267 [6] c4arrrrrlrborlbrrrrll [135, 11, 12, 10, 13, 9, 1, 0, 2, 8, 7] [(1, [9, 1, 0, 2, 8, 7]), (0, [8, 7])] (fs [(11, x11), (12, x12), (10, x10), (13, x13), (9, x9), (1, x1), (0, x0), (2, x2), (8, x8), (7, x7)]) h K =
      p4arrrrrlrborlbrrrrll C L x11 x12 x10 x13 x9 x1 x0 x2 x8 x7 h (fun x135 x11 x12 x10 x13 x9 x1 x0 x2 x8 x7 h => K .normal (fs [(135, x135), (11, x11), (12, x12), (10, x10), (13, x13), (9, x9), (1, x1), (0, x0), (2, x2), (8, x8), (7, x7)]) h) := by
  kernel_rfl
noncomputable def c4arrrrrlrborlbrrrrlr : Code := cR c4arrrrrlrborlbrrrrl
noncomputable def c4arrrrrlrborlbrrrrlrt : Code := cL c4arrrrrlrborlbrrrrlr
noncomputable def c4arrrrrlrborlbrrrrlrtl : Code := cL c4arrrrrlrborlbrrrrlrt
noncomputable def p4arrrrrlrborlbrrrrlrtl (C : CF) (L : Nat) {β : Type} (x135 : Value) (x11 : Value) (x12 : Value) (x10 : Value) (x13 : Value) (x9 : Value) (x1 : Value) (x0 : Value) (x2 : Value) (x8 : Value) (x7 : Value) (h : H) (kn : Value → Value → Value → Value → Value → Value → Value → Value → Value → Value → H → Option β) : Option β :=
  bnd (A.fieldAddr 1 x10) fun t137 =>
  bnd (A.load false 1 t137 h) fun t138 =>
  bnd (A.fieldAddr 2 x10) fun t139 =>
  bnd (A.load false 1 t139 h) fun t140 =>
  bnd (A.fieldAddr 3 x10) fun t141 =>
  bnd (A.load false 1 t141 h) fun t142 =>
  bnd (A.lenS x8) fun t144 =>
  bnd2 (C 29 [t144] h) fun t145 hq1 =>
  bif (chk (bnd (A.load false 1 t141 hq1) fun v => some v) t142 && (chk (bnd (A.load false 1 t139 hq1) fun v => some v) t140 && (chk (bnd (A.load false 1 t137 hq1) fun v => some v) t138 && true))) then
  bnd2 (C 17 [x7, t138, t140, t142, t145] hq1) fun t146 hq2 =>
  toBK t146 fun b =>
  kn x11 (.bool b) x10 x13 x9 x1 x0 x2 x8 x7 hq2
  else none
theorem ep4arrrrrlrborlbrrrrlrtl (C : CF) (L : Nat) {β : Type} (x135 : Value) (x11 : Value) (x12 : Value) (x10 : Value) (x13 : Value) (x9 : Value) (x1 : Value) (x0 : Value) (x2 : Value) (x8 : Value) (x7 : Value) (h : H) (K : Ex → T Value → H → Option β) :
    execK Try.prog C L 0 267 [6] c4arrrrrlrborlbrrrrlrtl [11, 15, 10, 13, 9, 1, 0, 2, 8, 7] [(1, [9, 1, 0, 2, 8, 7]), (0, [8, 7])] (fs [(135, x135), (11, x11), (12, x12), (10, x10), (13, x13), (9, x9), (1, x1), (0, x0), (2, x2), (8, x8), (7, x7)]) h K =
      p4arrrrrlrborlbrrrrlrtl C L x135 x11 x12 x10 x13 x9 x1 x0 x2 x8 x7 h (fun x11 x15 x10 x13 x9 x1 x0 x2 x8 x7 h => K .normal (fs [(11, x11), (15, x15), (10, x10), (13, x13), (9, x9), (1, x1), (0, x0), (2, x2), (8, x8), (7, x7)]) h) := by
  kernel_rfl
noncomputable def c4arrrrrlrborlbrrrrlrtr : Code := cR c4arrrrrlrborlbrrrrlrt
noncomputable def c4arrrrrlrborlbrrrrlrtrl : Code := cL c4arrrrrlrborlbrrrrlrtr
noncomputable def p4arrrrrlrborlbrrrrlrtrl (C : CF) (L : Nat) {β : Type} (x11 : Value) (x15 : Value) (x10 : Value) (x13 : Value) (x9 : Value) (x1 : Value) (x0 : Value) (x2 : Value) (x8 : Value) (x7 : Value) (h : H) (kr : Value → H → Option β) (kn : Value → Value → Value → Value → Value → Value → Value → Value → Value → H → Option β) : Option β :=
  toBK x15 fun b =>
  toBK x11 fun bq1 =>
  (bif bq1 then
  bnd (A.bin Try.prog .lss 3 x13 x1) fun t152 =>
  toBK t152 fun bq2 =>
  bnd (A.bin Try.prog .neq 4 (.bool b) (.bool bq2)) fun t154 =>
  toBK t154 fun bq3 =>
  (bif bq3 then
  kr (.bool false) h
  else
  kn x15 x10 x13 x9 x1 x0 x2 x8 x7 h)
  else
  bnd (A.bin Try.prog .neq 4 (.bool b) (.bool false)) fun t154q1 =>
  toBK t154q1 fun bq4 =>
  (bif bq4 then
  kr (.bool false) h
  else
  kn x15 x10 x13 x9 x1 x0 x2 x8 x7 h))
theorem ep4arrrrrlrborlbrrrrlrtrl (C : CF) (L : Nat) {β : Type} (x11 : Value) (x15 : Value) (x10 : Value) (x13 : Value) (x9 : Value) (x1 : Value) (x0 : Value) (x2 : Value) (x8 : Value) (x7 : Value) (h : H) (K : Ex → T Value → H → Option β) :
    execK Try.prog C L 0 267 [6] c4arrrrrlrborlbrrrrlrtrl [15, 10, 13, 9, 1, 0, 2, 8, 7] [(1, [9, 1, 0, 2, 8, 7]), (0, [8, 7])] (fs [(11, x11), (15, x15), (10, x10), (13, x13), (9, x9), (1, x1), (0, x0), (2, x2), (8, x8), (7, x7)]) h K =
      p4arrrrrlrborlbrrrrlrtrl C L x11 x15 x10 x13 x9 x1 x0 x2 x8 x7 h (fun x6 h => K .ret (fs [(6, x6)]) h) (fun x15 x10 x13 x9 x1 x0 x2 x8 x7 h => K .normal (fs [(15, x15), (10, x10), (13, x13), (9, x9), (1, x1), (0, x0), (2, x2), (8, x8), (7, x7)]) h) := by
  kernel_rfl
noncomputable def c4arrrrrlrborlbrrrrlrtrr : Code := cR c4arrrrrlrborlbrrrrlrtr
noncomputable def p4arrrrrlrborlbrrrrlrtrr (C : CF) (L : Nat) {β : Type} (x15 : Value) (x10 : Value) (x13 : Value) (x9 : Value) (x1 : Value) (x0 : Value) (x2 : Value) (x8 : Value) (x7 : Value) (h : H) (kn : Value → Value → Value → Value → Value → Value → Value → Value → H → Option β) : Option β :=
  toBK x15 fun b =>
  (bif b then
  bnd (A.fieldAddr 1 x10) fun t157 =>
  bnd (A.load false 1 t157 h) fun t158 =>
  bnd (A.fieldAddr 2 x10) fun t159 =>
  bnd (A.load false 1 t159 h) fun t160 =>
  bnd (A.fieldAddr 3 x10) fun t161 =>
  bnd (A.load false 1 t161 h) fun t162 =>
  bnd (A.build Z31L [(1, 1, t158), (2, 1, t160), (3, 1, t162)]) fun t163 =>
  bnd2 (A.buildSlice 5 1 Z31L [(0, 5, t163)] h) fun t164 hq1 =>
  bnd2 (A.append 5 56 x8 t164 hq1) fun t165 hq2 =>
  bnd (A.bin Try.prog .add 3 x13 (.int .i64 1)) fun t167 =>
  kn x10 t167 x9 x1 x0 x2 t165 x7 hq2
  else
  kn x10 x13 x9 x1 x0 x2 x8 x7 h)
theorem ep4arrrrrlrborlbrrrrlrtrr (C : CF) (L : Nat) {β : Type} (x15 : Value) (x10 : Value) (x13 : Value) (x9 : Value) (x1 : Value) (x0 : Value) (x2 : Value) (x8 : Value) (x7 : Value) (h : H) (K : Ex → T Value → H → Option β) :
    execK Try.prog C L 0 267 [6] c4arrrrrlrborlbrrrrlrtrr [10, 13, 9, 1, 0, 2, 8, 7] [(1, [9, 1, 0, 2, 8, 7]), (0, [8, 7])] (fs [(15, x15), (10, x10), (13, x13), (9, x9), (1, x1), (0, x0), (2, x2), (8, x8), (7, x7)]) h K =
      p4arrrrrlrborlbrrrrlrtrr C L x15 x10 x13 x9 x1 x0 x2 x8 x7 h (fun x10 x13 x9 x1 x0 x2 x8 x7 h => K .normal (fs [(10, x10), (13, x13), (9, x9), (1, x1), (0, x0), (2, x2), (8, x8), (7, x7)]) h) := by
  kernel_rfl
noncomputable def p4arrrrrlrborlbrrrrlrtr (C : CF) (L : Nat) {β : Type} (x11 : Value) (x15 : Value) (x10 : Value) (x13 : Value) (x9 : Value) (x1 : Value) (x0 : Value) (x2 : Value) (x8 : Value) (x7 : Value) (h : H) (kn : Value → Value → Value → Value → Value → Value → Value → Value → H → Option β) (kr : Value → H → Option β) : Option β :=
  p4arrrrrlrborlbrrrrlrtrl C L x11 x15 x10 x13 x9 x1 x0 x2 x8 x7 h kr (fun x15 x10 x13 x9 x1 x0 x2 x8 x7 h => p4arrrrrlrborlbrrrrlrtrr C L x15 x10 x13 x9 x1 x0 x2 x8 x7 h kn)
theorem ep4arrrrrlrborlbrrrrlrtr (C : CF) (L : Nat) {β : Type} (x11 : Value) (x15 : Value) (x10 : Value) (x13 : Value) (x9 : Value) (x1 : Value) (x0 : Value) (x2 : Value) (x8 : Value) (x7 : Value) (h : H) (K : Ex → T Value → H → Option β) :
    execK Try.prog C L 0 267 [6] c4arrrrrlrborlbrrrrlrtr [10, 13, 9, 1, 0, 2, 8, 7] [(1, [9, 1, 0, 2, 8, 7]), (0, [8, 7])] (fs [(11, x11), (15, x15), (10, x10), (13, x13), (9, x9), (1, x1), (0, x0), (2, x2), (8, x8), (7, x7)]) h K =
      p4arrrrrlrborlbrrrrlrtr C L x11 x15 x10 x13 x9 x1 x0 x2 x8 x7 h (fun x10 x13 x9 x1 x0 x2 x8 x7 h => K .normal (fs [(10, x10), (13, x13), (9, x9), (1, x1), (0, x0), (2, x2), (8, x8), (7, x7)]) h) (fun x6 h => K .ret (fs [(6, x6)]) h) := by
  rw [execK_seq (a := c4arrrrrlrborlbrrrrlrtrl) (b := c4arrrrrlrborlbrrrrlrtrr) (by kernel_rfl) (show live [6] c4arrrrrlrborlbrrrrlrtrr [10, 13, 9, 1, 0, 2, 8, 7] [(1, [9, 1, 0, 2, 8, 7]), (0, [8, 7])] = [15, 10, 13, 9, 1, 0, 2, 8, 7] by kernel_rfl), ep4arrrrrlrborlbrrrrlrtrl]
  unfold p4arrrrrlrborlbrrrrlrtr
  exact (congr (congrArg (p4arrrrrlrborlbrrrrlrtrl C L x11 x15 x10 x13 x9 x1 x0 x2 x8 x7 h) (funext fun x6 => funext fun h => seqK_r _ _ _)) (funext fun x15 => funext fun x10 => funext fun x13 => funext fun x9 => funext fun x1 => funext fun x0 => funext fun x2 => funext fun x8 => funext fun x7 => funext fun h => (seqK_n _ _ _).trans (ep4arrrrrlrborlbrrrrlrtrr C L x15 x10 x13 x9 x1 x0 x2 x8 x7 h K)))
noncomputable def p4arrrrrlrborlbrrrrlrt (C : CF) (L : Nat) {β : Type} (x135 : Value) (x11 : Value) (x12 : Value) (x10 : Value) (x13 : Value) (x9 : Value) (x1 : Value) (x0 : Value) (x2 : Value) (x8 : Value) (x7 : Value) (h : H) (kn : Value → Value → Value → Value → Value → Value → Value → Value → H → Option β) (kr : Value → H → Option β) : Option β :=
  p4arrrrrlrborlbrrrrlrtl C L x135 x11 x12 x10 x13 x9 x1 x0 x2 x8 x7 h (fun x11 x15 x10 x13 x9 x1 x0 x2 x8 x7 h => p4arrrrrlrborlbrrrrlrtr C L x11 x15 x10 x13 x9 x1 x0 x2 x8 x7 h kn kr)
theorem ep4arrrrrlrborlbrrrrlrt (C : CF) (L : Nat) {β : Type} (x135 : Value) (x11 : Value) (x12 : Value) (x10 : Value) (x13 : Value) (x9 : Value) (x1 : Value) (x0 : Value) (x2 : Value) (x8 : Value) (x7 : Value) (h : H) (K : Ex → T Value → H → Option β) :
    execK Try.prog C L 0 267 [6] c4arrrrrlrborlbrrrrlrt [10, 13, 9, 1, 0, 2, 8, 7] [(1, [9, 1, 0, 2, 8, 7]), (0, [8, 7])] (fs [(135, x135), (11, x11), (12, x12), (10, x10), (13, x13), (9, x9), (1, x1), (0, x0), (2, x2), (8, x8), (7, x7)]) h K =
      p4arrrrrlrborlbrrrrlrt C L x135 x11 x12 x10 x13 x9 x1 x0 x2 x8 x7 h (fun x10 x13 x9 x1 x0 x2 x8 x7 h => K .normal (fs [(10, x10), (13, x13), (9, x9), (1, x1), (0, x0), (2, x2), (8, x8), (7, x7)]) h) (fun x6 h => K .ret (fs [(6, x6)]) h) := by
  rw [execK_seq (a := c4arrrrrlrborlbrrrrlrtl) (b := c4arrrrrlrborlbrrrrlrtr) (by kernel_rfl) (show live [6] c4arrrrrlrborlbrrrrlrtr [10, 13, 9, 1, 0, 2, 8, 7] [(1, [9, 1, 0, 2, 8, 7]), (0, [8, 7])] = [11, 15, 10, 13, 9, 1, 0, 2, 8, 7] by kernel_rfl), ep4arrrrrlrborlbrrrrlrtl]
  unfold p4arrrrrlrborlbrrrrlrt
  exact (congrArg (p4arrrrrlrborlbrrrrlrtl C L x135 x11 x12 x10 x13 x9 x1 x0 x2 x8 x7 h) (funext fun x11 => funext fun x15 => funext fun x10 => funext fun x13 => funext fun x9 => funext fun x1 => funext fun x0 => funext fun x2 => funext fun x8 => funext fun x7 => funext fun h => (seqK_n _ _ _).trans (ep4arrrrrlrborlbrrrrlrtr C L x11 x15 x10 x13 x9 x1 x0 x2 x8 x7 h K)))
noncomputable def c4arrrrrlrborlbrrrrlrf : Code := cR c4arrrrrlrborlbrrrrlr
noncomputable def c4arrrrrlrborlbrrrrlrfl : Code := cL c4arrrrrlrborlbrrrrlrf
noncomputable def p4arrrrrlrborlbrrrrlrfl (C : CF) (L : Nat) {β : Type} (x135 : Value) (x11 : Value) (x12 : Value) (x10 : Value) (x13 : Value) (x9 : Value) (x1 : Value) (x0 : Value) (x2 : Value) (x8 : Value) (x7 : Value) (h : H) (kn : Value → Value → Value → Value → Value → Value → Value → Value → Value → Value → Value → H → Option β) : Option β :=
  bnd (A.fieldAddr 1 x10) fun t170 =>
  bnd (A.load false 1 t170 h) fun t171 =>
  bnd (A.fieldAddr 2 x10) fun t172 =>
  bnd (A.load false 1 t172 h) fun t173 =>
  bnd (A.fieldAddr 3 x10) fun t174 =>
  bnd (A.load false 1 t174 h) fun t175 =>
  bnd2 (C 14 [x7, t171, t173, t175] h) fun t176 hq1 =>
  bnd (A.extract 0 t176) fun t177 =>
  bnd (A.extract 1 t176) fun t178 =>
  toBK t178 fun b =>
  kn t177 (.bool b) x12 x10 x13 x9 x1 x0 x2 x8 x7 hq1
theorem ep4arrrrrlrborlbrrrrlrfl (C : CF) (L : Nat) {β : Type} (x135 : Value) (x11 : Value) (x12 : Value) (x10 : Value) (x13 : Value) (x9 : Value) (x1 : Value) (x0 : Value) (x2 : Value) (x8 : Value) (x7 : Value) (h : H) (K : Ex → T Value → H → Option β) :
    execK Try.prog C L 0 267 [6] c4arrrrrlrborlbrrrrlrfl [16, 17, 12, 10, 13, 9, 1, 0, 2, 8, 7] [(1, [9, 1, 0, 2, 8, 7]), (0, [8, 7])] (fs [(135, x135), (11, x11), (12, x12), (10, x10), (13, x13), (9, x9), (1, x1), (0, x0), (2, x2), (8, x8), (7, x7)]) h K =
      p4arrrrrlrborlbrrrrlrfl C L x135 x11 x12 x10 x13 x9 x1 x0 x2 x8 x7 h (fun x16 x17 x12 x10 x13 x9 x1 x0 x2 x8 x7 h => K .normal (fs [(16, x16), (17, x17), (12, x12), (10, x10), (13, x13), (9, x9), (1, x1), (0, x0), (2, x2), (8, x8), (7, x7)]) h) := by
  kernel_rfl
noncomputable def c4arrrrrlrborlbrrrrlrfr : Code := cR c4arrrrrlrborlbrrrrlrf
noncomputable def c4arrrrrlrborlbrrrrlrfrl : Code := cL c4arrrrrlrborlbrrrrlrfr
noncomputable def c4arrrrrlrborlbrrrrlrfrll : Code := cL c4arrrrrlrborlbrrrrlrfrl
noncomputable def p4arrrrrlrborlbrrrrlrfrll (C : CF) (L : Nat) {β : Type} (x16 : Value) (x17 : Value) (x12 : Value) (x10 : Value) (x13 : Value) (x9 : Value) (x1 : Value) (x0 : Value) (x2 : Value) (x8 : Value) (x7 : Value) (h : H) (kn : Value → Value → Value → Value → Value → Value → Value → Value → Value → Value → H → Option β) : Option β :=
  toBK x17 fun b =>
  bnd (A.bin Try.prog .gtr 3 x13 (.int .i64 0)) fun t181 =>
  toBK t181 fun bq1 =>
  bnd (A.bin Try.prog .neq 4 (.bool b) (.bool bq1)) fun t182 =>
  toBK t182 fun bq2 =>
  (bif bq2 then
  kn (.bool true) x12 x10 x13 x9 x1 x0 x2 x8 x7 h
  else
  toBK x17 fun bq3 =>
  (bif bq3 then
  toBK x17 fun bq4 =>
  bnd2 (C 30 [x16, (.bool bq4), x12] h) fun t189 hq1 =>
  toBK t189 fun bq5 =>
  bnd (A.un Try.prog .not (.bool bq5)) fun t190 =>
  toBK t190 fun bq6 =>
  kn (.bool bq6) x12 x10 x13 x9 x1 x0 x2 x8 x7 hq1
  else
  kn (.bool false) x12 x10 x13 x9 x1 x0 x2 x8 x7 h))
theorem ep4arrrrrlrborlbrrrrlrfrll (C : CF) (L : Nat) {β : Type} (x16 : Value) (x17 : Value) (x12 : Value) (x10 : Value) (x13 : Value) (x9 : Value) (x1 : Value) (x0 : Value) (x2 : Value) (x8 : Value) (x7 : Value) (h : H) (K : Ex → T Value → H → Option β) :
    execK Try.prog C L 0 267 [6] c4arrrrrlrborlbrrrrlrfrll [192, 12, 10, 13, 9, 1, 0, 2, 8, 7] [(1, [9, 1, 0, 2, 8, 7]), (0, [8, 7])] (fs [(16, x16), (17, x17), (12, x12), (10, x10), (13, x13), (9, x9), (1, x1), (0, x0), (2, x2), (8, x8), (7, x7)]) h K =
      p4arrrrrlrborlbrrrrlrfrll C L x16 x17 x12 x10 x13 x9 x1 x0 x2 x8 x7 h (fun x192 x12 x10 x13 x9 x1 x0 x2 x8 x7 h => K .normal (fs [(192, x192), (12, x12), (10, x10), (13, x13), (9, x9), (1, x1), (0, x0), (2, x2), (8, x8), (7, x7)]) h) := by
  kernel_rfl
noncomputable def c4arrrrrlrborlbrrrrlrfrlr : Code := cR c4arrrrrlrborlbrrrrlrfrl
noncomputable def p4arrrrrlrborlbrrrrlrfrlr (C : CF) (L : Nat) {β : Type} (x192 : Value) (x12 : Value) (x10 : Value) (x13 : Value) (x9 : Value) (x1 : Value) (x0 : Value) (x2 : Value) (x8 : Value) (x7 : Value) (h : H) (kr : Value → H → Option β) (kn : Value → Value → Value → Value → Value → Value → Value → Value → Value → H → Option β) : Option β :=
  condV x192 (
  kr (.bool false) h) (
  kn x12 x10 x13 x9 x1 x0 x2 x8 x7 h)
theorem ep4arrrrrlrborlbrrrrlrfrlr (C : CF) (L : Nat) {β : Type} (x192 : Value) (x12 : Value) (x10 : Value) (x13 : Value) (x9 : Value) (x1 : Value) (x0 : Value) (x2 : Value) (x8 : Value) (x7 : Value) (h : H) (K : Ex → T Value → H → Option β) :
    execK Try.prog C L 0 267 [6] c4arrrrrlrborlbrrrrlrfrlr [12, 10, 13, 9, 1, 0, 2, 8, 7] [(1, [9, 1, 0, 2, 8, 7]), (0, [8, 7])] (fs [(192, x192), (12, x12), (10, x10), (13, x13), (9, x9), (1, x1), (0, x0), (2, x2), (8, x8), (7, x7)]) h K =
      p4arrrrrlrborlbrrrrlrfrlr C L x192 x12 x10 x13 x9 x1 x0 x2 x8 x7 h (fun x6 h => K .ret (fs [(6, x6)]) h) (fun x12 x10 x13 x9 x1 x0 x2 x8 x7 h => K .normal (fs [(12, x12), (10, x10), (13, x13), (9, x9), (1, x1), (0, x0), (2, x2), (8, x8), (7, x7)]) h) := by
  kernel_rfl
noncomputable def p4arrrrrlrborlbrrrrlrfrl (C : CF) (L : Nat) {β : Type} (x16 : Value) (x17 : Value) (x12 : Value) (x10 : Value) (x13 : Value) (x9 : Value) (x1 : Value) (x0 : Value) (x2 : Value) (x8 : Value) (x7 : Value) (h : H) (kr : Value → H → Option β) (kn : Value → Value → Value → Value → Value → Value → Value → Value → Value → H → Option β) : Option β :=
  p4arrrrrlrborlbrrrrlrfrll C L x16 x17 x12 x10 x13 x9 x1 x0 x2 x8 x7 h (fun x192 x12 x10 x13 x9 x1 x0 x2 x8 x7 h => p4arrrrrlrborlbrrrrlrfrlr C L x192 x12 x10 x13 x9 x1 x0 x2 x8 x7 h kr kn)
theorem ep4arrrrrlrborlbrrrrlrfrl (C : CF) (L : Nat) {β : Type} (x16 : Value) (x17 : Value) (x12 : Value) (x10 : Value) (x13 : Value) (x9 : Value) (x1 : Value) (x0 : Value) (x2 : Value) (x8 : Value) (x7 : Value) (h : H) (K : Ex → T Value → H → Option β) :
    execK Try.prog C L 0 267 [6] c4arrrrrlrborlbrrrrlrfrl [12, 10, 13, 9, 1, 0, 2, 8, 7] [(1, [9, 1, 0, 2, 8, 7]), (0, [8, 7])] (fs [(16, x16), (17, x17), (12, x12), (10, x10), (13, x13), (9, x9), (1, x1), (0, x0), (2, x2), (8, x8), (7, x7)]) h K =
      p4arrrrrlrborlbrrrrlrfrl C L x16 x17 x12 x10 x13 x9 x1 x0 x2 x8 x7 h (fun x6 h => K .ret (fs [(6, x6)]) h) (fun x12 x10 x13 x9 x1 x0 x2 x8 x7 h => K .normal (fs [(12, x12), (10, x10), (13, x13), (9, x9), (1, x1), (0, x0), (2, x2), (8, x8), (7, x7)]) h) := by
  rw [execK_seq (a := c4arrrrrlrborlbrrrrlrfrll) (b := c4arrrrrlrborlbrrrrlrfrlr) (by kernel_rfl) (show live [6] c4arrrrrlrborlbrrrrlrfrlr [12, 10, 13, 9, 1, 0, 2, 8, 7] [(1, [9, 1, 0, 2, 8, 7]), (0, [8, 7])] = [192, 12, 10, 13, 9, 1, 0, 2, 8, 7] by kernel_rfl), ep4arrrrrlrborlbrrrrlrfrll]
  unfold p4arrrrrlrborlbrrrrlrfrl
  exact (congrArg (p4arrrrrlrborlbrrrrlrfrll C L x16 x17 x12 x10 x13 x9 x1 x0 x2 x8 x7 h) (funext fun x192 => funext fun x12 => funext fun x10 => funext fun x13 => funext fun x9 => funext fun x1 => funext fun x0 => funext fun x2 => funext fun x8 => funext fun x7 => funext fun h => (seqK_n _ _ _).trans (ep4arrrrrlrborlbrrrrlrfrlr C L x192 x12 x10 x13 x9 x1 x0 x2 x8 x7 h K)))
noncomputable def c4arrrrrlrborlbrrrrlrfrr : Code := cR c4arrrrrlrborlbrrrrlrfr
noncomputable def c4arrrrrlrborlbrrrrlrfrrl : Code := cL c4arrrrrlrborlbrrrrlrfrr
noncomputable def p4arrrrrlrborlbrrrrlrfrrl (C : CF) (L : Nat) {β : Type} (x12 : Value) (x10 : Value) (x13 : Value) (x9 : Value) (x1 : Value) (x0 : Value) (x2 : Value) (x8 : Value) (x7 : Value) (h : H) (kn : Value → Value → Value → Value → Value → Value → Value → Value → Value → Value → H → Option β) : Option β :=
  bnd (A.fieldAddr 0 x10) fun t193 =>
  bnd (A.load false 1 t193 h) fun t194 =>
  bnd (A.bin Try.prog .rem 5 t194 (.int .u8 8)) fun t195 =>
  bnd (A.bin Try.prog .lss 5 t195 (.int .u8 7)) fun t196 =>
  toBK t196 fun b =>
  kn (.bool b) x12 x10 x13 x9 x1 x0 x2 x8 x7 h
theorem ep4arrrrrlrborlbrrrrlrfrrl (C : CF) (L : Nat) {β : Type} (x12 : Value) (x10 : Value) (x13 : Value) (x9 : Value) (x1 : Value) (x0 : Value) (x2 : Value) (x8 : Value) (x7 : Value) (h : H) (K : Ex → T Value → H → Option β) :
    execK Try.prog C L 0 267 [6] c4arrrrrlrborlbrrrrlrfrrl [196, 12, 10, 13, 9, 1, 0, 2, 8, 7] [(1, [9, 1, 0, 2, 8, 7]), (0, [8, 7])] (fs [(12, x12), (10, x10), (13, x13), (9, x9), (1, x1), (0, x0), (2, x2), (8, x8), (7, x7)]) h K =
      p4arrrrrlrborlbrrrrlrfrrl C L x12 x10 x13 x9 x1 x0 x2 x8 x7 h (fun x196 x12 x10 x13 x9 x1 x0 x2 x8 x7 h => K .normal (fs [(196, x196), (12, x12), (10, x10), (13, x13), (9, x9), (1, x1), (0, x0), (2, x2), (8, x8), (7, x7)]) h) := by
  kernel_rfl
noncomputable def c4arrrrrlrborlbrrrrlrfrrr : Code := cR c4arrrrrlrborlbrrrrlrfrr
noncomputable def c4arrrrrlrborlbrrrrlrfrrrt : Code := cL c4arrrrrlrborlbrrrrlrfrrr
noncomputable def c4arrrrrlrborlbrrrrlrfrrrtl : Code := cL c4arrrrrlrborlbrrrrlrfrrrt
noncomputable def p4arrrrrlrborlbrrrrlrfrrrtl (C : CF) (L : Nat) {β : Type} (x196 : Value) (x12 : Value) (x10 : Value) (x13 : Value) (x9 : Value) (x1 : Value) (x0 : Value) (x2 : Value) (x8 : Value) (x7 : Value) (h : H) (kn : Value → Value → Value → Value → Value → Value → Value → Value → Value → Value → Value → H → Option β) : Option β :=
  bnd (A.fieldAddr 1 x10) fun t199 =>
  bnd (A.load false 1 t199 h) fun t200 =>
  bnd (A.fieldAddr 2 x10) fun t201 =>
  bnd (A.load false 1 t201 h) fun t202 =>
  bnd (A.fieldAddr 3 x10) fun t203 =>
  bnd (A.load false 1 t203 h) fun t204 =>
  bnd2 (C 12 [x7, t200, t202, t204] h) fun t205 hq1 =>
  bnd (A.extract 0 t205) fun t206 =>
  bnd (A.extract 1 t205) fun t207 =>
  toBK t207 fun b =>
  kn t206 (.bool b) x12 x10 x13 x9 x1 x0 x2 x8 x7 hq1
theorem ep4arrrrrlrborlbrrrrlrfrrrtl (C : CF) (L : Nat) {β : Type} (x196 : Value) (x12 : Value) (x10 : Value) (x13 : Value) (x9 : Value) (x1 : Value) (x0 : Value) (x2 : Value) (x8 : Value) (x7 : Value) (h : H) (K : Ex → T Value → H → Option β) :
    execK Try.prog C L 0 267 [6] c4arrrrrlrborlbrrrrlrfrrrtl [16, 17, 12, 10, 13, 9, 1, 0, 2, 8, 7] [(1, [9, 1, 0, 2, 8, 7]), (0, [8, 7])] (fs [(196, x196), (12, x12), (10, x10), (13, x13), (9, x9), (1, x1), (0, x0), (2, x2), (8, x8), (7, x7)]) h K =
      p4arrrrrlrborlbrrrrlrfrrrtl C L x196 x12 x10 x13 x9 x1 x0 x2 x8 x7 h (fun x16 x17 x12 x10 x13 x9 x1 x0 x2 x8 x7 h => K .normal (fs [(16, x16), (17, x17), (12, x12), (10, x10), (13, x13), (9, x9), (1, x1), (0, x0), (2, x2), (8, x8), (7, x7)]) h) := by
  kernel_rfl
noncomputable def c4arrrrrlrborlbrrrrlrfrrrtr : Code := cR c4arrrrrlrborlbrrrrlrfrrrt
noncomputable def c4arrrrrlrborlbrrrrlrfrrrtrl : Code := cL c4arrrrrlrborlbrrrrlrfrrrtr
noncomputable def c4arrrrrlrborlbrrrrlrfrrrtrll : Code := cL c4arrrrrlrborlbrrrrlrfrrrtrl
noncomputable def p4arrrrrlrborlbrrrrlrfrrrtrll (C : CF) (L : Nat) {β : Type} (x16 : Value) (x17 : Value) (x12 : Value) (x10 : Value) (x13 : Value) (x9 : Value) (x1 : Value) (x0 : Value) (x2 : Value) (x8 : Value) (x7 : Value) (h : H) (kn : Value → Value → Value → Value → Value → Value → Value → Value → Value → Value → Value → H → Option β) : Option β :=
  toBK x17 fun b =>
  bnd (A.bin Try.prog .gtr 3 x13 (.int .i64 0)) fun t210 =>
  toBK t210 fun bq1 =>
  bnd (A.bin Try.prog .neq 4 (.bool b) (.bool bq1)) fun t211 =>
  toBK t211 fun bq2 =>
  (bif bq2 then
  kn (.bool true) x17 x12 x10 x13 x9 x1 x0 x2 x8 x7 h
  else
  toBK x17 fun bq3 =>
  (bif bq3 then
  toBK x17 fun bq4 =>
  bnd2 (C 30 [x16, (.bool bq4), x12] h) fun t218 hq1 =>
  toBK t218 fun bq5 =>
  bnd (A.un Try.prog .not (.bool bq5)) fun t219 =>
  toBK t219 fun bq6 =>
  kn (.bool bq6) x17 x12 x10 x13 x9 x1 x0 x2 x8 x7 hq1
  else
  kn (.bool false) x17 x12 x10 x13 x9 x1 x0 x2 x8 x7 h))
theorem ep4arrrrrlrborlbrrrrlrfrrrtrll (C : CF) (L : Nat) {β : Type} (x16 : Value) (x17 : Value) (x12 : Value) (x10 : Value) (x13 : Value) (x9 : Value) (x1 : Value) (x0 : Value) (x2 : Value) (x8 : Value) (x7 : Value) (h : H) (K : Ex → T Value → H → Option β) :
    execK Try.prog C L 0 267 [6] c4arrrrrlrborlbrrrrlrfrrrtrll [221, 17, 12, 10, 13, 9, 1, 0, 2, 8, 7] [(1, [9, 1, 0, 2, 8, 7]), (0, [8, 7])] (fs [(16, x16), (17, x17), (12, x12), (10, x10), (13, x13), (9, x9), (1, x1), (0, x0), (2, x2), (8, x8), (7, x7)]) h K =
      p4arrrrrlrborlbrrrrlrfrrrtrll C L x16 x17 x12 x10 x13 x9 x1 x0 x2 x8 x7 h (fun x221 x17 x12 x10 x13 x9 x1 x0 x2 x8 x7 h => K .normal (fs [(221, x221), (17, x17), (12, x12), (10, x10), (13, x13), (9, x9), (1, x1), (0, x0), (2, x2), (8, x8), (7, x7)]) h) := by
  kernel_rfl
noncomputable def c4arrrrrlrborlbrrrrlrfrrrtrlr : Code := cR c4arrrrrlrborlbrrrrlrfrrrtrl
noncomputable def p4arrrrrlrborlbrrrrlrfrrrtrlr (C : CF) (L : Nat) {β : Type} (x221 : Value) (x17 : Value) (x12 : Value) (x10 : Value) (x13 : Value) (x9 : Value) (x1 : Value) (x0 : Value) (x2 : Value) (x8 : Value) (x7 : Value) (h : H) (kr : Value → H → Option β) (kn : Value → Value → Value → Value → Value → Value → Value → Value → Value → Value → H → Option β) : Option β :=
  condV x221 (
  kr (.bool false) h) (
  kn x17 x12 x10 x13 x9 x1 x0 x2 x8 x7 h)
theorem ep4arrrrrlrborlbrrrrlrfrrrtrlr (C : CF) (L : Nat) {β : Type} (x221 : Value) (x17 : Value) (x12 : Value) (x10 : Value) (x13 : Value) (x9 : Value) (x1 : Value) (x0 : Value) (x2 : Value) (x8 : Value) (x7 : Value) (h : H) (K : Ex → T Value → H → Option β) :
    execK Try.prog C L 0 267 [6] c4arrrrrlrborlbrrrrlrfrrrtrlr [17, 12, 10, 13, 9, 1, 0, 2, 8, 7] [(1, [9, 1, 0, 2, 8, 7]), (0, [8, 7])] (fs [(221, x221), (17, x17), (12, x12), (10, x10), (13, x13), (9, x9), (1, x1), (0, x0), (2, x2), (8, x8), (7, x7)]) h K =
      p4arrrrrlrborlbrrrrlrfrrrtrlr C L x221 x17 x12 x10 x13 x9 x1 x0 x2 x8 x7 h (fun x6 h => K .ret (fs [(6, x6)]) h) (fun x17 x12 x10 x13 x9 x1 x0 x2 x8 x7 h => K .normal (fs [(17, x17), (12, x12), (10, x10), (13, x13), (9, x9), (1, x1), (0, x0), (2, x2), (8, x8), (7, x7)]) h) := by
  kernel_rfl
noncomputable def p4arrrrrlrborlbrrrrlrfrrrtrl (C : CF) (L : Nat) {β : Type} (x16 : Value) (x17 : Value) (x12 : Value) (x10 : Value) (x13 : Value) (x9 : Value) (x1 : Value) (x0 : Value) (x2 : Value) (x8 : Value) (x7 : Value) (h : H) (kr : Value → H → Option β) (kn : Value → Value → Value → Value → Value → Value → Value → Value → Value → Value → H → Option β) : Option β :=
  p4arrrrrlrborlbrrrrlrfrrrtrll C L x16 x17 x12 x10 x13 x9 x1 x0 x2 x8 x7 h (fun x221 x17 x12 x10 x13 x9 x1 x0 x2 x8 x7 h => p4arrrrrlrborlbrrrrlrfrrrtrlr C L x221 x17 x12 x10 x13 x9 x1 x0 x2 x8 x7 h kr kn)
theorem ep4arrrrrlrborlbrrrrlrfrrrtrl (C : CF) (L : Nat) {β : Type} (x16 : Value) (x17 : Value) (x12 : Value) (x10 : Value) (x13 : Value) (x9 : Value) (x1 : Value) (x0 : Value) (x2 : Value) (x8 : Value) (x7 : Value) (h : H) (K : Ex → T Value → H → Option β) :
    execK Try.prog C L 0 267 [6] c4arrrrrlrborlbrrrrlrfrrrtrl [17, 12, 10, 13, 9, 1, 0, 2, 8, 7] [(1, [9, 1, 0, 2, 8, 7]), (0, [8, 7])] (fs [(16, x16), (17, x17), (12, x12), (10, x10), (13, x13), (9, x9), (1, x1), (0, x0), (2, x2), (8, x8), (7, x7)]) h K =
      p4arrrrrlrborlbrrrrlrfrrrtrl C L x16 x17 x12 x10 x13 x9 x1 x0 x2 x8 x7 h (fun x6 h => K .ret (fs [(6, x6)]) h) (fun x17 x12 x10 x13 x9 x1 x0 x2 x8 x7 h => K .normal (fs [(17, x17), (12, x12), (10, x10), (13, x13), (9, x9), (1, x1), (0, x0), (2, x2), (8, x8), (7, x7)]) h) := by
  rw [execK_seq (a := c4arrrrrlrborlbrrrrlrfrrrtrll) (b := c4arrrrrlrborlbrrrrlrfrrrtrlr) (by kernel_rfl) (show live [6] c4arrrrrlrborlbrrrrlrfrrrtrlr [17, 12, 10, 13, 9, 1, 0, 2, 8, 7] [(1, [9, 1, 0, 2, 8, 7]), (0, [8, 7])] = [221, 17, 12, 10, 13, 9, 1, 0, 2, 8, 7] by kernel_rfl), ep4arrrrrlrborlbrrrrlrfrrrtrll]
  unfold p4arrrrrlrborlbrrrrlrfrrrtrl
  exact (congrArg (p4arrrrrlrborlbrrrrlrfrrrtrll C L x16 x17 x12 x10 x13 x9 x1 x0 x2 x8 x7 h) (funext fun x221 => funext fun x17 => funext fun x12 => funext fun x10 => funext fun x13 => funext fun x9 => funext fun x1 => funext fun x0 => funext fun x2 => funext fun x8 => funext fun x7 => funext fun h => (seqK_n _ _ _).trans (ep4arrrrrlrborlbrrrrlrfrrrtrlr C L x221 x17 x12 x10 x13 x9 x1 x0 x2 x8 x7 h K)))
noncomputable def c4arrrrrlrborlbrrrrlrfrrrtrr : Code := cR c4arrrrrlrborlbrrrrlrfrrrtr
noncomputable def p4arrrrrlrborlbrrrrlrfrrrtrr (C : CF) (L : Nat) {β : Type} (x17 : Value) (x12 : Value) (x10 : Value) (x13 : Value) (x9 : Value) (x1 : Value) (x0 : Value) (x2 : Value) (x8 : Value) (x7 : Value) (h : H) (kn : Value → Value → Value → Value → Value → Value → Value → Value → H → Option β) : Option β :=
  toBK x17 fun b =>
  (bif b then
  bnd (A.idxS 5 x8 x12) fun t225 =>
  bnd (A.fieldAddr 0 t225) fun t226 =>
  bnd (A.store 1 t226 (.int .u8 1) h) fun hq1 =>
  bnd (A.bin Try.prog .sub 3 x13 (.int .i64 1)) fun t228 =>
  kn x10 t228 x9 x1 x0 x2 x8 x7 hq1
  else
  kn x10 x13 x9 x1 x0 x2 x8 x7 h)
theorem ep4arrrrrlrborlbrrrrlrfrrrtrr (C : CF) (L : Nat) {β : Type} (x17 : Value) (x12 : Value) (x10 : Value) (x13 : Value) (x9 : Value) (x1 : Value) (x0 : Value) (x2 : Value) (x8 : Value) (x7 : Value) (h : H) (K : Ex → T Value → H → Option β) :
    execK Try.prog C L 0 267 [6] c4arrrrrlrborlbrrrrlrfrrrtrr [10, 13, 9, 1, 0, 2, 8, 7] [(1, [9, 1, 0, 2, 8, 7]), (0, [8, 7])] (fs [(17, x17), (12, x12), (10, x10), (13, x13), (9, x9), (1, x1), (0, x0), (2, x2), (8, x8), (7, x7)]) h K =
      p4arrrrrlrborlbrrrrlrfrrrtrr C L x17 x12 x10 x13 x9 x1 x0 x2 x8 x7 h (fun x10 x13 x9 x1 x0 x2 x8 x7 h => K .normal (fs [(10, x10), (13, x13), (9, x9), (1, x1), (0, x0), (2, x2), (8, x8), (7, x7)]) h) := by
  kernel_rfl
noncomputable def p4arrrrrlrborlbrrrrlrfrrrtr (C : CF) (L : Nat) {β : Type} (x16 : Value) (x17 : Value) (x12 : Value) (x10 : Value) (x13 : Value) (x9 : Value) (x1 : Value) (x0 : Value) (x2 : Value) (x8 : Value) (x7 : Value) (h : H) (kn : Value → Value → Value → Value → Value → Value → Value → Value → H → Option β) (kr : Value → H → Option β) : Option β :=
  p4arrrrrlrborlbrrrrlrfrrrtrl C L x16 x17 x12 x10 x13 x9 x1 x0 x2 x8 x7 h kr (fun x17 x12 x10 x13 x9 x1 x0 x2 x8 x7 h => p4arrrrrlrborlbrrrrlrfrrrtrr C L x17 x12 x10 x13 x9 x1 x0 x2 x8 x7 h kn)
theorem ep4arrrrrlrborlbrrrrlrfrrrtr (C : CF) (L : Nat) {β : Type} (x16 : Value) (x17 : Value) (x12 : Value) (x10 : Value) (x13 : Value) (x9 : Value) (x1 : Value) (x0 : Value) (x2 : Value) (x8 : Value) (x7 : Value) (h : H) (K : Ex → T Value → H → Option β) :
    execK Try.prog C L 0 267 [6] c4arrrrrlrborlbrrrrlrfrrrtr [10, 13, 9, 1, 0, 2, 8, 7] [(1, [9, 1, 0, 2, 8, 7]), (0, [8, 7])] (fs [(16, x16), (17, x17), (12, x12), (10, x10), (13, x13), (9, x9), (1, x1), (0, x0), (2, x2), (8, x8), (7, x7)]) h K =
      p4arrrrrlrborlbrrrrlrfrrrtr C L x16 x17 x12 x10 x13 x9 x1 x0 x2 x8 x7 h (fun x10 x13 x9 x1 x0 x2 x8 x7 h => K .normal (fs [(10, x10), (13, x13), (9, x9), (1, x1), (0, x0), (2, x2), (8, x8), (7, x7)]) h) (fun x6 h => K .ret (fs [(6, x6)]) h) := by
  rw [execK_seq (a := c4arrrrrlrborlbrrrrlrfrrrtrl) (b := c4arrrrrlrborlbrrrrlrfrrrtrr) (by kernel_rfl) (show live [6] c4arrrrrlrborlbrrrrlrfrrrtrr [10, 13, 9, 1, 0, 2, 8, 7] [(1, [9, 1, 0, 2, 8, 7]), (0, [8, 7])] = [17, 12, 10, 13, 9, 1, 0, 2, 8, 7] by kernel_rfl), ep4arrrrrlrborlbrrrrlrfrrrtrl]
  unfold p4arrrrrlrborlbrrrrlrfrrrtr
  exact (congr (congrArg (p4arrrrrlrborlbrrrrlrfrrrtrl C L x16 x17 x12 x10 x13 x9 x1 x0 x2 x8 x7 h) (funext fun x6 => funext fun h => seqK_r _ _ _)) (funext fun x17 => funext fun x12 => funext fun x10 => funext fun x13 => funext fun x9 => funext fun x1 => funext fun x0 => funext fun x2 => funext fun x8 => funext fun x7 => funext fun h => (seqK_n _ _ _).trans (ep4arrrrrlrborlbrrrrlrfrrrtrr C L x17 x12 x10 x13 x9 x1 x0 x2 x8 x7 h K)))
noncomputable def p4arrrrrlrborlbrrrrlrfrrrt (C : CF) (L : Nat) {β : Type} (x196 : Value) (x12 : Value) (x10 : Value) (x13 : Value) (x9 : Value) (x1 : Value) (x0 : Value) (x2 : Value) (x8 : Value) (x7 : Value) (h : H) (kn : Value → Value → Value → Value → Value → Value → Value → Value → H → Option β) (kr : Value → H → Option β) : Option β :=
  p4arrrrrlrborlbrrrrlrfrrrtl C L x196 x12 x10 x13 x9 x1 x0 x2 x8 x7 h (fun x16 x17 x12 x10 x13 x9 x1 x0 x2 x8 x7 h => p4arrrrrlrborlbrrrrlrfrrrtr C L x16 x17 x12 x10 x13 x9 x1 x0 x2 x8 x7 h kn kr)
theorem ep4arrrrrlrborlbrrrrlrfrrrt (C : CF) (L : Nat) {β : Type} (x196 : Value) (x12 : Value) (x10 : Value) (x13 : Value) (x9 : Value) (x1 : Value) (x0 : Value) (x2 : Value) (x8 : Value) (x7 : Value) (h : H) (K : Ex → T Value → H → Option β) :
    execK Try.prog C L 0 267 [6] c4arrrrrlrborlbrrrrlrfrrrt [10, 13, 9, 1, 0, 2, 8, 7] [(1, [9, 1, 0, 2, 8, 7]), (0, [8, 7])] (fs [(196, x196), (12, x12), (10, x10), (13, x13), (9, x9), (1, x1), (0, x0), (2, x2), (8, x8), (7, x7)]) h K =
      p4arrrrrlrborlbrrrrlrfrrrt C L x196 x12 x10 x13 x9 x1 x0 x2 x8 x7 h (fun x10 x13 x9 x1 x0 x2 x8 x7 h => K .normal (fs [(10, x10), (13, x13), (9, x9), (1, x1), (0, x0), (2, x2), (8, x8), (7, x7)]) h) (fun x6 h => K .ret (fs [(6, x6)]) h) := by
  rw [execK_seq (a := c4arrrrrlrborlbrrrrlrfrrrtl) (b := c4arrrrrlrborlbrrrrlrfrrrtr) (by kernel_rfl) (show live [6] c4arrrrrlrborlbrrrrlrfrrrtr [10, 13, 9, 1, 0, 2, 8, 7] [(1, [9, 1, 0, 2, 8, 7]), (0, [8, 7])] = [16, 17, 12, 10, 13, 9, 1, 0, 2, 8, 7] by kernel_rfl), ep4arrrrrlrborlbrrrrlrfrrrtl]
  unfold p4arrrrrlrborlbrrrrlrfrrrt
  exact (congrArg (p4arrrrrlrborlbrrrrlrfrrrtl C L x196 x12 x10 x13 x9 x1 x0 x2 x8 x7 h) (funext fun x16 => funext fun x17 => funext fun x12 => funext fun x10 => funext fun x13 => funext fun x9 => funext fun x1 => funext fun x0 => funext fun x2 => funext fun x8 => funext fun x7 => funext fun h => (seqK_n _ _ _).trans (ep4arrrrrlrborlbrrrrlrfrrrtr C L x16 x17 x12 x10 x13 x9 x1 x0 x2 x8 x7 h K)))
noncomputable def c4arrrrrlrborlbrrrrlrfrrrf : Code := cR c4arrrrrlrborlbrrrrlrfrrr
noncomputable def p4arrrrrlrborlbrrrrlrfrrrf (C : CF) (L : Nat) {β : Type} (x196 : Value) (x12 : Value) (x10 : Value) (x13 : Value) (x9 : Value) (x1 : Value) (x0 : Value) (x2 : Value) (x8 : Value) (x7 : Value) (h : H) (kn : Value → Value → Value → Value → Value → Value → Value → Value → H → Option β) : Option β :=
  kn x10 x13 x9 x1 x0 x2 x8 x7 h
theorem ep4arrrrrlrborlbrrrrlrfrrrf (C : CF) (L : Nat) {β : Type} (x196 : Value) (x12 : Value) (x10 : Value) (x13 : Value) (x9 : Value) (x1 : Value) (x0 : Value) (x2 : Value) (x8 : Value) (x7 : Value) (h : H) (K : Ex → T Value → H → Option β) :
    execK Try.prog C L 0 267 [6] c4arrrrrlrborlbrrrrlrfrrrf [10, 13, 9, 1, 0, 2, 8, 7] [(1, [9, 1, 0, 2, 8, 7]), (0, [8, 7])] (fs [(196, x196), (12, x12), (10, x10), (13, x13), (9, x9), (1, x1), (0, x0), (2, x2), (8, x8), (7, x7)]) h K =
      p4arrrrrlrborlbrrrrlrfrrrf C L x196 x12 x10 x13 x9 x1 x0 x2 x8 x7 h (fun x10 x13 x9 x1 x0 x2 x8 x7 h => K .normal (fs [(10, x10), (13, x13), (9, x9), (1, x1), (0, x0), (2, x2), (8, x8), (7, x7)]) h) := by
  kernel_rfl
noncomputable def p4arrrrrlrborlbrrrrlrfrrr (C : CF) (L : Nat) {β : Type} (x196 : Value) (x12 : Value) (x10 : Value) (x13 : Value) (x9 : Value) (x1 : Value) (x0 : Value) (x2 : Value) (x8 : Value) (x7 : Value) (h : H) (kn : Value → Value → Value → Value → Value → Value → Value → Value → H → Option β) (kr : Value → H → Option β) : Option β :=
  condV x196 (p4arrrrrlrborlbrrrrlrfrrrt C L x196 x12 x10 x13 x9 x1 x0 x2 x8 x7 h kn kr) (p4arrrrrlrborlbrrrrlrfrrrf C L x196 x12 x10 x13 x9 x1 x0 x2 x8 x7 h kn)
theorem ep4arrrrrlrborlbrrrrlrfrrr (C : CF) (L : Nat) {β : Type} (x196 : Value) (x12 : Value) (x10 : Value) (x13 : Value) (x9 : Value) (x1 : Value) (x0 : Value) (x2 : Value) (x8 : Value) (x7 : Value) (h : H) (K : Ex → T Value → H → Option β) :
    execK Try.prog C L 0 267 [6] c4arrrrrlrborlbrrrrlrfrrr [10, 13, 9, 1, 0, 2, 8, 7] [(1, [9, 1, 0, 2, 8, 7]), (0, [8, 7])] (fs [(196, x196), (12, x12), (10, x10), (13, x13), (9, x9), (1, x1), (0, x0), (2, x2), (8, x8), (7, x7)]) h K =
      p4arrrrrlrborlbrrrrlrfrrr C L x196 x12 x10 x13 x9 x1 x0 x2 x8 x7 h (fun x10 x13 x9 x1 x0 x2 x8 x7 h => K .normal (fs [(10, x10), (13, x13), (9, x9), (1, x1), (0, x0), (2, x2), (8, x8), (7, x7)]) h) (fun x6 h => K .ret (fs [(6, x6)]) h) := by
  rw [execK_cond (a := c4arrrrrlrborlbrrrrlrfrrrt) (b := c4arrrrrlrborlbrrrrlrfrrrf) (x := (.tmp 196)) (v := x196) (by kernel_rfl) (by kernel_rfl), ep4arrrrrlrborlbrrrrlrfrrrt, ep4arrrrrlrborlbrrrrlrfrrrf]
  unfold p4arrrrrlrborlbrrrrlrfrrr
  rfl
noncomputable def p4arrrrrlrborlbrrrrlrfrr (C : CF) (L : Nat) {β : Type} (x12 : Value) (x10 : Value) (x13 : Value) (x9 : Value) (x1 : Value) (x0 : Value) (x2 : Value) (x8 : Value) (x7 : Value) (h : H) (kn : Value → Value → Value → Value → Value → Value → Value → Value → H → Option β) (kr : Value → H → Option β) : Option β :=
  p4arrrrrlrborlbrrrrlrfrrl C L x12 x10 x13 x9 x1 x0 x2 x8 x7 h (fun x196 x12 x10 x13 x9 x1 x0 x2 x8 x7 h => p4arrrrrlrborlbrrrrlrfrrr C L x196 x12 x10 x13 x9 x1 x0 x2 x8 x7 h kn kr)
theorem ep4arrrrrlrborlbrrrrlrfrr (C : CF) (L : Nat) {β : Type} (x12 : Value) (x10 : Value) (x13 : Value) (x9 : Value) (x1 : Value) (x0 : Value) (x2 : Value) (x8 : Value) (x7 : Value) (h : H) (K : Ex → T Value → H → Option β) :
    execK Try.prog C L 0 267 [6] c4arrrrrlrborlbrrrrlrfrr [10, 13, 9, 1, 0, 2, 8, 7] [(1, [9, 1, 0, 2, 8, 7]), (0, [8, 7])] (fs [(12, x12), (10, x10), (13, x13), (9, x9), (1, x1), (0, x0), (2, x2), (8, x8), (7, x7)]) h K =
      p4arrrrrlrborlbrrrrlrfrr C L x12 x10 x13 x9 x1 x0 x2 x8 x7 h (fun x10 x13 x9 x1 x0 x2 x8 x7 h => K .normal (fs [(10, x10), (13, x13), (9, x9), (1, x1), (0, x0), (2, x2), (8, x8), (7, x7)]) h) (fun x6 h => K .ret (fs [(6, x6)]) h) := by
  rw [execK_seq (a := c4arrrrrlrborlbrrrrlrfrrl) (b := c4arrrrrlrborlbrrrrlrfrrr) (by kernel_rfl) (show live [6] c4arrrrrlrborlbrrrrlrfrrr [10, 13, 9, 1, 0, 2, 8, 7] [(1, [9, 1, 0, 2, 8, 7]), (0, [8, 7])] = [196, 12, 10, 13, 9, 1, 0, 2, 8, 7] by kernel_rfl), ep4arrrrrlrborlbrrrrlrfrrl]
  unfold p4arrrrrlrborlbrrrrlrfrr
  exact (congrArg (p4arrrrrlrborlbrrrrlrfrrl C L x12 x10 x13 x9 x1 x0 x2 x8 x7 h) (funext fun x196 => funext fun x12 => funext fun x10 => funext fun x13 => funext fun x9 => funext fun x1 => funext fun x0 => funext fun x2 => funext fun x8 => funext fun x7 => funext fun h => (seqK_n _ _ _).trans (ep4arrrrrlrborlbrrrrlrfrrr C L x196 x12 x10 x13 x9 x1 x0 x2 x8 x7 h K)))
noncomputable def p4arrrrrlrborlbrrrrlrfr (C : CF) (L : Nat) {β : Type} (x16 : Value) (x17 : Value) (x12 : Value) (x10 : Value) (x13 : Value) (x9 : Value) (x1 : Value) (x0 : Value) (x2 : Value) (x8 : Value) (x7 : Value) (h : H) (kn : Value → Value → Value → Value → Value → Value → Value → Value → H → Option β) (kr : Value → H → Option β) : Option β :=
  p4arrrrrlrborlbrrrrlrfrl C L x16 x17 x12 x10 x13 x9 x1 x0 x2 x8 x7 h kr (fun x12 x10 x13 x9 x1 x0 x2 x8 x7 h => p4arrrrrlrborlbrrrrlrfrr C L x12 x10 x13 x9 x1 x0 x2 x8 x7 h kn kr)
theorem ep4arrrrrlrborlbrrrrlrfr (C : CF) (L : Nat) {β : Type} (x16 : Value) (x17 : Value) (x12 : Value) (x10 : Value) (x13 : Value) (x9 : Value) (x1 : Value) (x0 : Value) (x2 : Value) (x8 : Value) (x7 : Value) (h : H) (K : Ex → T Value → H → Option β) :
    execK Try.prog C L 0 267 [6] c4arrrrrlrborlbrrrrlrfr [10, 13, 9, 1, 0, 2, 8, 7] [(1, [9, 1, 0, 2, 8, 7]), (0, [8, 7])] (fs [(16, x16), (17, x17), (12, x12), (10, x10), (13, x13), (9, x9), (1, x1), (0, x0), (2, x2), (8, x8), (7, x7)]) h K =
      p4arrrrrlrborlbrrrrlrfr C L x16 x17 x12 x10 x13 x9 x1 x0 x2 x8 x7 h (fun x10 x13 x9 x1 x0 x2 x8 x7 h => K .normal (fs [(10, x10), (13, x13), (9, x9), (1, x1), (0, x0), (2, x2), (8, x8), (7, x7)]) h) (fun x6 h => K .ret (fs [(6, x6)]) h) := by
  rw [execK_seq (a := c4arrrrrlrborlbrrrrlrfrl) (b := c4arrrrrlrborlbrrrrlrfrr) (by kernel_rfl) (show live [6] c4arrrrrlrborlbrrrrlrfrr [10, 13, 9, 1, 0, 2, 8, 7] [(1, [9, 1, 0, 2, 8, 7]), (0, [8, 7])] = [12, 10, 13, 9, 1, 0, 2, 8, 7] by kernel_rfl), ep4arrrrrlrborlbrrrrlrfrl]
  unfold p4arrrrrlrborlbrrrrlrfr
  exact (congr (congrArg (p4arrrrrlrborlbrrrrlrfrl C L x16 x17 x12 x10 x13 x9 x1 x0 x2 x8 x7 h) (funext fun x6 => funext fun h => seqK_r _ _ _)) (funext fun x12 => funext fun x10 => funext fun x13 => funext fun x9 => funext fun x1 => funext fun x0 => funext fun x2 => funext fun x8 => funext fun x7 => funext fun h => (seqK_n _ _ _).trans (ep4arrrrrlrborlbrrrrlrfrr C L x12 x10 x13 x9 x1 x0 x2 x8 x7 h K)))
noncomputable def p4arrrrrlrborlbrrrrlrf (C : CF) (L : Nat) {β : Type} (x135 : Value) (x11 : Value) (x12 : Value) (x10 : Value) (x13 : Value) (x9 : Value) (x1 : Value) (x0 : Value) (x2 : Value) (x8 : Value) (x7 : Value) (h : H) (kn : Value → Value → Value → Value → Value → Value → Value → Value → H → Option β) (kr : Value → H → Option β) : Option β :=
  p4arrrrrlrborlbrrrrlrfl C L x135 x11 x12 x10 x13 x9 x1 x0 x2 x8 x7 h (fun x16 x17 x12 x10 x13 x9 x1 x0 x2 x8 x7 h => p4arrrrrlrborlbrrrrlrfr C L x16 x17 x12 x10 x13 x9 x1 x0 x2 x8 x7 h kn kr)
theorem ep4arrrrrlrborlbrrrrlrf (C : CF) (L : Nat) {β : Type} (x135 : Value) (x11 : Value) (x12 : Value) (x10 : Value) (x13 : Value) (x9 : Value) (x1 : Value) (x0 : Value) (x2 : Value) (x8 : Value) (x7 : Value) (h : H) (K : Ex → T Value → H → Option β) :
    execK Try.prog C L 0 267 [6] c4arrrrrlrborlbrrrrlrf [10, 13, 9, 1, 0, 2, 8, 7] [(1, [9, 1, 0, 2, 8, 7]), (0, [8, 7])] (fs [(135, x135), (11, x11), (12, x12), (10, x10), (13, x13), (9, x9), (1, x1), (0, x0), (2, x2), (8, x8), (7, x7)]) h K =
      p4arrrrrlrborlbrrrrlrf C L x135 x11 x12 x10 x13 x9 x1 x0 x2 x8 x7 h (fun x10 x13 x9 x1 x0 x2 x8 x7 h => K .normal (fs [(10, x10), (13, x13), (9, x9), (1, x1), (0, x0), (2, x2), (8, x8), (7, x7)]) h) (fun x6 h => K .ret (fs [(6, x6)]) h) := by
  rw [execK_seq (a := c4arrrrrlrborlbrrrrlrfl) (b := c4arrrrrlrborlbrrrrlrfr) (by kernel_rfl) (show live [6] c4arrrrrlrborlbrrrrlrfr [10, 13, 9, 1, 0, 2, 8, 7] [(1, [9, 1, 0, 2, 8, 7]), (0, [8, 7])] = [16, 17, 12, 10, 13, 9, 1, 0, 2, 8, 7] by kernel_rfl), ep4arrrrrlrborlbrrrrlrfl]
  unfold p4arrrrrlrborlbrrrrlrf
  exact (congrArg (p4arrrrrlrborlbrrrrlrfl C L x135 x11 x12 x10 x13 x9 x1 x0 x2 x8 x7 h) (funext fun x16 => funext fun x17 => funext fun x12 => funext fun x10 => funext fun x13 => funext fun x9 => funext fun x1 => funext fun x0 => funext fun x2 => funext fun x8 => funext fun x7 => funext fun h => (seqK_n _ _ _).trans (ep4arrrrrlrborlbrrrrlrfr C L x16 x17 x12 x10 x13 x9 x1 x0 x2 x8 x7 h K)))
noncomputable def p4arrrrrlrborlbrrrrlr (C : CF) (L : Nat) {β : Type} (x135 : Value) (x11 : Value) (x12 : Value) (x10 : Value) (x13 : Value) (x9 : Value) (x1 : Value) (x0 : Value) (x2 : Value) (x8 : Value) (x7 : Value) (h : H) (kn : Value → Value → Value → Value → Value → Value → Value → Value → H → Option β) (kr : Value → H → Option β) : Option β :=
  condV x135 (p4arrrrrlrborlbrrrrlrt C L x135 x11 x12 x10 x13 x9 x1 x0 x2 x8 x7 h kn kr) (p4arrrrrlrborlbrrrrlrf C L x135 x11 x12 x10 x13 x9 x1 x0 x2 x8 x7 h kn kr)
theorem ep4arrrrrlrborlbrrrrlr (C : CF) (L : Nat) {β : Type} (x135 : Value) (x11 : Value) (x12 : Value) (x10 : Value) (x13 : Value) (x9 : Value) (x1 : Value) (x0 : Value) (x2 : Value) (x8 : Value) (x7 : Value) (h : H) (K : Ex → T Value → H → Option β) :
    execK Try.prog C L 0 267 [6] c4arrrrrlrborlbrrrrlr [10, 13, 9, 1, 0, 2, 8, 7] [(1, [9, 1, 0, 2, 8, 7]), (0, [8, 7])] (fs [(135, x135), (11, x11), (12, x12), (10, x10), (13, x13), (9, x9), (1, x1), (0, x0), (2, x2), (8, x8), (7, x7)]) h K =
      p4arrrrrlrborlbrrrrlr C L x135 x11 x12 x10 x13 x9 x1 x0 x2 x8 x7 h (fun x10 x13 x9 x1 x0 x2 x8 x7 h => K .normal (fs [(10, x10), (13, x13), (9, x9), (1, x1), (0, x0), (2, x2), (8, x8), (7, x7)]) h) (fun x6 h => K .ret (fs [(6, x6)]) h) := by
  rw [execK_cond (a := c4arrrrrlrborlbrrrrlrt) (b := c4arrrrrlrborlbrrrrlrf) (x := (.tmp 135)) (v := x135) (by kernel_rfl) (by kernel_rfl), ep4arrrrrlrborlbrrrrlrt, ep4arrrrrlrborlbrrrrlrf]
  unfold p4arrrrrlrborlbrrrrlr
  rfl
noncomputable def p4arrrrrlrborlbrrrrl (C : CF) (L : Nat) {β : Type} (x11 : Value) (x12 : Value) (x10 : Value) (x13 : Value) (x9 : Value) (x1 : Value) (x0 : Value) (x2 : Value) (x8 : Value) (x7 : Value) (h : H) (kn : Value → Value → Value → Value → Value → Value → Value → Value → H → Option β) (kr : Value → H → Option β) : Option β :=
  p4arrrrrlrborlbrrrrll C L x11 x12 x10 x13 x9 x1 x0 x2 x8 x7 h (fun x135 x11 x12 x10 x13 x9 x1 x0 x2 x8 x7 h => p4arrrrrlrborlbrrrrlr C L x135 x11 x12 x10 x13 x9 x1 x0 x2 x8 x7 h kn kr)
theorem ep4arrrrrlrborlbrrrrl (C : CF) (L : Nat) {β : Type} (x11 : Value) (x12 : Value) (x10 : Value) (x13 : Value) (x9 : Value) (x1 : Value) (x0 : Value) (x2 : Value) (x8 : Value) (x7 : Value) (h : H) (K : Ex → T Value → H → Option β) :
    execK Try.prog C L 0 267 [6] c4arrrrrlrborlbrrrrl [10, 13, 9, 1, 0, 2, 8, 7] [(1, [9, 1, 0, 2, 8, 7]), (0, [8, 7])] (fs [(11, x11), (12, x12), (10, x10), (13, x13), (9, x9), (1, x1), (0, x0), (2, x2), (8, x8), (7, x7)]) h K =
      p4arrrrrlrborlbrrrrl C L x11 x12 x10 x13 x9 x1 x0 x2 x8 x7 h (fun x10 x13 x9 x1 x0 x2 x8 x7 h => K .normal (fs [(10, x10), (13, x13), (9, x9), (1, x1), (0, x0), (2, x2), (8, x8), (7, x7)]) h) (fun x6 h => K .ret (fs [(6, x6)]) h) := by
  rw [execK_seq (a := c4arrrrrlrborlbrrrrll) (b := c4arrrrrlrborlbrrrrlr) (by kernel_rfl) (show live [6] c4arrrrrlrborlbrrrrlr [10, 13, 9, 1, 0, 2, 8, 7] [(1, [9, 1, 0, 2, 8, 7]), (0, [8, 7])] = [135, 11, 12, 10, 13, 9, 1, 0, 2, 8, 7] by kernel_rfl), ep4arrrrrlrborlbrrrrll]
  unfold p4arrrrrlrborlbrrrrl
  exact (congrArg (p4arrrrrlrborlbrrrrll C L x11 x12 x10 x13 x9 x1 x0 x2 x8 x7 h) (funext fun x135 => funext fun x11 => funext fun x12 => funext fun x10 => funext fun x13 => funext fun x9 => funext fun x1 => funext fun x0 => funext fun x2 => funext fun x8 => funext fun x7 => funext fun h => (seqK_n _ _ _).trans (ep4arrrrrlrborlbrrrrlr C L x135 x11 x12 x10 x13 x9 x1 x0 x2 x8 x7 h K)))
noncomputable def c4arrrrrlrborlbrrrrr : Code := cR c4arrrrrlrborlbrrrr
noncomputable def p4arrrrrlrborlbrrrrr (C : CF) (L : Nat) {β : Type} (x10 : Value) (x13 : Value) (x9 : Value) (x1 : Value) (x0 : Value) (x2 : Value) (x8 : Value) (x7 : Value) (h : H) (kr : Value → H → Option β) (kn : Value → Value → Value → Value → Value → Value → H → Option β) : Option β :=
  bnd (A.fieldAddr 1 x10) fun t230 =>
  bnd (A.load false 1 t230 h) fun t231 =>
  bnd (A.fieldAddr 2 x10) fun t232 =>
  bnd (A.load false 1 t232 h) fun t233 =>
  bnd (A.fieldAddr 3 x10) fun t234 =>
  bnd (A.load false 1 t234 h) fun t235 =>
  bnd2 (C 23 [x7, t231, t233, t235] h) fun t236 hq1 =>
  bnd (A.bin Try.prog .neq 3 t236 x13) fun t238 =>
  toBK t238 fun b =>
  (bif b then
  kr (.bool false) hq1
  else
  kn x9 x1 x0 x2 x8 x7 hq1)
theorem ep4arrrrrlrborlbrrrrr (C : CF) (L : Nat) {β : Type} (x10 : Value) (x13 : Value) (x9 : Value) (x1 : Value) (x0 : Value) (x2 : Value) (x8 : Value) (x7 : Value) (h : H) (K : Ex → T Value → H → Option β) :
    execK Try.prog C L 0 267 [6] c4arrrrrlrborlbrrrrr [9, 1, 0, 2, 8, 7] [(1, [9, 1, 0, 2, 8, 7]), (0, [8, 7])] (fs [(10, x10), (13, x13), (9, x9), (1, x1), (0, x0), (2, x2), (8, x8), (7, x7)]) h K =
      p4arrrrrlrborlbrrrrr C L x10 x13 x9 x1 x0 x2 x8 x7 h (fun x6 h => K .ret (fs [(6, x6)]) h) (fun x9 x1 x0 x2 x8 x7 h => K .normal (fs [(9, x9), (1, x1), (0, x0), (2, x2), (8, x8), (7, x7)]) h) := by
  kernel_rfl
noncomputable def p4arrrrrlrborlbrrrr (C : CF) (L : Nat) {β : Type} (x11 : Value) (x12 : Value) (x10 : Value) (x13 : Value) (x9 : Value) (x1 : Value) (x0 : Value) (x2 : Value) (x8 : Value) (x7 : Value) (h : H) (kr : Value → H → Option β) (kn : Value → Value → Value → Value → Value → Value → H → Option β) : Option β :=
  p4arrrrrlrborlbrrrrl C L x11 x12 x10 x13 x9 x1 x0 x2 x8 x7 h (fun x10 x13 x9 x1 x0 x2 x8 x7 h => p4arrrrrlrborlbrrrrr C L x10 x13 x9 x1 x0 x2 x8 x7 h kr kn) kr
theorem ep4arrrrrlrborlbrrrr (C : CF) (L : Nat) {β : Type} (x11 : Value) (x12 : Value) (x10 : Value) (x13 : Value) (x9 : Value) (x1 : Value) (x0 : Value) (x2 : Value) (x8 : Value) (x7 : Value) (h : H) (K : Ex → T Value → H → Option β) :
    execK Try.prog C L 0 267 [6] c4arrrrrlrborlbrrrr [9, 1, 0, 2, 8, 7] [(1, [9, 1, 0, 2, 8, 7]), (0, [8, 7])] (fs [(11, x11), (12, x12), (10, x10), (13, x13), (9, x9), (1, x1), (0, x0), (2, x2), (8, x8), (7, x7)]) h K =
      p4arrrrrlrborlbrrrr C L x11 x12 x10 x13 x9 x1 x0 x2 x8 x7 h (fun x6 h => K .ret (fs [(6, x6)]) h) (fun x9 x1 x0 x2 x8 x7 h => K .normal (fs [(9, x9), (1, x1), (0, x0), (2, x2), (8, x8), (7, x7)]) h) := by
  rw [execK_seq (a := c4arrrrrlrborlbrrrrl) (b := c4arrrrrlrborlbrrrrr) (by kernel_rfl) (show live [6] c4arrrrrlrborlbrrrrr [9, 1, 0, 2, 8, 7] [(1, [9, 1, 0, 2, 8, 7]), (0, [8, 7])] = [10, 13, 9, 1, 0, 2, 8, 7] by kernel_rfl), ep4arrrrrlrborlbrrrrl]
  unfold p4arrrrrlrborlbrrrr
  exact (congr (congrArg (p4arrrrrlrborlbrrrrl C L x11 x12 x10 x13 x9 x1 x0 x2 x8 x7 h) (funext fun x10 => funext fun x13 => funext fun x9 => funext fun x1 => funext fun x0 => funext fun x2 => funext fun x8 => funext fun x7 => funext fun h => (seqK_n _ _ _).trans (ep4arrrrrlrborlbrrrrr C L x10 x13 x9 x1 x0 x2 x8 x7 h K))) (funext fun x6 => funext fun h => seqK_r _ _ _))
noncomputable def p4arrrrrlrborlbrrr (C : CF) (L : Nat) {β : Type} (x11 : Value) (x12 : Value) (x10 : Value) (x13 : Value) (x9 : Value) (x1 : Value) (x0 : Value) (x2 : Value) (x8 : Value) (x7 : Value) (h : H) (kr : Value → H → Option β) (kn : Value → Value → Value → Value → Value → Value → H → Option β) : Option β :=
  p4arrrrrlrborlbrrrl C L x11 x12 x10 x13 x9 x1 x0 x2 x8 x7 h (fun x11 x12 x10 x13 x9 x1 x0 x2 x8 x7 h => p4arrrrrlrborlbrrrr C L x11 x12 x10 x13 x9 x1 x0 x2 x8 x7 h kr kn)
theorem ep4arrrrrlrborlbrrr (C : CF) (L : Nat) {β : Type} (x11 : Value) (x12 : Value) (x10 : Value) (x13 : Value) (x9 : Value) (x1 : Value) (x0 : Value) (x2 : Value) (x8 : Value) (x7 : Value) (h : H) (K : Ex → T Value → H → Option β) :
    execK Try.prog C L 0 267 [6] c4arrrrrlrborlbrrr [9, 1, 0, 2, 8, 7] [(1, [9, 1, 0, 2, 8, 7]), (0, [8, 7])] (fs [(11, x11), (12, x12), (10, x10), (13, x13), (9, x9), (1, x1), (0, x0), (2, x2), (8, x8), (7, x7)]) h K =
      p4arrrrrlrborlbrrr C L x11 x12 x10 x13 x9 x1 x0 x2 x8 x7 h (fun x6 h => K .ret (fs [(6, x6)]) h) (fun x9 x1 x0 x2 x8 x7 h => K .normal (fs [(9, x9), (1, x1), (0, x0), (2, x2), (8, x8), (7, x7)]) h) := by
  rw [execK_seq (a := c4arrrrrlrborlbrrrl) (b := c4arrrrrlrborlbrrrr) (by kernel_rfl) (show live [6] c4arrrrrlrborlbrrrr [9, 1, 0, 2, 8, 7] [(1, [9, 1, 0, 2, 8, 7]), (0, [8, 7])] = [11, 12, 10, 13, 9, 1, 0, 2, 8, 7] by kernel_rfl), ep4arrrrrlrborlbrrrl]
  unfold p4arrrrrlrborlbrrr
  exact (congrArg (p4arrrrrlrborlbrrrl C L x11 x12 x10 x13 x9 x1 x0 x2 x8 x7 h) (funext fun x11 => funext fun x12 => funext fun x10 => funext fun x13 => funext fun x9 => funext fun x1 => funext fun x0 => funext fun x2 => funext fun x8 => funext fun x7 => funext fun h => (seqK_n _ _ _).trans (ep4arrrrrlrborlbrrrr C L x11 x12 x10 x13 x9 x1 x0 x2 x8 x7 h K)))
noncomputable def p4arrrrrlrborlbrr (C : CF) (L : Nat) {β : Type} (x11 : Value) (x10 : Value) (x9 : Value) (x1 : Value) (x0 : Value) (x2 : Value) (x8 : Value) (x7 : Value) (h : H) (kr : Value → H → Option β) (kn : Value → Value → Value → Value → Value → Value → H → Option β) : Option β :=
  p4arrrrrlrborlbrrl C L x11 x10 x9 x1 x0 x2 x8 x7 h (fun x11 x12 x10 x13 x9 x1 x0 x2 x8 x7 h => p4arrrrrlrborlbrrr C L x11 x12 x10 x13 x9 x1 x0 x2 x8 x7 h kr kn)
theorem ep4arrrrrlrborlbrr (C : CF) (L : Nat) {β : Type} (x11 : Value) (x10 : Value) (x9 : Value) (x1 : Value) (x0 : Value) (x2 : Value) (x8 : Value) (x7 : Value) (h : H) (K : Ex → T Value → H → Option β) :
    execK Try.prog C L 0 267 [6] c4arrrrrlrborlbrr [9, 1, 0, 2, 8, 7] [(1, [9, 1, 0, 2, 8, 7]), (0, [8, 7])] (fs [(11, x11), (10, x10), (9, x9), (1, x1), (0, x0), (2, x2), (8, x8), (7, x7)]) h K =
      p4arrrrrlrborlbrr C L x11 x10 x9 x1 x0 x2 x8 x7 h (fun x6 h => K .ret (fs [(6, x6)]) h) (fun x9 x1 x0 x2 x8 x7 h => K .normal (fs [(9, x9), (1, x1), (0, x0), (2, x2), (8, x8), (7, x7)]) h) := by
  rw [execK_seq (a := c4arrrrrlrborlbrrl) (b := c4arrrrrlrborlbrrr) (by kernel_rfl) (show live [6] c4arrrrrlrborlbrrr [9, 1, 0, 2, 8, 7] [(1, [9, 1, 0, 2, 8, 7]), (0, [8, 7])] = [11, 12, 10, 13, 9, 1, 0, 2, 8, 7] by kernel_rfl), ep4arrrrrlrborlbrrl]
  unfold p4arrrrrlrborlbrr
  exact (congrArg (p4arrrrrlrborlbrrl C L x11 x10 x9 x1 x0 x2 x8 x7 h) (funext fun x11 => funext fun x12 => funext fun x10 => funext fun x13 => funext fun x9 => funext fun x1 => funext fun x0 => funext fun x2 => funext fun x8 => funext fun x7 => funext fun h => (seqK_n _ _ _).trans (ep4arrrrrlrborlbrrr C L x11 x12 x10 x13 x9 x1 x0 x2 x8 x7 h K)))
noncomputable def p4arrrrrlrborlbr (C : CF) (L : Nat) {β : Type} (x10 : Value) (x9 : Value) (x1 : Value) (x0 : Value) (x2 : Value) (x8 : Value) (x7 : Value) (h : H) (kr : Value → H → Option β) (kn : Value → Value → Value → Value → Value → Value → H → Option β) : Option β :=
  p4arrrrrlrborlbrl C L x10 x9 x1 x0 x2 x8 x7 h (fun x11 x10 x9 x1 x0 x2 x8 x7 h => p4arrrrrlrborlbrr C L x11 x10 x9 x1 x0 x2 x8 x7 h kr kn)
theorem ep4arrrrrlrborlbr (C : CF) (L : Nat) {β : Type} (x10 : Value) (x9 : Value) (x1 : Value) (x0 : Value) (x2 : Value) (x8 : Value) (x7 : Value) (h : H) (K : Ex → T Value → H → Option β) :
    execK Try.prog C L 0 267 [6] c4arrrrrlrborlbr [9, 1, 0, 2, 8, 7] [(1, [9, 1, 0, 2, 8, 7]), (0, [8, 7])] (fs [(10, x10), (9, x9), (1, x1), (0, x0), (2, x2), (8, x8), (7, x7)]) h K =
      p4arrrrrlrborlbr C L x10 x9 x1 x0 x2 x8 x7 h (fun x6 h => K .ret (fs [(6, x6)]) h) (fun x9 x1 x0 x2 x8 x7 h => K .normal (fs [(9, x9), (1, x1), (0, x0), (2, x2), (8, x8), (7, x7)]) h) := by
  rw [execK_seq (a := c4arrrrrlrborlbrl) (b := c4arrrrrlrborlbrr) (by kernel_rfl) (show live [6] c4arrrrrlrborlbrr [9, 1, 0, 2, 8, 7] [(1, [9, 1, 0, 2, 8, 7]), (0, [8, 7])] = [11, 10, 9, 1, 0, 2, 8, 7] by kernel_rfl), ep4arrrrrlrborlbrl]
  unfold p4arrrrrlrborlbr
  exact (congrArg (p4arrrrrlrborlbrl C L x10 x9 x1 x0 x2 x8 x7 h) (funext fun x11 => funext fun x10 => funext fun x9 => funext fun x1 => funext fun x0 => funext fun x2 => funext fun x8 => funext fun x7 => funext fun h => (seqK_n _ _ _).trans (ep4arrrrrlrborlbrr C L x11 x10 x9 x1 x0 x2 x8 x7 h K)))
noncomputable def p4arrrrrlrborlb (C : CF) (L : Nat) {β : Type} (x9 : Value) (x1 : Value) (x0 : Value) (x2 : Value) (x8 : Value) (x7 : Value) (h : H) (kr : Value → H → Option β) (kn : Value → Value → Value → Value → Value → Value → H → Option β) : Option β :=
  p4arrrrrlrborlbl C L x9 x1 x0 x2 x8 x7 h (fun x10 x9 x1 x0 x2 x8 x7 h => p4arrrrrlrborlbr C L x10 x9 x1 x0 x2 x8 x7 h kr kn)
theorem ep4arrrrrlrborlb (C : CF) (L : Nat) {β : Type} (x9 : Value) (x1 : Value) (x0 : Value) (x2 : Value) (x8 : Value) (x7 : Value) (h : H) (K : Ex → T Value → H → Option β) :
    execK Try.prog C L 0 267 [6] c4arrrrrlrborlb [9, 1, 0, 2, 8, 7] [(1, [9, 1, 0, 2, 8, 7]), (0, [8, 7])] (fs [(9, x9), (1, x1), (0, x0), (2, x2), (8, x8), (7, x7)]) h K =
      p4arrrrrlrborlb C L x9 x1 x0 x2 x8 x7 h (fun x6 h => K .ret (fs [(6, x6)]) h) (fun x9 x1 x0 x2 x8 x7 h => K .normal (fs [(9, x9), (1, x1), (0, x0), (2, x2), (8, x8), (7, x7)]) h) := by
  rw [execK_seq (a := c4arrrrrlrborlbl) (b := c4arrrrrlrborlbr) (by kernel_rfl) (show live [6] c4arrrrrlrborlbr [9, 1, 0, 2, 8, 7] [(1, [9, 1, 0, 2, 8, 7]), (0, [8, 7])] = [10, 9, 1, 0, 2, 8, 7] by kernel_rfl), ep4arrrrrlrborlbl]
  unfold p4arrrrrlrborlb
  exact (congrArg (p4arrrrrlrborlbl C L x9 x1 x0 x2 x8 x7 h) (funext fun x10 => funext fun x9 => funext fun x1 => funext fun x0 => funext fun x2 => funext fun x8 => funext fun x7 => funext fun h => (seqK_n _ _ _).trans (ep4arrrrrlrborlbr C L x10 x9 x1 x0 x2 x8 x7 h K)))
noncomputable def p4arrrrrlrborl (C : CF) (L : Nat) {β : Type} (x9 : Value) (x1 : Value) (x0 : Value) (x2 : Value) (x8 : Value) (x7 : Value) (h : H) (kr : Value → H → Option β) (kn : Value → Value → Value → Value → Value → Value → H → Option β) : Option β :=
  p4arrrrrlrborlb C L x9 x1 x0 x2 x8 x7 h kr kn
theorem ep4arrrrrlrborl (C : CF) (L : Nat) {β : Type} (x9 : Value) (x1 : Value) (x0 : Value) (x2 : Value) (x8 : Value) (x7 : Value) (h : H) (K : Ex → T Value → H → Option β) :
    execK Try.prog C L 0 267 [6] c4arrrrrlrborl [9, 1, 0, 2, 8, 7] [(0, [8, 7])] (fs [(9, x9), (1, x1), (0, x0), (2, x2), (8, x8), (7, x7)]) h K =
      p4arrrrrlrborl C L x9 x1 x0 x2 x8 x7 h (fun x6 h => K .ret (fs [(6, x6)]) h) (fun x9 x1 x0 x2 x8 x7 h => K .normal (fs [(9, x9), (1, x1), (0, x0), (2, x2), (8, x8), (7, x7)]) h) := by
  rw [execK_block (b := c4arrrrrlrborlb) (id := 1) (by kernel_rfl), ep4arrrrrlrborlb]
  unfold p4arrrrrlrborl
  rfl
noncomputable def c4arrrrrlrborr : Code := cR c4arrrrrlrbor
noncomputable def p4arrrrrlrborr (C : CF) (L : Nat) {β : Type} (x9 : Value) (x1 : Value) (x0 : Value) (x2 : Value) (x8 : Value) (x7 : Value) (h : H) (kn : Value → Value → Value → Value → Value → Value → H → Option β) : Option β :=
  bnd (A.bin Try.prog .add 3 x9 (.int .i64 1)) fun t50 =>
  kn t50 x1 x0 x2 x8 x7 h
theorem ep4arrrrrlrborr (C : CF) (L : Nat) {β : Type} (x9 : Value) (x1 : Value) (x0 : Value) (x2 : Value) (x8 : Value) (x7 : Value) (h : H) (K : Ex → T Value → H → Option β) :
    execK Try.prog C L 0 267 [6] c4arrrrrlrborr [9, 1, 0, 2, 8, 7] [(0, [8, 7])] (fs [(9, x9), (1, x1), (0, x0), (2, x2), (8, x8), (7, x7)]) h K =
      p4arrrrrlrborr C L x9 x1 x0 x2 x8 x7 h (fun x9 x1 x0 x2 x8 x7 h => K .normal (fs [(9, x9), (1, x1), (0, x0), (2, x2), (8, x8), (7, x7)]) h) := by
  kernel_rfl
noncomputable def p4arrrrrlrbor (C : CF) (L : Nat) {β : Type} (x9 : Value) (x1 : Value) (x0 : Value) (x2 : Value) (x8 : Value) (x7 : Value) (h : H) (kn : Value → Value → Value → Value → Value → Value → H → Option β) (kr : Value → H → Option β) : Option β :=
  p4arrrrrlrborl C L x9 x1 x0 x2 x8 x7 h kr (fun x9 x1 x0 x2 x8 x7 h => p4arrrrrlrborr C L x9 x1 x0 x2 x8 x7 h kn)
theorem ep4arrrrrlrbor (C : CF) (L : Nat) {β : Type} (x9 : Value) (x1 : Value) (x0 : Value) (x2 : Value) (x8 : Value) (x7 : Value) (h : H) (K : Ex → T Value → H → Option β) :
    execK Try.prog C L 0 267 [6] c4arrrrrlrbor [9, 1, 0, 2, 8, 7] [(0, [8, 7])] (fs [(9, x9), (1, x1), (0, x0), (2, x2), (8, x8), (7, x7)]) h K =
      p4arrrrrlrbor C L x9 x1 x0 x2 x8 x7 h (fun x9 x1 x0 x2 x8 x7 h => K .normal (fs [(9, x9), (1, x1), (0, x0), (2, x2), (8, x8), (7, x7)]) h) (fun x6 h => K .ret (fs [(6, x6)]) h) := by
  rw [execK_seq (a := c4arrrrrlrborl) (b := c4arrrrrlrborr) (by kernel_rfl) (show live [6] c4arrrrrlrborr [9, 1, 0, 2, 8, 7] [(0, [8, 7])] = [9, 1, 0, 2, 8, 7] by kernel_rfl), ep4arrrrrlrborl]
  unfold p4arrrrrlrbor
  exact (congr (congrArg (p4arrrrrlrborl C L x9 x1 x0 x2 x8 x7 h) (funext fun x6 => funext fun h => seqK_r _ _ _)) (funext fun x9 => funext fun x1 => funext fun x0 => funext fun x2 => funext fun x8 => funext fun x7 => funext fun h => (seqK_n _ _ _).trans (ep4arrrrrlrborr C L x9 x1 x0 x2 x8 x7 h K)))
noncomputable def p4arrrrrlrbo (C : CF) (L : Nat) {β : Type} (x9 : Value) (x1 : Value) (x0 : Value) (x2 : Value) (x8 : Value) (x7 : Value) (h : H) (kn : Value → Value → Value → Value → Value → Value → H → Option β) (kr : Value → H → Option β) (kx0 : Value → Value → H → Option β) : Option β :=
  p4arrrrrlrbol C L x9 x1 x0 x2 x8 x7 h (fun x9 x1 x0 x2 x8 x7 h => p4arrrrrlrbor C L x9 x1 x0 x2 x8 x7 h kn kr) kx0
theorem ep4arrrrrlrbo (C : CF) (L : Nat) {β : Type} (x9 : Value) (x1 : Value) (x0 : Value) (x2 : Value) (x8 : Value) (x7 : Value) (h : H) (K : Ex → T Value → H → Option β) :
    execK Try.prog C L 0 267 [6] c4arrrrrlrbo [9, 1, 0, 2, 8, 7] [(0, [8, 7])] (fs [(9, x9), (1, x1), (0, x0), (2, x2), (8, x8), (7, x7)]) h K =
      p4arrrrrlrbo C L x9 x1 x0 x2 x8 x7 h (fun x9 x1 x0 x2 x8 x7 h => K .normal (fs [(9, x9), (1, x1), (0, x0), (2, x2), (8, x8), (7, x7)]) h) (fun x6 h => K .ret (fs [(6, x6)]) h) (fun x8 x7 h => K (.exit 0) (fs [(8, x8), (7, x7)]) h) := by
  rw [execK_seq (a := c4arrrrrlrbol) (b := c4arrrrrlrbor) (by kernel_rfl) (show live [6] c4arrrrrlrbor [9, 1, 0, 2, 8, 7] [(0, [8, 7])] = [9, 1, 0, 2, 8, 7] by kernel_rfl), ep4arrrrrlrbol]
  unfold p4arrrrrlrbo
  exact (congr (congrArg (p4arrrrrlrbol C L x9 x1 x0 x2 x8 x7 h) (funext fun x9 => funext fun x1 => funext fun x0 => funext fun x2 => funext fun x8 => funext fun x7 => funext fun h => (seqK_n _ _ _).trans (ep4arrrrrlrbor C L x9 x1 x0 x2 x8 x7 h K))) (funext fun x8 => funext fun x7 => funext fun h => seqK_x _ _ _ _))
noncomputable def p4arrrrrlrbw (C : CF) (L : Nat) {β : Type} (kr : Value → H → Option β) (kx0 : Value → Value → H → Option β) : Nat → Value → Value → Value → Value → Value → Value → H → Option β
  | 0, _, _, _, _, _, _, _ => none
  | n + 1, x9, x1, x0, x2, x8, x7, h => p4arrrrrlrbo C L x9 x1 x0 x2 x8 x7 h (fun x9 x1 x0 x2 x8 x7 h => p4arrrrrlrbw C L kr kx0 n x9 x1 x0 x2 x8 x7 h) kr kx0
theorem ep4arrrrrlrbw (C : CF) (L : Nat) {β : Type} (K : Ex → T Value → H → Option β) : ∀ (n : Nat) (x9 : Value) (x1 : Value) (x0 : Value) (x2 : Value) (x8 : Value) (x7 : Value) (h : H),
    loopK (fun fr h K => execK Try.prog C L 0 267 [6] c4arrrrrlrbo [9, 1, 0, 2, 8, 7] [(0, [8, 7])] fr h K) n (fs [(9, x9), (1, x1), (0, x0), (2, x2), (8, x8), (7, x7)]) h K =
      p4arrrrrlrbw C L (fun x6 h => K .ret (fs [(6, x6)]) h) (fun x8 x7 h => K (.exit 0) (fs [(8, x8), (7, x7)]) h) n x9 x1 x0 x2 x8 x7 h := by
  intro n
  induction n with
  | zero => intros; rfl
  | succ n ih =>
    intros
    simp only [loopK]
    rw [ep4arrrrrlrbo]
    simp only [seqK_n, seqK_x, seqK_r, ih]
    rfl
noncomputable def p4arrrrrlrb (C : CF) (L : Nat) {β : Type} (x9 : Value) (x1 : Value) (x0 : Value) (x2 : Value) (x8 : Value) (x7 : Value) (h : H) (kr : Value → H → Option β) (kx0 : Value → Value → H → Option β) : Option β :=
  p4arrrrrlrbw C L kr kx0 L x9 x1 x0 x2 x8 x7 h
theorem ep4arrrrrlrb (C : CF) (L : Nat) {β : Type} (x9 : Value) (x1 : Value) (x0 : Value) (x2 : Value) (x8 : Value) (x7 : Value) (h : H) (K : Ex → T Value → H → Option β) :
    execK Try.prog C L 0 267 [6] c4arrrrrlrb [8, 7] [(0, [8, 7])] (fs [(9, x9), (1, x1), (0, x0), (2, x2), (8, x8), (7, x7)]) h K =
      p4arrrrrlrb C L x9 x1 x0 x2 x8 x7 h (fun x6 h => K .ret (fs [(6, x6)]) h) (fun x8 x7 h => K (.exit 0) (fs [(8, x8), (7, x7)]) h) := by
  rw [execK_loop (b := c4arrrrrlrbo) (fr1 := (fs [(9, x9), (1, x1), (0, x0), (2, x2), (8, x8), (7, x7)])) (by kernel_rfl) (show live [6] c4arrrrrlrbo [] [(0, [8, 7])] = [9, 1, 0, 2, 8, 7] by kernel_rfl) (by kernel_rfl), ep4arrrrrlrbw]
  unfold p4arrrrrlrb
  rfl
noncomputable def p4arrrrrlr (C : CF) (L : Nat) {β : Type} (x9 : Value) (x1 : Value) (x0 : Value) (x2 : Value) (x8 : Value) (x7 : Value) (h : H) (kr : Value → H → Option β) (kn : Value → Value → H → Option β) : Option β :=
  p4arrrrrlrb C L x9 x1 x0 x2 x8 x7 h kr kn
theorem ep4arrrrrlr (C : CF) (L : Nat) {β : Type} (x9 : Value) (x1 : Value) (x0 : Value) (x2 : Value) (x8 : Value) (x7 : Value) (h : H) (K : Ex → T Value → H → Option β) :
    execK Try.prog C L 0 267 [6] c4arrrrrlr [8, 7] [] (fs [(9, x9), (1, x1), (0, x0), (2, x2), (8, x8), (7, x7)]) h K =
      p4arrrrrlr C L x9 x1 x0 x2 x8 x7 h (fun x6 h => K .ret (fs [(6, x6)]) h) (fun x8 x7 h => K .normal (fs [(8, x8), (7, x7)]) h) := by
  rw [execK_block (b := c4arrrrrlrb) (id := 0) (by kernel_rfl), ep4arrrrrlrb]
  unfold p4arrrrrlr
  rfl
noncomputable def p4arrrrrl (C : CF) (L : Nat) {β : Type} (x1 : Value) (x0 : Value) (x2 : Value) (x8 : Value) (x7 : Value) (h : H) (kr : Value → H → Option β) (kn : Value → Value → H → Option β) : Option β :=
  p4arrrrrll C L x1 x0 x2 x8 x7 h (fun x9 x1 x0 x2 x8 x7 h => p4arrrrrlr C L x9 x1 x0 x2 x8 x7 h kr kn)
theorem ep4arrrrrl (C : CF) (L : Nat) {β : Type} (x1 : Value) (x0 : Value) (x2 : Value) (x8 : Value) (x7 : Value) (h : H) (K : Ex → T Value → H → Option β) :
    execK Try.prog C L 0 267 [6] c4arrrrrl [8, 7] [] (fs [(1, x1), (0, x0), (2, x2), (8, x8), (7, x7)]) h K =
      p4arrrrrl C L x1 x0 x2 x8 x7 h (fun x6 h => K .ret (fs [(6, x6)]) h) (fun x8 x7 h => K .normal (fs [(8, x8), (7, x7)]) h) := by
  rw [execK_seq (a := c4arrrrrll) (b := c4arrrrrlr) (by kernel_rfl) (show live [6] c4arrrrrlr [8, 7] [] = [9, 1, 0, 2, 8, 7] by kernel_rfl), ep4arrrrrll]
  unfold p4arrrrrl
  exact (congrArg (p4arrrrrll C L x1 x0 x2 x8 x7 h) (funext fun x9 => funext fun x1 => funext fun x0 => funext fun x2 => funext fun x8 => funext fun x7 => funext fun h => (seqK_n _ _ _).trans (ep4arrrrrlr C L x9 x1 x0 x2 x8 x7 h K)))
noncomputable def c4arrrrrr : Code := cR c4arrrrr
noncomputable def c4arrrrrrl : Code := cL c4arrrrrr
noncomputable def p4arrrrrrl (C : CF) (L : Nat) {β : Type} (x8 : Value) (x7 : Value) (h : H) (kn : Value → Value → Value → H → Option β) : Option β :=
  kn x8 x7 (.int .i64 0) h
theorem ep4arrrrrrl (C : CF) (L : Nat) {β : Type} (x8 : Value) (x7 : Value) (h : H) (K : Ex → T Value → H → Option β) :
    execK Try.prog C L 0 267 [6] c4arrrrrrl [8, 7, 18] [] (fs [(8, x8), (7, x7)]) h K =
      p4arrrrrrl C L x8 x7 h (fun x8 x7 x18 h => K .normal (fs [(8, x8), (7, x7), (18, x18)]) h) := by
  kernel_rfl
noncomputable def c4arrrrrrr : Code := cR c4arrrrrr
noncomputable def c4arrrrrrrl : Code := cL c4arrrrrrr
noncomputable def c4arrrrrrrll : Code := cL c4arrrrrrrl
noncomputable def p4arrrrrrrll (C : CF) (L : Nat) {β : Type} (x8 : Value) (x7 : Value) (x18 : Value) (h : H) (kn : Value → Value → Value → Value → H → Option β) : Option β :=
  kn (.int .i64 0) x8 x7 x18 h
theorem ep4arrrrrrrll (C : CF) (L : Nat) {β : Type} (x8 : Value) (x7 : Value) (x18 : Value) (h : H) (K : Ex → T Value → H → Option β) :
    execK Try.prog C L 0 267 [6] c4arrrrrrrll [19, 8, 7, 18] [] (fs [(8, x8), (7, x7), (18, x18)]) h K =
      p4arrrrrrrll C L x8 x7 x18 h (fun x19 x8 x7 x18 h => K .normal (fs [(19, x19), (8, x8), (7, x7), (18, x18)]) h) := by
  kernel_rfl
noncomputable def c4arrrrrrrlr : Code := cR c4arrrrrrrl
noncomputable def c4arrrrrrrlrb : Code := cL c4arrrrrrrlr
noncomputable def c4arrrrrrrlrbo : Code := cL c4arrrrrrrlrb
noncomputable def p4arrrrrrrlrbo (C : CF) (L : Nat) {β : Type} (x19 : Value) (x8 : Value) (x7 : Value) (x18 : Value) (h : H) (kn : Value → Value → Value → Value → H → Option β) (kx4 : Value → Value → H → Option β) : Option β :=
  bnd (A.lenS x8) fun t241 =>
  bnd (A.bin Try.prog .lss 3 x19 t241) fun t242 =>
  toBK t242 fun b =>
  (bif b then
  bnd (A.idxS 5 x8 x19) fun t247 =>
  bnd (A.fieldAddr 0 t247) fun t248 =>
  bnd (A.load false 1 t248 h) fun t249 =>
  bnd (A.bin Try.prog .eql 5 t249 (.int .u8 0)) fun t250 =>
  toBK t250 fun bq1 =>
  (bif bq1 then
  bnd (A.bin Try.prog .add 3 x18 (.int .i64 1)) fun t252 =>
  bnd (A.bin Try.prog .add 3 x19 (.int .i64 1)) fun t244 =>
  kn t244 x8 x7 t252 h
  else
  bnd (A.bin Try.prog .add 3 x19 (.int .i64 1)) fun t244q1 =>
  kn t244q1 x8 x7 x18 h)
  else
  kx4 x7 x18 h)
theorem ep4arrrrrrrlrbo (C : CF) (L : Nat) {β : Type} (x19 : Value) (x8 : Value) (x7 : Value) (x18 : Value) (h : H) (K : Ex → T Value → H → Option β) :
    execK Try.prog C L 0 267 [6] c4arrrrrrrlrbo [19, 8, 7, 18] [(4, [7, 18])] (fs [(19, x19), (8, x8), (7, x7), (18, x18)]) h K =
      p4arrrrrrrlrbo C L x19 x8 x7 x18 h (fun x19 x8 x7 x18 h => K .normal (fs [(19, x19), (8, x8), (7, x7), (18, x18)]) h) (fun x7 x18 h => K (.exit 4) (fs [(7, x7), (18, x18)]) h) := by
  kernel_rfl
noncomputable def p4arrrrrrrlrbw (C : CF) (L : Nat) {β : Type} (kx4 : Value → Value → H → Option β) : Nat → Value → Value → Value → Value → H → Option β
  | 0, _, _, _, _, _ => none
  | n + 1, x19, x8, x7, x18, h => p4arrrrrrrlrbo C L x19 x8 x7 x18 h (fun x19 x8 x7 x18 h => p4arrrrrrrlrbw C L kx4 n x19 x8 x7 x18 h) kx4
theorem ep4arrrrrrrlrbw (C : CF) (L : Nat) {β : Type} (K : Ex → T Value → H → Option β) : ∀ (n : Nat) (x19 : Value) (x8 : Value) (x7 : Value) (x18 : Value) (h : H),
    loopK (fun fr h K => execK Try.prog C L 0 267 [6] c4arrrrrrrlrbo [19, 8, 7, 18] [(4, [7, 18])] fr h K) n (fs [(19, x19), (8, x8), (7, x7), (18, x18)]) h K =
      p4arrrrrrrlrbw C L (fun x7 x18 h => K (.exit 4) (fs [(7, x7), (18, x18)]) h) n x19 x8 x7 x18 h := by
  intro n
  induction n with
  | zero => intros; rfl
  | succ n ih =>
    intros
    simp only [loopK]
    rw [ep4arrrrrrrlrbo]
    simp only [seqK_n, seqK_x, seqK_r, ih]
    rfl
noncomputable def p4arrrrrrrlrb (C : CF) (L : Nat) {β : Type} (x19 : Value) (x8 : Value) (x7 : Value) (x18 : Value) (h : H) (kx4 : Value → Value → H → Option β) : Option β :=
  p4arrrrrrrlrbw C L kx4 L x19 x8 x7 x18 h
theorem ep4arrrrrrrlrb (C : CF) (L : Nat) {β : Type} (x19 : Value) (x8 : Value) (x7 : Value) (x18 : Value) (h : H) (K : Ex → T Value → H → Option β) :
    execK Try.prog C L 0 267 [6] c4arrrrrrrlrb [7, 18] [(4, [7, 18])] (fs [(19, x19), (8, x8), (7, x7), (18, x18)]) h K =
      p4arrrrrrrlrb C L x19 x8 x7 x18 h (fun x7 x18 h => K (.exit 4) (fs [(7, x7), (18, x18)]) h) := by
  rw [execK_loop (b := c4arrrrrrrlrbo) (fr1 := (fs [(19, x19), (8, x8), (7, x7), (18, x18)])) (by kernel_rfl) (show live [6] c4arrrrrrrlrbo [] [(4, [7, 18])] = [19, 8, 7, 18] by kernel_rfl) (by kernel_rfl), ep4arrrrrrrlrbw]
  unfold p4arrrrrrrlrb
  rfl
noncomputable def p4arrrrrrrlr (C : CF) (L : Nat) {β : Type} (x19 : Value) (x8 : Value) (x7 : Value) (x18 : Value) (h : H) (kn : Value → Value → H → Option β) : Option β :=
  p4arrrrrrrlrb C L x19 x8 x7 x18 h kn
theorem ep4arrrrrrrlr (C : CF) (L : Nat) {β : Type} (x19 : Value) (x8 : Value) (x7 : Value) (x18 : Value) (h : H) (K : Ex → T Value → H → Option β) :
    execK Try.prog C L 0 267 [6] c4arrrrrrrlr [7, 18] [] (fs [(19, x19), (8, x8), (7, x7), (18, x18)]) h K =
      p4arrrrrrrlr C L x19 x8 x7 x18 h (fun x7 x18 h => K .normal (fs [(7, x7), (18, x18)]) h) := by
  rw [execK_block (b := c4arrrrrrrlrb) (id := 4) (by kernel_rfl), ep4arrrrrrrlrb]
  unfold p4arrrrrrrlr
  rfl
noncomputable def p4arrrrrrrl (C : CF) (L : Nat) {β : Type} (x8 : Value) (x7 : Value) (x18 : Value) (h : H) (kn : Value → Value → H → Option β) : Option β :=
  p4arrrrrrrll C L x8 x7 x18 h (fun x19 x8 x7 x18 h => p4arrrrrrrlr C L x19 x8 x7 x18 h kn)
theorem ep4arrrrrrrl (C : CF) (L : Nat) {β : Type} (x8 : Value) (x7 : Value) (x18 : Value) (h : H) (K : Ex → T Value → H → Option β) :
    execK Try.prog C L 0 267 [6] c4arrrrrrrl [7, 18] [] (fs [(8, x8), (7, x7), (18, x18)]) h K =
      p4arrrrrrrl C L x8 x7 x18 h (fun x7 x18 h => K .normal (fs [(7, x7), (18, x18)]) h) := by
  rw [execK_seq (a := c4arrrrrrrll) (b := c4arrrrrrrlr) (by kernel_rfl) (show live [6] c4arrrrrrrlr [7, 18] [] = [19, 8, 7, 18] by kernel_rfl), ep4arrrrrrrll]
  unfold p4arrrrrrrl
  exact (congrArg (p4arrrrrrrll C L x8 x7 x18 h) (funext fun x19 => funext fun x8 => funext fun x7 => funext fun x18 => funext fun h => (seqK_n _ _ _).trans (ep4arrrrrrrlr C L x19 x8 x7 x18 h K)))
noncomputable def c4arrrrrrrr : Code := cR c4arrrrrrr
noncomputable def p4arrrrrrrr (C : CF) (L : Nat) {β : Type} (x7 : Value) (x18 : Value) (h : H) (kr : Value → H → Option β) : Option β :=
  bnd2 (C 25 [x7] h) fun t254 hq1 =>
  bnd (A.bin Try.prog .eql 3 t254 x18) fun t256 =>
  toBK t256 fun b =>
  (bif b then
  bnd2 (C 27 [x7] hq1) fun t259 hq2 =>
  toBK t259 fun bq1 =>
  bnd (A.bin Try.prog .eql 3 x18 (.int .i64 0)) fun t261 =>
  toBK t261 fun bq2 =>
  bnd (A.bin Try.prog .eql 4 (.bool bq1) (.bool bq2)) fun t262 =>
  toBK t262 fun bq3 =>
  (bif bq3 then
  bnd2 (C 9 [] hq2) fun t265 hq3 =>
  toBK t265 fun bq4 =>
  kr (.bool bq4) hq3
  else
  kr (.bool false) hq2)
  else
  kr (.bool false) hq1)
theorem ep4arrrrrrrr (C : CF) (L : Nat) {β : Type} (x7 : Value) (x18 : Value) (h : H) (K : Ex → T Value → H → Option β) :
    execK Try.prog C L 0 267 [6] c4arrrrrrrr [6] [] (fs [(7, x7), (18, x18)]) h K =
      p4arrrrrrrr C L x7 x18 h (fun x6 h => K .ret (fs [(6, x6)]) h) := by
  kernel_rfl
noncomputable def p4arrrrrrr (C : CF) (L : Nat) {β : Type} (x8 : Value) (x7 : Value) (x18 : Value) (h : H) (kr : Value → H → Option β) : Option β :=
  p4arrrrrrrl C L x8 x7 x18 h (fun x7 x18 h => p4arrrrrrrr C L x7 x18 h kr)
theorem ep4arrrrrrr (C : CF) (L : Nat) {β : Type} (x8 : Value) (x7 : Value) (x18 : Value) (h : H) (K : Ex → T Value → H → Option β) :
    execK Try.prog C L 0 267 [6] c4arrrrrrr [6] [] (fs [(8, x8), (7, x7), (18, x18)]) h K =
      p4arrrrrrr C L x8 x7 x18 h (fun x6 h => K .ret (fs [(6, x6)]) h) := by
  rw [execK_seq (a := c4arrrrrrrl) (b := c4arrrrrrrr) (by kernel_rfl) (show live [6] c4arrrrrrrr [6] [] = [7, 18] by kernel_rfl), ep4arrrrrrrl]
  unfold p4arrrrrrr
  exact (congrArg (p4arrrrrrrl C L x8 x7 x18 h) (funext fun x7 => funext fun x18 => funext fun h => (seqK_n _ _ _).trans (ep4arrrrrrrr C L x7 x18 h K)))
noncomputable def p4arrrrrr (C : CF) (L : Nat) {β : Type} (x8 : Value) (x7 : Value) (h : H) (kr : Value → H → Option β) : Option β :=
  p4arrrrrrl C L x8 x7 h (fun x8 x7 x18 h => p4arrrrrrr C L x8 x7 x18 h kr)
theorem ep4arrrrrr (C : CF) (L : Nat) {β : Type} (x8 : Value) (x7 : Value) (h : H) (K : Ex → T Value → H → Option β) :
    execK Try.prog C L 0 267 [6] c4arrrrrr [6] [] (fs [(8, x8), (7, x7)]) h K =
      p4arrrrrr C L x8 x7 h (fun x6 h => K .ret (fs [(6, x6)]) h) := by
  rw [execK_seq (a := c4arrrrrrl) (b := c4arrrrrrr) (by kernel_rfl) (show live [6] c4arrrrrrr [6] [] = [8, 7, 18] by kernel_rfl), ep4arrrrrrl]
  unfold p4arrrrrr
  exact (congrArg (p4arrrrrrl C L x8 x7 h) (funext fun x8 => funext fun x7 => funext fun x18 => funext fun h => (seqK_n _ _ _).trans (ep4arrrrrrr C L x8 x7 x18 h K)))
noncomputable def p4arrrrr (C : CF) (L : Nat) {β : Type} (x1 : Value) (x0 : Value) (x2 : Value) (x8 : Value) (x7 : Value) (h : H) (kr : Value → H → Option β) : Option β :=
  p4arrrrrl C L x1 x0 x2 x8 x7 h kr (fun x8 x7 h => p4arrrrrr C L x8 x7 h kr)
theorem ep4arrrrr (C : CF) (L : Nat) {β : Type} (x1 : Value) (x0 : Value) (x2 : Value) (x8 : Value) (x7 : Value) (h : H) (K : Ex → T Value → H → Option β) :
    execK Try.prog C L 0 267 [6] c4arrrrr [6] [] (fs [(1, x1), (0, x0), (2, x2), (8, x8), (7, x7)]) h K =
      p4arrrrr C L x1 x0 x2 x8 x7 h (fun x6 h => K .ret (fs [(6, x6)]) h) := by
  rw [execK_seq (a := c4arrrrrl) (b := c4arrrrrr) (by kernel_rfl) (show live [6] c4arrrrrr [6] [] = [8, 7] by kernel_rfl), ep4arrrrrl]
  unfold p4arrrrr
  exact (congr (congrArg (p4arrrrrl C L x1 x0 x2 x8 x7 h) (funext fun x6 => funext fun h => seqK_r _ _ _)) (funext fun x8 => funext fun x7 => funext fun h => (seqK_n _ _ _).trans (ep4arrrrrr C L x8 x7 h K)))
noncomputable def p4arrrr (C : CF) (L : Nat) {β : Type} (x1 : Value) (x0 : Value) (x2 : Value) (x7 : Value) (h : H) (kr : Value → H → Option β) : Option β :=
  p4arrrrl C L x1 x0 x2 x7 h (fun x1 x0 x2 x8 x7 h => p4arrrrr C L x1 x0 x2 x8 x7 h kr)
theorem ep4arrrr (C : CF) (L : Nat) {β : Type} (x1 : Value) (x0 : Value) (x2 : Value) (x7 : Value) (h : H) (K : Ex → T Value → H → Option β) :
    execK Try.prog C L 0 267 [6] c4arrrr [6] [] (fs [(1, x1), (0, x0), (2, x2), (7, x7)]) h K =
      p4arrrr C L x1 x0 x2 x7 h (fun x6 h => K .ret (fs [(6, x6)]) h) := by
  rw [execK_seq (a := c4arrrrl) (b := c4arrrrr) (by kernel_rfl) (show live [6] c4arrrrr [6] [] = [1, 0, 2, 8, 7] by kernel_rfl), ep4arrrrl]
  unfold p4arrrr
  exact (congrArg (p4arrrrl C L x1 x0 x2 x7 h) (funext fun x1 => funext fun x0 => funext fun x2 => funext fun x8 => funext fun x7 => funext fun h => (seqK_n _ _ _).trans (ep4arrrrr C L x1 x0 x2 x8 x7 h K)))
noncomputable def p4arrr (C : CF) (L : Nat) {β : Type} (x1 : Value) (x0 : Value) (x2 : Value) (x7 : Value) (h : H) (kr : Value → H → Option β) : Option β :=
  p4arrrl C L x1 x0 x2 x7 h kr (fun x1 x0 x2 x7 h => p4arrrr C L x1 x0 x2 x7 h kr)
theorem ep4arrr (C : CF) (L : Nat) {β : Type} (x1 : Value) (x0 : Value) (x2 : Value) (x7 : Value) (h : H) (K : Ex → T Value → H → Option β) :
    execK Try.prog C L 0 267 [6] c4arrr [6] [] (fs [(1, x1), (0, x0), (2, x2), (7, x7)]) h K =
      p4arrr C L x1 x0 x2 x7 h (fun x6 h => K .ret (fs [(6, x6)]) h) := by
  rw [execK_seq (a := c4arrrl) (b := c4arrrr) (by kernel_rfl) (show live [6] c4arrrr [6] [] = [1, 0, 2, 7] by kernel_rfl), ep4arrrl]
  unfold p4arrr
  exact (congr (congrArg (p4arrrl C L x1 x0 x2 x7 h) (funext fun x6 => funext fun h => seqK_r _ _ _)) (funext fun x1 => funext fun x0 => funext fun x2 => funext fun x7 => funext fun h => (seqK_n _ _ _).trans (ep4arrrr C L x1 x0 x2 x7 h K)))
noncomputable def p4arr (C : CF) (L : Nat) {β : Type} (x1 : Value) (x0 : Value) (x2 : Value) (h : H) (kr : Value → H → Option β) : Option β :=
  p4arrl C L x1 x0 x2 h (fun x1 x0 x2 x7 h => p4arrr C L x1 x0 x2 x7 h kr)
theorem ep4arr (C : CF) (L : Nat) {β : Type} (x1 : Value) (x0 : Value) (x2 : Value) (h : H) (K : Ex → T Value → H → Option β) :
    execK Try.prog C L 0 267 [6] c4arr [6] [] (fs [(1, x1), (0, x0), (2, x2)]) h K =
      p4arr C L x1 x0 x2 h (fun x6 h => K .ret (fs [(6, x6)]) h) := by
  rw [execK_seq (a := c4arrl) (b := c4arrr) (by kernel_rfl) (show live [6] c4arrr [6] [] = [1, 0, 2, 7] by kernel_rfl), ep4arrl]
  unfold p4arr
  exact (congrArg (p4arrl C L x1 x0 x2 h) (funext fun x1 => funext fun x0 => funext fun x2 => funext fun x7 => funext fun h => (seqK_n _ _ _).trans (ep4arrr C L x1 x0 x2 x7 h K)))
noncomputable def p4ar (C : CF) (L : Nat) {β : Type} (x1 : Value) (x0 : Value) (x2 : Value) (h : H) (kr : Value → H → Option β) : Option β :=
  p4arl C L x1 x0 x2 h kr (fun x1 x0 x2 h => p4arr C L x1 x0 x2 h kr)
theorem ep4ar (C : CF) (L : Nat) {β : Type} (x1 : Value) (x0 : Value) (x2 : Value) (h : H) (K : Ex → T Value → H → Option β) :
    execK Try.prog C L 0 267 [6] c4ar [6] [] (fs [(1, x1), (0, x0), (2, x2)]) h K =
      p4ar C L x1 x0 x2 h (fun x6 h => K .ret (fs [(6, x6)]) h) := by
  rw [execK_seq (a := c4arl) (b := c4arr) (by kernel_rfl) (show live [6] c4arr [6] [] = [1, 0, 2] by kernel_rfl), ep4arl]
  unfold p4ar
  exact (congr (congrArg (p4arl C L x1 x0 x2 h) (funext fun x6 => funext fun h => seqK_r _ _ _)) (funext fun x1 => funext fun x0 => funext fun x2 => funext fun h => (seqK_n _ _ _).trans (ep4arr C L x1 x0 x2 h K)))
noncomputable def p4a (C : CF) (L : Nat) {β : Type} (x0 : Value) (x1 : Value) (x2 : Value) (h : H) (kr : Value → H → Option β) : Option β :=
  p4al C L x0 x1 x2 h (fun x1 x0 x2 h => p4ar C L x1 x0 x2 h kr)
theorem ep4a (C : CF) (L : Nat) {β : Type} (x0 : Value) (x1 : Value) (x2 : Value) (h : H) (K : Ex → T Value → H → Option β) :
    execK Try.prog C L 0 267 [6] c4a [6] [] (fs [(0, x0), (1, x1), (2, x2)]) h K =
      p4a C L x0 x1 x2 h (fun x6 h => K .ret (fs [(6, x6)]) h) := by
  rw [execK_seq (a := c4al) (b := c4ar) (by kernel_rfl) (show live [6] c4ar [6] [] = [1, 0, 2] by kernel_rfl), ep4al]
  unfold p4a
  exact (congrArg (p4al C L x0 x1 x2 h) (funext fun x1 => funext fun x0 => funext fun x2 => funext fun h => (seqK_n _ _ _).trans (ep4ar C L x1 x0 x2 h K)))
noncomputable def F4 (C : CF) (L : Nat) (x0 : Value) (x1 : Value) (x2 : Value) (h : H) : Option (Value × H) :=
  p4a C L x0 x1 x2 h
    (fun x6 h => some (x6, h))
theorem F4eq (O : List FuncId) (hO : O.any (Nat.beq 4) = false) (n : Nat) (x0 : Value) (x1 : Value) (x2 : Value) (h : H) : callB Try.prog 0 O (n + 1) 4 [x0, x1, x2] h = F4 (callB Try.prog 0 O n) n x0 x1 x2 h := by
  rw [callB_eq hO (c := c4a) (nt := 267) (RR := [6]) (fr := (fs [(0, x0), (1, x1), (2, x2)])) Try.func4 (by kernel_rfl) (by kernel_rfl) (by kernel_rfl) (by kernel_rfl) (by kernel_rfl), ep4a]
  kernel_rfl

end Go.Proofs.Ytdjhkdogpbiglaa.MailF4
