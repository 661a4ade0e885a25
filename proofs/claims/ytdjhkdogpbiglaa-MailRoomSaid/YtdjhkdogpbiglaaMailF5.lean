/-
  Functions of the program over the abstract machine: printed by a program of mine (wip/tools/Dec.lean), each with its equation to the machine's call.
-/
import Derived.Test.YtdjhkdogpbiglaaProg
import Derived.Test.YtdjhkdogpbiglaaAmDec
set_option linter.unusedVariables false
set_option maxRecDepth 100000
namespace Go.Proofs.Ytdjhkdogpbiglaa.MailF5
open Go Go.AM


/-! F5: relayhouse/relayhouselaw16.MailRoom -/
noncomputable def c5a : Code := (Try.f5.body).getD .skip
noncomputable def c5al : Code := cL c5a
noncomputable def p5al (C : CF) (L : Nat) {β : Type} (x0 : Value) (x1 : Value) (x2 : Value) (x3 : Value) (x4 : Value) (h : H) (kn : Value → Value → Value → Value → Value → H → Option β) : Option β :=
  kn x2 x4 x3 x1 x0 h
theorem ep5al (C : CF) (L : Nat) {β : Type} (x0 : Value) (x1 : Value) (x2 : Value) (x3 : Value) (x4 : Value) (h : H) (K : Ex → T Value → H → Option β) :
    execK Try.prog C L 0 157 [10] c5al [2, 4, 3, 1, 0] [] (fs [(0, x0), (1, x1), (2, x2), (3, x3), (4, x4)]) h K =
      p5al C L x0 x1 x2 x3 x4 h (fun x2 x4 x3 x1 x0 h => K .normal (fs [(2, x2), (4, x4), (3, x3), (1, x1), (0, x0)]) h) := by
  kernel_rfl
noncomputable def c5ar : Code := cR c5a
noncomputable def c5arl : Code := cL c5ar
noncomputable def p5arl (C : CF) (L : Nat) {β : Type} (x2 : Value) (x4 : Value) (x3 : Value) (x1 : Value) (x0 : Value) (h : H) (kr : Value → H → Option β) (kn : Value → Value → Value → Value → Value → H → Option β) : Option β :=
  bnd2 (C 8 [x2] h) fun t21 hq1 =>
  toBK t21 fun b =>
  (bif b then
  bnd2 (C 9 [] hq1) fun t22 hq2 =>
  toBK t22 fun bq1 =>
  kr (.bool bq1) hq2
  else
  kn x2 x4 x3 x1 x0 hq1)
theorem ep5arl (C : CF) (L : Nat) {β : Type} (x2 : Value) (x4 : Value) (x3 : Value) (x1 : Value) (x0 : Value) (h : H) (K : Ex → T Value → H → Option β) :
    execK Try.prog C L 0 157 [10] c5arl [2, 4, 3, 1, 0] [] (fs [(2, x2), (4, x4), (3, x3), (1, x1), (0, x0)]) h K =
      p5arl C L x2 x4 x3 x1 x0 h (fun x10 h => K .ret (fs [(10, x10)]) h) (fun x2 x4 x3 x1 x0 h => K .normal (fs [(2, x2), (4, x4), (3, x3), (1, x1), (0, x0)]) h) := by
  kernel_rfl
noncomputable def c5arr : Code := cR c5ar
noncomputable def c5arrl : Code := cL c5arr
noncomputable def p5arrl (C : CF) (L : Nat) {β : Type} (x2 : Value) (x4 : Value) (x3 : Value) (x1 : Value) (x0 : Value) (h : H) (kn : Value → Value → Value → Value → Value → Value → H → Option β) : Option β :=
  bnd2 (C 10 [x0, x1] h) fun t25 hq1 =>
  kn x2 x4 t25 x3 x1 x0 hq1
theorem ep5arrl (C : CF) (L : Nat) {β : Type} (x2 : Value) (x4 : Value) (x3 : Value) (x1 : Value) (x0 : Value) (h : H) (K : Ex → T Value → H → Option β) :
    execK Try.prog C L 0 157 [10] c5arrl [2, 4, 11, 3, 1, 0] [] (fs [(2, x2), (4, x4), (3, x3), (1, x1), (0, x0)]) h K =
      p5arrl C L x2 x4 x3 x1 x0 h (fun x2 x4 x11 x3 x1 x0 h => K .normal (fs [(2, x2), (4, x4), (11, x11), (3, x3), (1, x1), (0, x0)]) h) := by
  kernel_rfl
noncomputable def c5arrr : Code := cR c5arr
noncomputable def c5arrrl : Code := cL c5arrr
noncomputable def p5arrrl (C : CF) (L : Nat) {β : Type} (x2 : Value) (x4 : Value) (x11 : Value) (x3 : Value) (x1 : Value) (x0 : Value) (h : H) (kr : Value → H → Option β) (kn : Value → Value → Value → Value → Value → Value → H → Option β) : Option β :=
  bnd (A.bin Try.prog .eql 25 x11 (.pointer none)) fun t27 =>
  toBK t27 fun b =>
  (bif b then
  bnd2 (C 9 [] h) fun t28 hq1 =>
  toBK t28 fun bq1 =>
  kr (.bool bq1) hq1
  else
  kn x2 x4 x11 x3 x1 x0 h)
theorem ep5arrrl (C : CF) (L : Nat) {β : Type} (x2 : Value) (x4 : Value) (x11 : Value) (x3 : Value) (x1 : Value) (x0 : Value) (h : H) (K : Ex → T Value → H → Option β) :
    execK Try.prog C L 0 157 [10] c5arrrl [2, 4, 11, 3, 1, 0] [] (fs [(2, x2), (4, x4), (11, x11), (3, x3), (1, x1), (0, x0)]) h K =
      p5arrrl C L x2 x4 x11 x3 x1 x0 h (fun x10 h => K .ret (fs [(10, x10)]) h) (fun x2 x4 x11 x3 x1 x0 h => K .normal (fs [(2, x2), (4, x4), (11, x11), (3, x3), (1, x1), (0, x0)]) h) := by
  kernel_rfl
noncomputable def c5arrrr : Code := cR c5arrr
noncomputable def c5arrrrl : Code := cL c5arrrr
noncomputable def c5arrrrll : Code := cL c5arrrrl
noncomputable def p5arrrrll (C : CF) (L : Nat) {β : Type} (x2 : Value) (x4 : Value) (x11 : Value) (x3 : Value) (x1 : Value) (x0 : Value) (h : H) (kn : Value → Value → Value → Value → Value → Value → Value → H → Option β) : Option β :=
  kn (.int .i64 0) x2 x4 x11 x3 x1 x0 h
theorem ep5arrrrll (C : CF) (L : Nat) {β : Type} (x2 : Value) (x4 : Value) (x11 : Value) (x3 : Value) (x1 : Value) (x0 : Value) (h : H) (K : Ex → T Value → H → Option β) :
    execK Try.prog C L 0 157 [10] c5arrrrll [12, 2, 4, 11, 3, 1, 0] [] (fs [(2, x2), (4, x4), (11, x11), (3, x3), (1, x1), (0, x0)]) h K =
      p5arrrrll C L x2 x4 x11 x3 x1 x0 h (fun x12 x2 x4 x11 x3 x1 x0 h => K .normal (fs [(12, x12), (2, x2), (4, x4), (11, x11), (3, x3), (1, x1), (0, x0)]) h) := by
  kernel_rfl
noncomputable def c5arrrrlr : Code := cR c5arrrrl
noncomputable def c5arrrrlrb : Code := cL c5arrrrlr
noncomputable def c5arrrrlrbo : Code := cL c5arrrrlrb
noncomputable def c5arrrrlrbol : Code := cL c5arrrrlrbo
noncomputable def p5arrrrlrbol (C : CF) (L : Nat) {β : Type} (x12 : Value) (x2 : Value) (x4 : Value) (x11 : Value) (x3 : Value) (x1 : Value) (x0 : Value) (h : H) (kn : Value → Value → Value → Value → Value → Value → Value → H → Option β) (kx0 : Value → Value → Value → Value → Value → H → Option β) : Option β :=
  bnd (A.lenS x2) fun t31 =>
  bnd (A.bin Try.prog .lss 3 x12 t31) fun t32 =>
  toBK t32 fun b =>
  (bif b then
  kn x12 x2 x4 x11 x3 x1 x0 h
  else
  kx0 x4 x11 x3 x1 x0 h)
theorem ep5arrrrlrbol (C : CF) (L : Nat) {β : Type} (x12 : Value) (x2 : Value) (x4 : Value) (x11 : Value) (x3 : Value) (x1 : Value) (x0 : Value) (h : H) (K : Ex → T Value → H → Option β) :
    execK Try.prog C L 0 157 [10] c5arrrrlrbol [12, 2, 4, 11, 3, 1, 0] [(0, [4, 11, 3, 1, 0])] (fs [(12, x12), (2, x2), (4, x4), (11, x11), (3, x3), (1, x1), (0, x0)]) h K =
      p5arrrrlrbol C L x12 x2 x4 x11 x3 x1 x0 h (fun x12 x2 x4 x11 x3 x1 x0 h => K .normal (fs [(12, x12), (2, x2), (4, x4), (11, x11), (3, x3), (1, x1), (0, x0)]) h) (fun x4 x11 x3 x1 x0 h => K (.exit 0) (fs [(4, x4), (11, x11), (3, x3), (1, x1), (0, x0)]) h) := by
  kernel_rfl
noncomputable def c5arrrrlrbor : Code := cR c5arrrrlrbo
noncomputable def c5arrrrlrborl : Code := cL c5arrrrlrbor
noncomputable def c5arrrrlrborlb : Code := cL c5arrrrlrborl
noncomputable def c5arrrrlrborlbl : Code := cL c5arrrrlrborlb
noncomputable def p5arrrrlrborlbl (C : CF) (L : Nat) {β : Type} (x12 : Value) (x2 : Value) (x4 : Value) (x11 : Value) (x3 : Value) (x1 : Value) (x0 : Value) (h : H) (kn : Value → Value → Value → Value → Value → Value → Value → Value → H → Option β) : Option β :=
  bnd (A.idxS 5 x2 x12) fun t37 =>
  bnd (A.fieldAddr 0 t37) fun t38 =>
  bnd (A.load false 1 t38 h) fun t39 =>
  bnd (A.bin Try.prog .rem 5 t39 (.int .u8 8)) fun t40 =>
  bnd (A.bin Try.prog .lss 5 t40 (.int .u8 5)) fun t41 =>
  toBK t41 fun b =>
  kn (.bool b) x12 x2 x4 x11 x3 x1 x0 h
theorem ep5arrrrlrborlbl (C : CF) (L : Nat) {β : Type} (x12 : Value) (x2 : Value) (x4 : Value) (x11 : Value) (x3 : Value) (x1 : Value) (x0 : Value) (h : H) (K : Ex → T Value → H → Option β) :
    execK Try.prog C L 0 157 [10] c5arrrrlrborlbl [41, 12, 2, 4, 11, 3, 1, 0] [(1, [12, 2, 4, 11, 3, 1, 0]), (0, [4, 11, 3, 1, 0])] (fs [(12, x12), (2, x2), (4, x4), (11, x11), (3, x3), (1, x1), (0, x0)]) h K =
      p5arrrrlrborlbl C L x12 x2 x4 x11 x3 x1 x0 h (fun x41 x12 x2 x4 x11 x3 x1 x0 h => K .normal (fs [(41, x41), (12, x12), (2, x2), (4, x4), (11, x11), (3, x3), (1, x1), (0, x0)]) h) := by
  kernel_rfl
noncomputable def c5arrrrlrborlbr : Code := cR c5arrrrlrborlb
noncomputable def c5arrrrlrborlbrt : Code := cL c5arrrrlrborlbr
noncomputable def p5arrrrlrborlbrt (C : CF) (L : Nat) {β : Type} (x41 : Value) (x12 : Value) (x2 : Value) (x4 : Value) (x11 : Value) (x3 : Value) (x1 : Value) (x0 : Value) (h : H) (kn : Value → Value → Value → Value → Value → Value → Value → H → Option β) : Option β :=
  bnd (A.idxS 5 x2 x12) fun t45 =>
  bnd (A.fieldAddr 1 t45) fun t46 =>
  bnd (A.load false 1 t46 h) fun t47 =>
  bnd (A.idxS 5 x2 x12) fun t50 =>
  bnd (A.fieldAddr 2 t50) fun t51 =>
  bnd (A.load false 1 t51 h) fun t52 =>
  bnd (A.idxS 5 x2 x12) fun t55 =>
  bnd (A.fieldAddr 3 t55) fun t56 =>
  bnd (A.load false 1 t56 h) fun t57 =>
  bnd (A.idxS 5 x2 x12) fun t60 =>
  bnd (A.fieldAddr 4 t60) fun t61 =>
  bnd (A.load false 1 t61 h) fun t62 =>
  bnd2 (C 17 [x11, t47, t52, t57, t62] h) fun t63 hq1 =>
  toBK t63 fun b =>
  kn x12 x2 x4 x11 x3 x1 x0 hq1
theorem ep5arrrrlrborlbrt (C : CF) (L : Nat) {β : Type} (x41 : Value) (x12 : Value) (x2 : Value) (x4 : Value) (x11 : Value) (x3 : Value) (x1 : Value) (x0 : Value) (h : H) (K : Ex → T Value → H → Option β) :
    execK Try.prog C L 0 157 [10] c5arrrrlrborlbrt [12, 2, 4, 11, 3, 1, 0] [(1, [12, 2, 4, 11, 3, 1, 0]), (0, [4, 11, 3, 1, 0])] (fs [(41, x41), (12, x12), (2, x2), (4, x4), (11, x11), (3, x3), (1, x1), (0, x0)]) h K =
      p5arrrrlrborlbrt C L x41 x12 x2 x4 x11 x3 x1 x0 h (fun x12 x2 x4 x11 x3 x1 x0 h => K .normal (fs [(12, x12), (2, x2), (4, x4), (11, x11), (3, x3), (1, x1), (0, x0)]) h) := by
  kernel_rfl
noncomputable def c5arrrrlrborlbrf : Code := cR c5arrrrlrborlbr
noncomputable def p5arrrrlrborlbrf (C : CF) (L : Nat) {β : Type} (x41 : Value) (x12 : Value) (x2 : Value) (x4 : Value) (x11 : Value) (x3 : Value) (x1 : Value) (x0 : Value) (h : H) (kn : Value → Value → Value → Value → Value → Value → Value → H → Option β) : Option β :=
  bnd (A.idxS 5 x2 x12) fun t67 =>
  bnd (A.fieldAddr 1 t67) fun t68 =>
  bnd (A.load false 1 t68 h) fun t69 =>
  bnd (A.idxS 5 x2 x12) fun t72 =>
  bnd (A.fieldAddr 2 t72) fun t73 =>
  bnd (A.load false 1 t73 h) fun t74 =>
  bnd (A.idxS 5 x2 x12) fun t77 =>
  bnd (A.fieldAddr 3 t77) fun t78 =>
  bnd (A.load false 1 t78 h) fun t79 =>
  bnd2 (C 12 [x11, t69, t74, t79] h) fun t80 hq1 =>
  kn x12 x2 x4 x11 x3 x1 x0 hq1
theorem ep5arrrrlrborlbrf (C : CF) (L : Nat) {β : Type} (x41 : Value) (x12 : Value) (x2 : Value) (x4 : Value) (x11 : Value) (x3 : Value) (x1 : Value) (x0 : Value) (h : H) (K : Ex → T Value → H → Option β) :
    execK Try.prog C L 0 157 [10] c5arrrrlrborlbrf [12, 2, 4, 11, 3, 1, 0] [(1, [12, 2, 4, 11, 3, 1, 0]), (0, [4, 11, 3, 1, 0])] (fs [(41, x41), (12, x12), (2, x2), (4, x4), (11, x11), (3, x3), (1, x1), (0, x0)]) h K =
      p5arrrrlrborlbrf C L x41 x12 x2 x4 x11 x3 x1 x0 h (fun x12 x2 x4 x11 x3 x1 x0 h => K .normal (fs [(12, x12), (2, x2), (4, x4), (11, x11), (3, x3), (1, x1), (0, x0)]) h) := by
  kernel_rfl
noncomputable def p5arrrrlrborlbr (C : CF) (L : Nat) {β : Type} (x41 : Value) (x12 : Value) (x2 : Value) (x4 : Value) (x11 : Value) (x3 : Value) (x1 : Value) (x0 : Value) (h : H) (kn : Value → Value → Value → Value → Value → Value → Value → H → Option β) : Option β :=
  condV x41 (p5arrrrlrborlbrt C L x41 x12 x2 x4 x11 x3 x1 x0 h kn) (p5arrrrlrborlbrf C L x41 x12 x2 x4 x11 x3 x1 x0 h kn)
theorem ep5arrrrlrborlbr (C : CF) (L : Nat) {β : Type} (x41 : Value) (x12 : Value) (x2 : Value) (x4 : Value) (x11 : Value) (x3 : Value) (x1 : Value) (x0 : Value) (h : H) (K : Ex → T Value → H → Option β) :
    execK Try.prog C L 0 157 [10] c5arrrrlrborlbr [12, 2, 4, 11, 3, 1, 0] [(1, [12, 2, 4, 11, 3, 1, 0]), (0, [4, 11, 3, 1, 0])] (fs [(41, x41), (12, x12), (2, x2), (4, x4), (11, x11), (3, x3), (1, x1), (0, x0)]) h K =
      p5arrrrlrborlbr C L x41 x12 x2 x4 x11 x3 x1 x0 h (fun x12 x2 x4 x11 x3 x1 x0 h => K .normal (fs [(12, x12), (2, x2), (4, x4), (11, x11), (3, x3), (1, x1), (0, x0)]) h) := by
  rw [execK_cond (a := c5arrrrlrborlbrt) (b := c5arrrrlrborlbrf) (x := (.tmp 41)) (v := x41) (by kernel_rfl) (by kernel_rfl), ep5arrrrlrborlbrt, ep5arrrrlrborlbrf]
  unfold p5arrrrlrborlbr
  rfl
noncomputable def p5arrrrlrborlb (C : CF) (L : Nat) {β : Type} (x12 : Value) (x2 : Value) (x4 : Value) (x11 : Value) (x3 : Value) (x1 : Value) (x0 : Value) (h : H) (kn : Value → Value → Value → Value → Value → Value → Value → H → Option β) : Option β :=
  p5arrrrlrborlbl C L x12 x2 x4 x11 x3 x1 x0 h (fun x41 x12 x2 x4 x11 x3 x1 x0 h => p5arrrrlrborlbr C L x41 x12 x2 x4 x11 x3 x1 x0 h kn)
theorem ep5arrrrlrborlb (C : CF) (L : Nat) {β : Type} (x12 : Value) (x2 : Value) (x4 : Value) (x11 : Value) (x3 : Value) (x1 : Value) (x0 : Value) (h : H) (K : Ex → T Value → H → Option β) :
    execK Try.prog C L 0 157 [10] c5arrrrlrborlb [12, 2, 4, 11, 3, 1, 0] [(1, [12, 2, 4, 11, 3, 1, 0]), (0, [4, 11, 3, 1, 0])] (fs [(12, x12), (2, x2), (4, x4), (11, x11), (3, x3), (1, x1), (0, x0)]) h K =
      p5arrrrlrborlb C L x12 x2 x4 x11 x3 x1 x0 h (fun x12 x2 x4 x11 x3 x1 x0 h => K .normal (fs [(12, x12), (2, x2), (4, x4), (11, x11), (3, x3), (1, x1), (0, x0)]) h) := by
  rw [execK_seq (a := c5arrrrlrborlbl) (b := c5arrrrlrborlbr) (by kernel_rfl) (show live [10] c5arrrrlrborlbr [12, 2, 4, 11, 3, 1, 0] [(1, [12, 2, 4, 11, 3, 1, 0]), (0, [4, 11, 3, 1, 0])] = [41, 12, 2, 4, 11, 3, 1, 0] by kernel_rfl), ep5arrrrlrborlbl]
  unfold p5arrrrlrborlb
  exact (congrArg (p5arrrrlrborlbl C L x12 x2 x4 x11 x3 x1 x0 h) (funext fun x41 => funext fun x12 => funext fun x2 => funext fun x4 => funext fun x11 => funext fun x3 => funext fun x1 => funext fun x0 => funext fun h => (seqK_n _ _ _).trans (ep5arrrrlrborlbr C L x41 x12 x2 x4 x11 x3 x1 x0 h K)))
noncomputable def p5arrrrlrborl (C : CF) (L : Nat) {β : Type} (x12 : Value) (x2 : Value) (x4 : Value) (x11 : Value) (x3 : Value) (x1 : Value) (x0 : Value) (h : H) (kn : Value → Value → Value → Value → Value → Value → Value → H → Option β) : Option β :=
  p5arrrrlrborlb C L x12 x2 x4 x11 x3 x1 x0 h kn
theorem ep5arrrrlrborl (C : CF) (L : Nat) {β : Type} (x12 : Value) (x2 : Value) (x4 : Value) (x11 : Value) (x3 : Value) (x1 : Value) (x0 : Value) (h : H) (K : Ex → T Value → H → Option β) :
    execK Try.prog C L 0 157 [10] c5arrrrlrborl [12, 2, 4, 11, 3, 1, 0] [(0, [4, 11, 3, 1, 0])] (fs [(12, x12), (2, x2), (4, x4), (11, x11), (3, x3), (1, x1), (0, x0)]) h K =
      p5arrrrlrborl C L x12 x2 x4 x11 x3 x1 x0 h (fun x12 x2 x4 x11 x3 x1 x0 h => K .normal (fs [(12, x12), (2, x2), (4, x4), (11, x11), (3, x3), (1, x1), (0, x0)]) h) := by
  rw [execK_block (b := c5arrrrlrborlb) (id := 1) (by kernel_rfl), ep5arrrrlrborlb]
  unfold p5arrrrlrborl
  rfl
noncomputable def c5arrrrlrborr : Code := cR c5arrrrlrbor
noncomputable def p5arrrrlrborr (C : CF) (L : Nat) {β : Type} (x12 : Value) (x2 : Value) (x4 : Value) (x11 : Value) (x3 : Value) (x1 : Value) (x0 : Value) (h : H) (kn : Value → Value → Value → Value → Value → Value → Value → H → Option β) : Option β :=
  bnd (A.bin Try.prog .add 3 x12 (.int .i64 1)) fun t34 =>
  kn t34 x2 x4 x11 x3 x1 x0 h
theorem ep5arrrrlrborr (C : CF) (L : Nat) {β : Type} (x12 : Value) (x2 : Value) (x4 : Value) (x11 : Value) (x3 : Value) (x1 : Value) (x0 : Value) (h : H) (K : Ex → T Value → H → Option β) :
    execK Try.prog C L 0 157 [10] c5arrrrlrborr [12, 2, 4, 11, 3, 1, 0] [(0, [4, 11, 3, 1, 0])] (fs [(12, x12), (2, x2), (4, x4), (11, x11), (3, x3), (1, x1), (0, x0)]) h K =
      p5arrrrlrborr C L x12 x2 x4 x11 x3 x1 x0 h (fun x12 x2 x4 x11 x3 x1 x0 h => K .normal (fs [(12, x12), (2, x2), (4, x4), (11, x11), (3, x3), (1, x1), (0, x0)]) h) := by
  kernel_rfl
noncomputable def p5arrrrlrbor (C : CF) (L : Nat) {β : Type} (x12 : Value) (x2 : Value) (x4 : Value) (x11 : Value) (x3 : Value) (x1 : Value) (x0 : Value) (h : H) (kn : Value → Value → Value → Value → Value → Value → Value → H → Option β) : Option β :=
  p5arrrrlrborl C L x12 x2 x4 x11 x3 x1 x0 h (fun x12 x2 x4 x11 x3 x1 x0 h => p5arrrrlrborr C L x12 x2 x4 x11 x3 x1 x0 h kn)
theorem ep5arrrrlrbor (C : CF) (L : Nat) {β : Type} (x12 : Value) (x2 : Value) (x4 : Value) (x11 : Value) (x3 : Value) (x1 : Value) (x0 : Value) (h : H) (K : Ex → T Value → H → Option β) :
    execK Try.prog C L 0 157 [10] c5arrrrlrbor [12, 2, 4, 11, 3, 1, 0] [(0, [4, 11, 3, 1, 0])] (fs [(12, x12), (2, x2), (4, x4), (11, x11), (3, x3), (1, x1), (0, x0)]) h K =
      p5arrrrlrbor C L x12 x2 x4 x11 x3 x1 x0 h (fun x12 x2 x4 x11 x3 x1 x0 h => K .normal (fs [(12, x12), (2, x2), (4, x4), (11, x11), (3, x3), (1, x1), (0, x0)]) h) := by
  rw [execK_seq (a := c5arrrrlrborl) (b := c5arrrrlrborr) (by kernel_rfl) (show live [10] c5arrrrlrborr [12, 2, 4, 11, 3, 1, 0] [(0, [4, 11, 3, 1, 0])] = [12, 2, 4, 11, 3, 1, 0] by kernel_rfl), ep5arrrrlrborl]
  unfold p5arrrrlrbor
  exact (congrArg (p5arrrrlrborl C L x12 x2 x4 x11 x3 x1 x0 h) (funext fun x12 => funext fun x2 => funext fun x4 => funext fun x11 => funext fun x3 => funext fun x1 => funext fun x0 => funext fun h => (seqK_n _ _ _).trans (ep5arrrrlrborr C L x12 x2 x4 x11 x3 x1 x0 h K)))
noncomputable def p5arrrrlrbo (C : CF) (L : Nat) {β : Type} (x12 : Value) (x2 : Value) (x4 : Value) (x11 : Value) (x3 : Value) (x1 : Value) (x0 : Value) (h : H) (kn : Value → Value → Value → Value → Value → Value → Value → H → Option β) (kx0 : Value → Value → Value → Value → Value → H → Option β) : Option β :=
  p5arrrrlrbol C L x12 x2 x4 x11 x3 x1 x0 h (fun x12 x2 x4 x11 x3 x1 x0 h => p5arrrrlrbor C L x12 x2 x4 x11 x3 x1 x0 h kn) kx0
theorem ep5arrrrlrbo (C : CF) (L : Nat) {β : Type} (x12 : Value) (x2 : Value) (x4 : Value) (x11 : Value) (x3 : Value) (x1 : Value) (x0 : Value) (h : H) (K : Ex → T Value → H → Option β) :
    execK Try.prog C L 0 157 [10] c5arrrrlrbo [12, 2, 4, 11, 3, 1, 0] [(0, [4, 11, 3, 1, 0])] (fs [(12, x12), (2, x2), (4, x4), (11, x11), (3, x3), (1, x1), (0, x0)]) h K =
      p5arrrrlrbo C L x12 x2 x4 x11 x3 x1 x0 h (fun x12 x2 x4 x11 x3 x1 x0 h => K .normal (fs [(12, x12), (2, x2), (4, x4), (11, x11), (3, x3), (1, x1), (0, x0)]) h) (fun x4 x11 x3 x1 x0 h => K (.exit 0) (fs [(4, x4), (11, x11), (3, x3), (1, x1), (0, x0)]) h) := by
  rw [execK_seq (a := c5arrrrlrbol) (b := c5arrrrlrbor) (by kernel_rfl) (show live [10] c5arrrrlrbor [12, 2, 4, 11, 3, 1, 0] [(0, [4, 11, 3, 1, 0])] = [12, 2, 4, 11, 3, 1, 0] by kernel_rfl), ep5arrrrlrbol]
  unfold p5arrrrlrbo
  exact (congr (congrArg (p5arrrrlrbol C L x12 x2 x4 x11 x3 x1 x0 h) (funext fun x12 => funext fun x2 => funext fun x4 => funext fun x11 => funext fun x3 => funext fun x1 => funext fun x0 => funext fun h => (seqK_n _ _ _).trans (ep5arrrrlrbor C L x12 x2 x4 x11 x3 x1 x0 h K))) (funext fun x4 => funext fun x11 => funext fun x3 => funext fun x1 => funext fun x0 => funext fun h => seqK_x _ _ _ _))
noncomputable def p5arrrrlrbw (C : CF) (L : Nat) {β : Type} (kx0 : Value → Value → Value → Value → Value → H → Option β) : Nat → Value → Value → Value → Value → Value → Value → Value → H → Option β
  | 0, _, _, _, _, _, _, _, _ => none
  | n + 1, x12, x2, x4, x11, x3, x1, x0, h => p5arrrrlrbo C L x12 x2 x4 x11 x3 x1 x0 h (fun x12 x2 x4 x11 x3 x1 x0 h => p5arrrrlrbw C L kx0 n x12 x2 x4 x11 x3 x1 x0 h) kx0
theorem ep5arrrrlrbw (C : CF) (L : Nat) {β : Type} (K : Ex → T Value → H → Option β) : ∀ (n : Nat) (x12 : Value) (x2 : Value) (x4 : Value) (x11 : Value) (x3 : Value) (x1 : Value) (x0 : Value) (h : H),
    loopK (fun fr h K => execK Try.prog C L 0 157 [10] c5arrrrlrbo [12, 2, 4, 11, 3, 1, 0] [(0, [4, 11, 3, 1, 0])] fr h K) n (fs [(12, x12), (2, x2), (4, x4), (11, x11), (3, x3), (1, x1), (0, x0)]) h K =
      p5arrrrlrbw C L (fun x4 x11 x3 x1 x0 h => K (.exit 0) (fs [(4, x4), (11, x11), (3, x3), (1, x1), (0, x0)]) h) n x12 x2 x4 x11 x3 x1 x0 h := by
  intro n
  induction n with
  | zero => intros; rfl
  | succ n ih =>
    intros
    simp only [loopK]
    rw [ep5arrrrlrbo]
    simp only [seqK_n, seqK_x, seqK_r, ih]
    rfl
noncomputable def p5arrrrlrb (C : CF) (L : Nat) {β : Type} (x12 : Value) (x2 : Value) (x4 : Value) (x11 : Value) (x3 : Value) (x1 : Value) (x0 : Value) (h : H) (kx0 : Value → Value → Value → Value → Value → H → Option β) : Option β :=
  p5arrrrlrbw C L kx0 L x12 x2 x4 x11 x3 x1 x0 h
theorem ep5arrrrlrb (C : CF) (L : Nat) {β : Type} (x12 : Value) (x2 : Value) (x4 : Value) (x11 : Value) (x3 : Value) (x1 : Value) (x0 : Value) (h : H) (K : Ex → T Value → H → Option β) :
    execK Try.prog C L 0 157 [10] c5arrrrlrb [4, 11, 3, 1, 0] [(0, [4, 11, 3, 1, 0])] (fs [(12, x12), (2, x2), (4, x4), (11, x11), (3, x3), (1, x1), (0, x0)]) h K =
      p5arrrrlrb C L x12 x2 x4 x11 x3 x1 x0 h (fun x4 x11 x3 x1 x0 h => K (.exit 0) (fs [(4, x4), (11, x11), (3, x3), (1, x1), (0, x0)]) h) := by
  rw [execK_loop (b := c5arrrrlrbo) (fr1 := (fs [(12, x12), (2, x2), (4, x4), (11, x11), (3, x3), (1, x1), (0, x0)])) (by kernel_rfl) (show live [10] c5arrrrlrbo [] [(0, [4, 11, 3, 1, 0])] = [12, 2, 4, 11, 3, 1, 0] by kernel_rfl) (by kernel_rfl), ep5arrrrlrbw]
  unfold p5arrrrlrb
  rfl
noncomputable def p5arrrrlr (C : CF) (L : Nat) {β : Type} (x12 : Value) (x2 : Value) (x4 : Value) (x11 : Value) (x3 : Value) (x1 : Value) (x0 : Value) (h : H) (kn : Value → Value → Value → Value → Value → H → Option β) : Option β :=
  p5arrrrlrb C L x12 x2 x4 x11 x3 x1 x0 h kn
theorem ep5arrrrlr (C : CF) (L : Nat) {β : Type} (x12 : Value) (x2 : Value) (x4 : Value) (x11 : Value) (x3 : Value) (x1 : Value) (x0 : Value) (h : H) (K : Ex → T Value → H → Option β) :
    execK Try.prog C L 0 157 [10] c5arrrrlr [4, 11, 3, 1, 0] [] (fs [(12, x12), (2, x2), (4, x4), (11, x11), (3, x3), (1, x1), (0, x0)]) h K =
      p5arrrrlr C L x12 x2 x4 x11 x3 x1 x0 h (fun x4 x11 x3 x1 x0 h => K .normal (fs [(4, x4), (11, x11), (3, x3), (1, x1), (0, x0)]) h) := by
  rw [execK_block (b := c5arrrrlrb) (id := 0) (by kernel_rfl), ep5arrrrlrb]
  unfold p5arrrrlr
  rfl
noncomputable def p5arrrrl (C : CF) (L : Nat) {β : Type} (x2 : Value) (x4 : Value) (x11 : Value) (x3 : Value) (x1 : Value) (x0 : Value) (h : H) (kn : Value → Value → Value → Value → Value → H → Option β) : Option β :=
  p5arrrrll C L x2 x4 x11 x3 x1 x0 h (fun x12 x2 x4 x11 x3 x1 x0 h => p5arrrrlr C L x12 x2 x4 x11 x3 x1 x0 h kn)
theorem ep5arrrrl (C : CF) (L : Nat) {β : Type} (x2 : Value) (x4 : Value) (x11 : Value) (x3 : Value) (x1 : Value) (x0 : Value) (h : H) (K : Ex → T Value → H → Option β) :
    execK Try.prog C L 0 157 [10] c5arrrrl [4, 11, 3, 1, 0] [] (fs [(2, x2), (4, x4), (11, x11), (3, x3), (1, x1), (0, x0)]) h K =
      p5arrrrl C L x2 x4 x11 x3 x1 x0 h (fun x4 x11 x3 x1 x0 h => K .normal (fs [(4, x4), (11, x11), (3, x3), (1, x1), (0, x0)]) h) := by
  rw [execK_seq (a := c5arrrrll) (b := c5arrrrlr) (by kernel_rfl) (show live [10] c5arrrrlr [4, 11, 3, 1, 0] [] = [12, 2, 4, 11, 3, 1, 0] by kernel_rfl), ep5arrrrll]
  unfold p5arrrrl
  exact (congrArg (p5arrrrll C L x2 x4 x11 x3 x1 x0 h) (funext fun x12 => funext fun x2 => funext fun x4 => funext fun x11 => funext fun x3 => funext fun x1 => funext fun x0 => funext fun h => (seqK_n _ _ _).trans (ep5arrrrlr C L x12 x2 x4 x11 x3 x1 x0 h K)))
noncomputable def c5arrrrr : Code := cR c5arrrr
noncomputable def c5arrrrrl : Code := cL c5arrrrr
noncomputable def p5arrrrrl (C : CF) (L : Nat) {β : Type} (x4 : Value) (x11 : Value) (x3 : Value) (x1 : Value) (x0 : Value) (h : H) (kn : Value → Value → Value → Value → Value → Value → H → Option β) : Option β :=
  bnd2 (C 21 [x11, x3, x4] h) fun t84 hq1 =>
  toBK t84 fun b =>
  kn x4 x11 x3 x1 x0 (.bool b) hq1
theorem ep5arrrrrl (C : CF) (L : Nat) {β : Type} (x4 : Value) (x11 : Value) (x3 : Value) (x1 : Value) (x0 : Value) (h : H) (K : Ex → T Value → H → Option β) :
    execK Try.prog C L 0 157 [10] c5arrrrrl [4, 11, 3, 1, 0, 13] [] (fs [(4, x4), (11, x11), (3, x3), (1, x1), (0, x0)]) h K =
      p5arrrrrl C L x4 x11 x3 x1 x0 h (fun x4 x11 x3 x1 x0 x13 h => K .normal (fs [(4, x4), (11, x11), (3, x3), (1, x1), (0, x0), (13, x13)]) h) := by
  kernel_rfl
noncomputable def c5arrrrrr : Code := cR c5arrrrr
noncomputable def c5arrrrrrl : Code := cL c5arrrrrr
noncomputable def c5arrrrrrll : Code := cL c5arrrrrrl
noncomputable def p5arrrrrrll (C : CF) (L : Nat) {β : Type} (x4 : Value) (x11 : Value) (x3 : Value) (x1 : Value) (x0 : Value) (x13 : Value) (h : H) (kn : Value → Value → Value → Value → Value → Value → Value → H → Option β) : Option β :=
  bnd (A.bin Try.prog .lss 3 x3 (.int .i64 0)) fun t86 =>
  toBK t86 fun b =>
  (bif b then
  kn (.bool true) x4 x11 x3 x1 x0 x13 h
  else
  bnd (A.bin Try.prog .geq 3 x3 x0) fun t90 =>
  toBK t90 fun bq1 =>
  (bif bq1 then
  kn (.bool true) x4 x11 x3 x1 x0 x13 h
  else
  bnd (A.bin Try.prog .lss 3 x4 (.int .i64 0)) fun t94 =>
  toBK t94 fun bq2 =>
  (bif bq2 then
  kn (.bool true) x4 x11 x3 x1 x0 x13 h
  else
  bnd (A.bin Try.prog .gtr 3 x4 (.int .i64 7)) fun t98 =>
  toBK t98 fun bq3 =>
  kn (.bool bq3) x4 x11 x3 x1 x0 x13 h)))
theorem ep5arrrrrrll (C : CF) (L : Nat) {β : Type} (x4 : Value) (x11 : Value) (x3 : Value) (x1 : Value) (x0 : Value) (x13 : Value) (h : H) (K : Ex → T Value → H → Option β) :
    execK Try.prog C L 0 157 [10] c5arrrrrrll [99, 4, 11, 3, 1, 0, 13] [] (fs [(4, x4), (11, x11), (3, x3), (1, x1), (0, x0), (13, x13)]) h K =
      p5arrrrrrll C L x4 x11 x3 x1 x0 x13 h (fun x99 x4 x11 x3 x1 x0 x13 h => K .normal (fs [(99, x99), (4, x4), (11, x11), (3, x3), (1, x1), (0, x0), (13, x13)]) h) := by
  kernel_rfl
noncomputable def c5arrrrrrlr : Code := cR c5arrrrrrl
noncomputable def p5arrrrrrlr (C : CF) (L : Nat) {β : Type} (x99 : Value) (x4 : Value) (x11 : Value) (x3 : Value) (x1 : Value) (x0 : Value) (x13 : Value) (h : H) (kr : Value → H → Option β) (kn : Value → Value → Value → Value → Value → Value → H → Option β) : Option β :=
  condV x99 (
  toBK x13 fun b =>
  bnd (A.un Try.prog .not (.bool b)) fun t101 =>
  toBK t101 fun bq1 =>
  (bif bq1 then
  bnd2 (C 9 [] h) fun t103 hq1 =>
  toBK t103 fun bq2 =>
  kr (.bool bq2) hq1
  else
  kr (.bool false) h)) (
  kn x4 x11 x3 x1 x0 x13 h)
theorem ep5arrrrrrlr (C : CF) (L : Nat) {β : Type} (x99 : Value) (x4 : Value) (x11 : Value) (x3 : Value) (x1 : Value) (x0 : Value) (x13 : Value) (h : H) (K : Ex → T Value → H → Option β) :
    execK Try.prog C L 0 157 [10] c5arrrrrrlr [4, 11, 3, 1, 0, 13] [] (fs [(99, x99), (4, x4), (11, x11), (3, x3), (1, x1), (0, x0), (13, x13)]) h K =
      p5arrrrrrlr C L x99 x4 x11 x3 x1 x0 x13 h (fun x10 h => K .ret (fs [(10, x10)]) h) (fun x4 x11 x3 x1 x0 x13 h => K .normal (fs [(4, x4), (11, x11), (3, x3), (1, x1), (0, x0), (13, x13)]) h) := by
  kernel_rfl
noncomputable def p5arrrrrrl (C : CF) (L : Nat) {β : Type} (x4 : Value) (x11 : Value) (x3 : Value) (x1 : Value) (x0 : Value) (x13 : Value) (h : H) (kr : Value → H → Option β) (kn : Value → Value → Value → Value → Value → Value → H → Option β) : Option β :=
  p5arrrrrrll C L x4 x11 x3 x1 x0 x13 h (fun x99 x4 x11 x3 x1 x0 x13 h => p5arrrrrrlr C L x99 x4 x11 x3 x1 x0 x13 h kr kn)
theorem ep5arrrrrrl (C : CF) (L : Nat) {β : Type} (x4 : Value) (x11 : Value) (x3 : Value) (x1 : Value) (x0 : Value) (x13 : Value) (h : H) (K : Ex → T Value → H → Option β) :
    execK Try.prog C L 0 157 [10] c5arrrrrrl [4, 11, 3, 1, 0, 13] [] (fs [(4, x4), (11, x11), (3, x3), (1, x1), (0, x0), (13, x13)]) h K =
      p5arrrrrrl C L x4 x11 x3 x1 x0 x13 h (fun x10 h => K .ret (fs [(10, x10)]) h) (fun x4 x11 x3 x1 x0 x13 h => K .normal (fs [(4, x4), (11, x11), (3, x3), (1, x1), (0, x0), (13, x13)]) h) := by
  rw [execK_seq (a := c5arrrrrrll) (b := c5arrrrrrlr) (by kernel_rfl) (show live [10] c5arrrrrrlr [4, 11, 3, 1, 0, 13] [] = [99, 4, 11, 3, 1, 0, 13] by kernel_rfl), ep5arrrrrrll]
  unfold p5arrrrrrl
  exact (congrArg (p5arrrrrrll C L x4 x11 x3 x1 x0 x13 h) (funext fun x99 => funext fun x4 => funext fun x11 => funext fun x3 => funext fun x1 => funext fun x0 => funext fun x13 => funext fun h => (seqK_n _ _ _).trans (ep5arrrrrrlr C L x99 x4 x11 x3 x1 x0 x13 h K)))
noncomputable def c5arrrrrrr : Code := cR c5arrrrrr
noncomputable def c5arrrrrrrl : Code := cL c5arrrrrrr
noncomputable def c5arrrrrrrll : Code := cL c5arrrrrrrl
noncomputable def p5arrrrrrrll (C : CF) (L : Nat) {β : Type} (x4 : Value) (x11 : Value) (x3 : Value) (x1 : Value) (x0 : Value) (x13 : Value) (h : H) (kn : Value → Value → Value → Value → Value → Value → Value → H → Option β) : Option β :=
  kn x4 x4 x11 x3 x1 x0 x13 h
theorem ep5arrrrrrrll (C : CF) (L : Nat) {β : Type} (x4 : Value) (x11 : Value) (x3 : Value) (x1 : Value) (x0 : Value) (x13 : Value) (h : H) (K : Ex → T Value → H → Option β) :
    execK Try.prog C L 0 157 [10] c5arrrrrrrll [14, 4, 11, 3, 1, 0, 13] [] (fs [(4, x4), (11, x11), (3, x3), (1, x1), (0, x0), (13, x13)]) h K =
      p5arrrrrrrll C L x4 x11 x3 x1 x0 x13 h (fun x14 x4 x11 x3 x1 x0 x13 h => K .normal (fs [(14, x14), (4, x4), (11, x11), (3, x3), (1, x1), (0, x0), (13, x13)]) h) := by
  kernel_rfl
noncomputable def c5arrrrrrrlr : Code := cR c5arrrrrrrl
noncomputable def c5arrrrrrrlrb : Code := cL c5arrrrrrrlr
noncomputable def c5arrrrrrrlrbo : Code := cL c5arrrrrrrlrb
noncomputable def c5arrrrrrrlrbol : Code := cL c5arrrrrrrlrbo
noncomputable def p5arrrrrrrlrbol (C : CF) (L : Nat) {β : Type} (x14 : Value) (x4 : Value) (x11 : Value) (x3 : Value) (x1 : Value) (x0 : Value) (x13 : Value) (h : H) (kn : Value → Value → Value → Value → Value → Value → Value → H → Option β) (kx2 : Value → Value → Value → Value → Value → Value → H → Option β) : Option β :=
  bnd (A.bin Try.prog .leq 3 x14 (.int .i64 7)) fun t107 =>
  toBK t107 fun b =>
  (bif b then
  kn x14 x4 x11 x3 x1 x0 x13 h
  else
  kx2 x4 x11 x3 x1 x0 x13 h)
theorem ep5arrrrrrrlrbol (C : CF) (L : Nat) {β : Type} (x14 : Value) (x4 : Value) (x11 : Value) (x3 : Value) (x1 : Value) (x0 : Value) (x13 : Value) (h : H) (K : Ex → T Value → H → Option β) :
    execK Try.prog C L 0 157 [10] c5arrrrrrrlrbol [14, 4, 11, 3, 1, 0, 13] [(2, [4, 11, 3, 1, 0, 13])] (fs [(14, x14), (4, x4), (11, x11), (3, x3), (1, x1), (0, x0), (13, x13)]) h K =
      p5arrrrrrrlrbol C L x14 x4 x11 x3 x1 x0 x13 h (fun x14 x4 x11 x3 x1 x0 x13 h => K .normal (fs [(14, x14), (4, x4), (11, x11), (3, x3), (1, x1), (0, x0), (13, x13)]) h) (fun x4 x11 x3 x1 x0 x13 h => K (.exit 2) (fs [(4, x4), (11, x11), (3, x3), (1, x1), (0, x0), (13, x13)]) h) := by
  kernel_rfl
noncomputable def c5arrrrrrrlrbor : Code := cR c5arrrrrrrlrbo
noncomputable def c5arrrrrrrlrborl : Code := cL c5arrrrrrrlrbor
noncomputable def c5arrrrrrrlrborlb : Code := cL c5arrrrrrrlrborl
noncomputable def p5arrrrrrrlrborlb (C : CF) (L : Nat) {β : Type} (x14 : Value) (x4 : Value) (x11 : Value) (x3 : Value) (x1 : Value) (x0 : Value) (x13 : Value) (h : H) (kr : Value → H → Option β) (kn : Value → Value → Value → Value → Value → Value → Value → H → Option β) : Option β :=
  toBK x13 fun b =>
  (bif b then
  bnd2 (C 21 [x11, x3, x14] h) fun t115 hq1 =>
  toBK t115 fun bq1 =>
  bnd (A.un Try.prog .not (.bool bq1)) fun t116 =>
  toBK t116 fun bq2 =>
  (bif bq2 then
  kr (.bool false) hq1
  else
  kn x14 x4 x11 x3 x1 x0 x13 hq1)
  else
  kn x14 x4 x11 x3 x1 x0 x13 h)
theorem ep5arrrrrrrlrborlb (C : CF) (L : Nat) {β : Type} (x14 : Value) (x4 : Value) (x11 : Value) (x3 : Value) (x1 : Value) (x0 : Value) (x13 : Value) (h : H) (K : Ex → T Value → H → Option β) :
    execK Try.prog C L 0 157 [10] c5arrrrrrrlrborlb [14, 4, 11, 3, 1, 0, 13] [(3, [14, 4, 11, 3, 1, 0, 13]), (2, [4, 11, 3, 1, 0, 13])] (fs [(14, x14), (4, x4), (11, x11), (3, x3), (1, x1), (0, x0), (13, x13)]) h K =
      p5arrrrrrrlrborlb C L x14 x4 x11 x3 x1 x0 x13 h (fun x10 h => K .ret (fs [(10, x10)]) h) (fun x14 x4 x11 x3 x1 x0 x13 h => K .normal (fs [(14, x14), (4, x4), (11, x11), (3, x3), (1, x1), (0, x0), (13, x13)]) h) := by
  kernel_rfl
noncomputable def p5arrrrrrrlrborl (C : CF) (L : Nat) {β : Type} (x14 : Value) (x4 : Value) (x11 : Value) (x3 : Value) (x1 : Value) (x0 : Value) (x13 : Value) (h : H) (kr : Value → H → Option β) (kn : Value → Value → Value → Value → Value → Value → Value → H → Option β) : Option β :=
  p5arrrrrrrlrborlb C L x14 x4 x11 x3 x1 x0 x13 h kr kn
theorem ep5arrrrrrrlrborl (C : CF) (L : Nat) {β : Type} (x14 : Value) (x4 : Value) (x11 : Value) (x3 : Value) (x1 : Value) (x0 : Value) (x13 : Value) (h : H) (K : Ex → T Value → H → Option β) :
    execK Try.prog C L 0 157 [10] c5arrrrrrrlrborl [14, 4, 11, 3, 1, 0, 13] [(2, [4, 11, 3, 1, 0, 13])] (fs [(14, x14), (4, x4), (11, x11), (3, x3), (1, x1), (0, x0), (13, x13)]) h K =
      p5arrrrrrrlrborl C L x14 x4 x11 x3 x1 x0 x13 h (fun x10 h => K .ret (fs [(10, x10)]) h) (fun x14 x4 x11 x3 x1 x0 x13 h => K .normal (fs [(14, x14), (4, x4), (11, x11), (3, x3), (1, x1), (0, x0), (13, x13)]) h) := by
  rw [execK_block (b := c5arrrrrrrlrborlb) (id := 3) (by kernel_rfl), ep5arrrrrrrlrborlb]
  unfold p5arrrrrrrlrborl
  rfl
noncomputable def c5arrrrrrrlrborr : Code := cR c5arrrrrrrlrbor
noncomputable def p5arrrrrrrlrborr (C : CF) (L : Nat) {β : Type} (x14 : Value) (x4 : Value) (x11 : Value) (x3 : Value) (x1 : Value) (x0 : Value) (x13 : Value) (h : H) (kn : Value → Value → Value → Value → Value → Value → Value → H → Option β) : Option β :=
  bnd (A.bin Try.prog .add 3 x14 (.int .i64 1)) fun t109 =>
  kn t109 x4 x11 x3 x1 x0 x13 h
theorem ep5arrrrrrrlrborr (C : CF) (L : Nat) {β : Type} (x14 : Value) (x4 : Value) (x11 : Value) (x3 : Value) (x1 : Value) (x0 : Value) (x13 : Value) (h : H) (K : Ex → T Value → H → Option β) :
    execK Try.prog C L 0 157 [10] c5arrrrrrrlrborr [14, 4, 11, 3, 1, 0, 13] [(2, [4, 11, 3, 1, 0, 13])] (fs [(14, x14), (4, x4), (11, x11), (3, x3), (1, x1), (0, x0), (13, x13)]) h K =
      p5arrrrrrrlrborr C L x14 x4 x11 x3 x1 x0 x13 h (fun x14 x4 x11 x3 x1 x0 x13 h => K .normal (fs [(14, x14), (4, x4), (11, x11), (3, x3), (1, x1), (0, x0), (13, x13)]) h) := by
  kernel_rfl
noncomputable def p5arrrrrrrlrbor (C : CF) (L : Nat) {β : Type} (x14 : Value) (x4 : Value) (x11 : Value) (x3 : Value) (x1 : Value) (x0 : Value) (x13 : Value) (h : H) (kn : Value → Value → Value → Value → Value → Value → Value → H → Option β) (kr : Value → H → Option β) : Option β :=
  p5arrrrrrrlrborl C L x14 x4 x11 x3 x1 x0 x13 h kr (fun x14 x4 x11 x3 x1 x0 x13 h => p5arrrrrrrlrborr C L x14 x4 x11 x3 x1 x0 x13 h kn)
theorem ep5arrrrrrrlrbor (C : CF) (L : Nat) {β : Type} (x14 : Value) (x4 : Value) (x11 : Value) (x3 : Value) (x1 : Value) (x0 : Value) (x13 : Value) (h : H) (K : Ex → T Value → H → Option β) :
    execK Try.prog C L 0 157 [10] c5arrrrrrrlrbor [14, 4, 11, 3, 1, 0, 13] [(2, [4, 11, 3, 1, 0, 13])] (fs [(14, x14), (4, x4), (11, x11), (3, x3), (1, x1), (0, x0), (13, x13)]) h K =
      p5arrrrrrrlrbor C L x14 x4 x11 x3 x1 x0 x13 h (fun x14 x4 x11 x3 x1 x0 x13 h => K .normal (fs [(14, x14), (4, x4), (11, x11), (3, x3), (1, x1), (0, x0), (13, x13)]) h) (fun x10 h => K .ret (fs [(10, x10)]) h) := by
  rw [execK_seq (a := c5arrrrrrrlrborl) (b := c5arrrrrrrlrborr) (by kernel_rfl) (show live [10] c5arrrrrrrlrborr [14, 4, 11, 3, 1, 0, 13] [(2, [4, 11, 3, 1, 0, 13])] = [14, 4, 11, 3, 1, 0, 13] by kernel_rfl), ep5arrrrrrrlrborl]
  unfold p5arrrrrrrlrbor
  exact (congr (congrArg (p5arrrrrrrlrborl C L x14 x4 x11 x3 x1 x0 x13 h) (funext fun x10 => funext fun h => seqK_r _ _ _)) (funext fun x14 => funext fun x4 => funext fun x11 => funext fun x3 => funext fun x1 => funext fun x0 => funext fun x13 => funext fun h => (seqK_n _ _ _).trans (ep5arrrrrrrlrborr C L x14 x4 x11 x3 x1 x0 x13 h K)))
noncomputable def p5arrrrrrrlrbo (C : CF) (L : Nat) {β : Type} (x14 : Value) (x4 : Value) (x11 : Value) (x3 : Value) (x1 : Value) (x0 : Value) (x13 : Value) (h : H) (kn : Value → Value → Value → Value → Value → Value → Value → H → Option β) (kr : Value → H → Option β) (kx2 : Value → Value → Value → Value → Value → Value → H → Option β) : Option β :=
  p5arrrrrrrlrbol C L x14 x4 x11 x3 x1 x0 x13 h (fun x14 x4 x11 x3 x1 x0 x13 h => p5arrrrrrrlrbor C L x14 x4 x11 x3 x1 x0 x13 h kn kr) kx2
theorem ep5arrrrrrrlrbo (C : CF) (L : Nat) {β : Type} (x14 : Value) (x4 : Value) (x11 : Value) (x3 : Value) (x1 : Value) (x0 : Value) (x13 : Value) (h : H) (K : Ex → T Value → H → Option β) :
    execK Try.prog C L 0 157 [10] c5arrrrrrrlrbo [14, 4, 11, 3, 1, 0, 13] [(2, [4, 11, 3, 1, 0, 13])] (fs [(14, x14), (4, x4), (11, x11), (3, x3), (1, x1), (0, x0), (13, x13)]) h K =
      p5arrrrrrrlrbo C L x14 x4 x11 x3 x1 x0 x13 h (fun x14 x4 x11 x3 x1 x0 x13 h => K .normal (fs [(14, x14), (4, x4), (11, x11), (3, x3), (1, x1), (0, x0), (13, x13)]) h) (fun x10 h => K .ret (fs [(10, x10)]) h) (fun x4 x11 x3 x1 x0 x13 h => K (.exit 2) (fs [(4, x4), (11, x11), (3, x3), (1, x1), (0, x0), (13, x13)]) h) := by
  rw [execK_seq (a := c5arrrrrrrlrbol) (b := c5arrrrrrrlrbor) (by kernel_rfl) (show live [10] c5arrrrrrrlrbor [14, 4, 11, 3, 1, 0, 13] [(2, [4, 11, 3, 1, 0, 13])] = [14, 4, 11, 3, 1, 0, 13] by kernel_rfl), ep5arrrrrrrlrbol]
  unfold p5arrrrrrrlrbo
  exact (congr (congrArg (p5arrrrrrrlrbol C L x14 x4 x11 x3 x1 x0 x13 h) (funext fun x14 => funext fun x4 => funext fun x11 => funext fun x3 => funext fun x1 => funext fun x0 => funext fun x13 => funext fun h => (seqK_n _ _ _).trans (ep5arrrrrrrlrbor C L x14 x4 x11 x3 x1 x0 x13 h K))) (funext fun x4 => funext fun x11 => funext fun x3 => funext fun x1 => funext fun x0 => funext fun x13 => funext fun h => seqK_x _ _ _ _))
noncomputable def p5arrrrrrrlrbw (C : CF) (L : Nat) {β : Type} (kr : Value → H → Option β) (kx2 : Value → Value → Value → Value → Value → Value → H → Option β) : Nat → Value → Value → Value → Value → Value → Value → Value → H → Option β
  | 0, _, _, _, _, _, _, _, _ => none
  | n + 1, x14, x4, x11, x3, x1, x0, x13, h => p5arrrrrrrlrbo C L x14 x4 x11 x3 x1 x0 x13 h (fun x14 x4 x11 x3 x1 x0 x13 h => p5arrrrrrrlrbw C L kr kx2 n x14 x4 x11 x3 x1 x0 x13 h) kr kx2
theorem ep5arrrrrrrlrbw (C : CF) (L : Nat) {β : Type} (K : Ex → T Value → H → Option β) : ∀ (n : Nat) (x14 : Value) (x4 : Value) (x11 : Value) (x3 : Value) (x1 : Value) (x0 : Value) (x13 : Value) (h : H),
    loopK (fun fr h K => execK Try.prog C L 0 157 [10] c5arrrrrrrlrbo [14, 4, 11, 3, 1, 0, 13] [(2, [4, 11, 3, 1, 0, 13])] fr h K) n (fs [(14, x14), (4, x4), (11, x11), (3, x3), (1, x1), (0, x0), (13, x13)]) h K =
      p5arrrrrrrlrbw C L (fun x10 h => K .ret (fs [(10, x10)]) h) (fun x4 x11 x3 x1 x0 x13 h => K (.exit 2) (fs [(4, x4), (11, x11), (3, x3), (1, x1), (0, x0), (13, x13)]) h) n x14 x4 x11 x3 x1 x0 x13 h := by
  intro n
  induction n with
  | zero => intros; rfl
  | succ n ih =>
    intros
    simp only [loopK]
    rw [ep5arrrrrrrlrbo]
    simp only [seqK_n, seqK_x, seqK_r, ih]
    rfl
noncomputable def p5arrrrrrrlrb (C : CF) (L : Nat) {β : Type} (x14 : Value) (x4 : Value) (x11 : Value) (x3 : Value) (x1 : Value) (x0 : Value) (x13 : Value) (h : H) (kr : Value → H → Option β) (kx2 : Value → Value → Value → Value → Value → Value → H → Option β) : Option β :=
  p5arrrrrrrlrbw C L kr kx2 L x14 x4 x11 x3 x1 x0 x13 h
theorem ep5arrrrrrrlrb (C : CF) (L : Nat) {β : Type} (x14 : Value) (x4 : Value) (x11 : Value) (x3 : Value) (x1 : Value) (x0 : Value) (x13 : Value) (h : H) (K : Ex → T Value → H → Option β) :
    execK Try.prog C L 0 157 [10] c5arrrrrrrlrb [4, 11, 3, 1, 0, 13] [(2, [4, 11, 3, 1, 0, 13])] (fs [(14, x14), (4, x4), (11, x11), (3, x3), (1, x1), (0, x0), (13, x13)]) h K =
      p5arrrrrrrlrb C L x14 x4 x11 x3 x1 x0 x13 h (fun x10 h => K .ret (fs [(10, x10)]) h) (fun x4 x11 x3 x1 x0 x13 h => K (.exit 2) (fs [(4, x4), (11, x11), (3, x3), (1, x1), (0, x0), (13, x13)]) h) := by
  rw [execK_loop (b := c5arrrrrrrlrbo) (fr1 := (fs [(14, x14), (4, x4), (11, x11), (3, x3), (1, x1), (0, x0), (13, x13)])) (by kernel_rfl) (show live [10] c5arrrrrrrlrbo [] [(2, [4, 11, 3, 1, 0, 13])] = [14, 4, 11, 3, 1, 0, 13] by kernel_rfl) (by kernel_rfl), ep5arrrrrrrlrbw]
  unfold p5arrrrrrrlrb
  rfl
noncomputable def p5arrrrrrrlr (C : CF) (L : Nat) {β : Type} (x14 : Value) (x4 : Value) (x11 : Value) (x3 : Value) (x1 : Value) (x0 : Value) (x13 : Value) (h : H) (kr : Value → H → Option β) (kn : Value → Value → Value → Value → Value → Value → H → Option β) : Option β :=
  p5arrrrrrrlrb C L x14 x4 x11 x3 x1 x0 x13 h kr kn
theorem ep5arrrrrrrlr (C : CF) (L : Nat) {β : Type} (x14 : Value) (x4 : Value) (x11 : Value) (x3 : Value) (x1 : Value) (x0 : Value) (x13 : Value) (h : H) (K : Ex → T Value → H → Option β) :
    execK Try.prog C L 0 157 [10] c5arrrrrrrlr [4, 11, 3, 1, 0, 13] [] (fs [(14, x14), (4, x4), (11, x11), (3, x3), (1, x1), (0, x0), (13, x13)]) h K =
      p5arrrrrrrlr C L x14 x4 x11 x3 x1 x0 x13 h (fun x10 h => K .ret (fs [(10, x10)]) h) (fun x4 x11 x3 x1 x0 x13 h => K .normal (fs [(4, x4), (11, x11), (3, x3), (1, x1), (0, x0), (13, x13)]) h) := by
  rw [execK_block (b := c5arrrrrrrlrb) (id := 2) (by kernel_rfl), ep5arrrrrrrlrb]
  unfold p5arrrrrrrlr
  rfl
noncomputable def p5arrrrrrrl (C : CF) (L : Nat) {β : Type} (x4 : Value) (x11 : Value) (x3 : Value) (x1 : Value) (x0 : Value) (x13 : Value) (h : H) (kr : Value → H → Option β) (kn : Value → Value → Value → Value → Value → Value → H → Option β) : Option β :=
  p5arrrrrrrll C L x4 x11 x3 x1 x0 x13 h (fun x14 x4 x11 x3 x1 x0 x13 h => p5arrrrrrrlr C L x14 x4 x11 x3 x1 x0 x13 h kr kn)
theorem ep5arrrrrrrl (C : CF) (L : Nat) {β : Type} (x4 : Value) (x11 : Value) (x3 : Value) (x1 : Value) (x0 : Value) (x13 : Value) (h : H) (K : Ex → T Value → H → Option β) :
    execK Try.prog C L 0 157 [10] c5arrrrrrrl [4, 11, 3, 1, 0, 13] [] (fs [(4, x4), (11, x11), (3, x3), (1, x1), (0, x0), (13, x13)]) h K =
      p5arrrrrrrl C L x4 x11 x3 x1 x0 x13 h (fun x10 h => K .ret (fs [(10, x10)]) h) (fun x4 x11 x3 x1 x0 x13 h => K .normal (fs [(4, x4), (11, x11), (3, x3), (1, x1), (0, x0), (13, x13)]) h) := by
  rw [execK_seq (a := c5arrrrrrrll) (b := c5arrrrrrrlr) (by kernel_rfl) (show live [10] c5arrrrrrrlr [4, 11, 3, 1, 0, 13] [] = [14, 4, 11, 3, 1, 0, 13] by kernel_rfl), ep5arrrrrrrll]
  unfold p5arrrrrrrl
  exact (congrArg (p5arrrrrrrll C L x4 x11 x3 x1 x0 x13 h) (funext fun x14 => funext fun x4 => funext fun x11 => funext fun x3 => funext fun x1 => funext fun x0 => funext fun x13 => funext fun h => (seqK_n _ _ _).trans (ep5arrrrrrrlr C L x14 x4 x11 x3 x1 x0 x13 h K)))
noncomputable def c5arrrrrrrr : Code := cR c5arrrrrrr
noncomputable def c5arrrrrrrrl : Code := cL c5arrrrrrrr
noncomputable def p5arrrrrrrrl (C : CF) (L : Nat) {β : Type} (x4 : Value) (x11 : Value) (x3 : Value) (x1 : Value) (x0 : Value) (x13 : Value) (h : H) (kn : Value → Value → Value → Value → Value → Value → Value → H → Option β) : Option β :=
  kn x4 x11 x3 x1 x0 (.int .i64 0) x13 h
theorem ep5arrrrrrrrl (C : CF) (L : Nat) {β : Type} (x4 : Value) (x11 : Value) (x3 : Value) (x1 : Value) (x0 : Value) (x13 : Value) (h : H) (K : Ex → T Value → H → Option β) :
    execK Try.prog C L 0 157 [10] c5arrrrrrrrl [4, 11, 3, 1, 0, 15, 13] [] (fs [(4, x4), (11, x11), (3, x3), (1, x1), (0, x0), (13, x13)]) h K =
      p5arrrrrrrrl C L x4 x11 x3 x1 x0 x13 h (fun x4 x11 x3 x1 x0 x15 x13 h => K .normal (fs [(4, x4), (11, x11), (3, x3), (1, x1), (0, x0), (15, x15), (13, x13)]) h) := by
  kernel_rfl
noncomputable def c5arrrrrrrrr : Code := cR c5arrrrrrrr
noncomputable def c5arrrrrrrrrl : Code := cL c5arrrrrrrrr
noncomputable def c5arrrrrrrrrll : Code := cL c5arrrrrrrrrl
noncomputable def p5arrrrrrrrrll (C : CF) (L : Nat) {β : Type} (x4 : Value) (x11 : Value) (x3 : Value) (x1 : Value) (x0 : Value) (x15 : Value) (x13 : Value) (h : H) (kn : Value → Value → Value → Value → Value → Value → Value → H → Option β) : Option β :=
  bnd (A.bin Try.prog .add 3 x4 (.int .i64 1)) fun t119 =>
  kn t119 x11 x3 x1 x0 x15 x13 h
theorem ep5arrrrrrrrrll (C : CF) (L : Nat) {β : Type} (x4 : Value) (x11 : Value) (x3 : Value) (x1 : Value) (x0 : Value) (x15 : Value) (x13 : Value) (h : H) (K : Ex → T Value → H → Option β) :
    execK Try.prog C L 0 157 [10] c5arrrrrrrrrll [16, 11, 3, 1, 0, 15, 13] [] (fs [(4, x4), (11, x11), (3, x3), (1, x1), (0, x0), (15, x15), (13, x13)]) h K =
      p5arrrrrrrrrll C L x4 x11 x3 x1 x0 x15 x13 h (fun x16 x11 x3 x1 x0 x15 x13 h => K .normal (fs [(16, x16), (11, x11), (3, x3), (1, x1), (0, x0), (15, x15), (13, x13)]) h) := by
  kernel_rfl
noncomputable def c5arrrrrrrrrlr : Code := cR c5arrrrrrrrrl
noncomputable def c5arrrrrrrrrlrb : Code := cL c5arrrrrrrrrlr
noncomputable def c5arrrrrrrrrlrbo : Code := cL c5arrrrrrrrrlrb
noncomputable def c5arrrrrrrrrlrbol : Code := cL c5arrrrrrrrrlrbo
noncomputable def p5arrrrrrrrrlrbol (C : CF) (L : Nat) {β : Type} (x16 : Value) (x11 : Value) (x3 : Value) (x1 : Value) (x0 : Value) (x15 : Value) (x13 : Value) (h : H) (kn : Value → Value → Value → Value → Value → Value → Value → H → Option β) (kx4 : Value → Value → H → Option β) : Option β :=
  bnd (A.bin Try.prog .leq 3 x16 (.int .i64 7)) fun t121 =>
  toBK t121 fun b =>
  (bif b then
  kn x16 x11 x3 x1 x0 x15 x13 h
  else
  kx4 x15 x13 h)
theorem ep5arrrrrrrrrlrbol (C : CF) (L : Nat) {β : Type} (x16 : Value) (x11 : Value) (x3 : Value) (x1 : Value) (x0 : Value) (x15 : Value) (x13 : Value) (h : H) (K : Ex → T Value → H → Option β) :
    execK Try.prog C L 0 157 [10] c5arrrrrrrrrlrbol [16, 11, 3, 1, 0, 15, 13] [(4, [15, 13])] (fs [(16, x16), (11, x11), (3, x3), (1, x1), (0, x0), (15, x15), (13, x13)]) h K =
      p5arrrrrrrrrlrbol C L x16 x11 x3 x1 x0 x15 x13 h (fun x16 x11 x3 x1 x0 x15 x13 h => K .normal (fs [(16, x16), (11, x11), (3, x3), (1, x1), (0, x0), (15, x15), (13, x13)]) h) (fun x15 x13 h => K (.exit 4) (fs [(15, x15), (13, x13)]) h) := by
  kernel_rfl
noncomputable def c5arrrrrrrrrlrbor : Code := cR c5arrrrrrrrrlrbo
noncomputable def c5arrrrrrrrrlrborl : Code := cL c5arrrrrrrrrlrbor
noncomputable def c5arrrrrrrrrlrborlb : Code := cL c5arrrrrrrrrlrborl
noncomputable def c5arrrrrrrrrlrborlbl : Code := cL c5arrrrrrrrrlrborlb
noncomputable def p5arrrrrrrrrlrborlbl (C : CF) (L : Nat) {β : Type} (x16 : Value) (x11 : Value) (x3 : Value) (x1 : Value) (x0 : Value) (x15 : Value) (x13 : Value) (h : H) (kn : Value → Value → Value → Value → Value → Value → Value → Value → H → Option β) : Option β :=
  kn (.int .i64 0) x16 x11 x3 x1 x0 x15 x13 h
theorem ep5arrrrrrrrrlrborlbl (C : CF) (L : Nat) {β : Type} (x16 : Value) (x11 : Value) (x3 : Value) (x1 : Value) (x0 : Value) (x15 : Value) (x13 : Value) (h : H) (K : Ex → T Value → H → Option β) :
    execK Try.prog C L 0 157 [10] c5arrrrrrrrrlrborlbl [17, 16, 11, 3, 1, 0, 15, 13] [(5, [16, 11, 3, 1, 0, 15, 13]), (4, [15, 13])] (fs [(16, x16), (11, x11), (3, x3), (1, x1), (0, x0), (15, x15), (13, x13)]) h K =
      p5arrrrrrrrrlrborlbl C L x16 x11 x3 x1 x0 x15 x13 h (fun x17 x16 x11 x3 x1 x0 x15 x13 h => K .normal (fs [(17, x17), (16, x16), (11, x11), (3, x3), (1, x1), (0, x0), (15, x15), (13, x13)]) h) := by
  kernel_rfl
noncomputable def c5arrrrrrrrrlrborlbr : Code := cR c5arrrrrrrrrlrborlb
noncomputable def c5arrrrrrrrrlrborlbrb : Code := cL c5arrrrrrrrrlrborlbr
noncomputable def c5arrrrrrrrrlrborlbrbo : Code := cL c5arrrrrrrrrlrborlbrb
noncomputable def c5arrrrrrrrrlrborlbrbol : Code := cL c5arrrrrrrrrlrborlbrbo
noncomputable def p5arrrrrrrrrlrborlbrbol (C : CF) (L : Nat) {β : Type} (x17 : Value) (x16 : Value) (x11 : Value) (x3 : Value) (x1 : Value) (x0 : Value) (x15 : Value) (x13 : Value) (h : H) (kn : Value → Value → Value → Value → Value → Value → Value → Value → H → Option β) (kx6 : Value → Value → Value → Value → Value → Value → Value → H → Option β) : Option β :=
  bnd (A.bin Try.prog .lss 3 x17 x0) fun t126 =>
  toBK t126 fun b =>
  (bif b then
  kn x17 x16 x11 x3 x1 x0 x15 x13 h
  else
  kx6 x16 x11 x3 x1 x0 x15 x13 h)
theorem ep5arrrrrrrrrlrborlbrbol (C : CF) (L : Nat) {β : Type} (x17 : Value) (x16 : Value) (x11 : Value) (x3 : Value) (x1 : Value) (x0 : Value) (x15 : Value) (x13 : Value) (h : H) (K : Ex → T Value → H → Option β) :
    execK Try.prog C L 0 157 [10] c5arrrrrrrrrlrborlbrbol [17, 16, 11, 3, 1, 0, 15, 13] [(6, [16, 11, 3, 1, 0, 15, 13]), (5, [16, 11, 3, 1, 0, 15, 13]), (4, [15, 13])] (fs [(17, x17), (16, x16), (11, x11), (3, x3), (1, x1), (0, x0), (15, x15), (13, x13)]) h K =
      p5arrrrrrrrrlrborlbrbol C L x17 x16 x11 x3 x1 x0 x15 x13 h (fun x17 x16 x11 x3 x1 x0 x15 x13 h => K .normal (fs [(17, x17), (16, x16), (11, x11), (3, x3), (1, x1), (0, x0), (15, x15), (13, x13)]) h) (fun x16 x11 x3 x1 x0 x15 x13 h => K (.exit 6) (fs [(16, x16), (11, x11), (3, x3), (1, x1), (0, x0), (15, x15), (13, x13)]) h) := by
  kernel_rfl
noncomputable def c5arrrrrrrrrlrborlbrbor : Code := cR c5arrrrrrrrrlrborlbrbo
noncomputable def p5arrrrrrrrrlrborlbrbor (C : CF) (L : Nat) {β : Type} (x17 : Value) (x16 : Value) (x11 : Value) (x3 : Value) (x1 : Value) (x0 : Value) (x15 : Value) (x13 : Value) (h : H) (kr : Value → H → Option β) (kn : Value → Value → Value → Value → Value → Value → Value → Value → H → Option β) : Option β :=
  bnd2 (C 23 [x11, x3, x17, x16] h) fun t133 hq1 =>
  bnd2 (C 29 [x16] hq1) fun t139 hq2 =>
  bnd2 (C 17 [x11, x3, x17, x16, t139] hq2) fun t140 hq3 =>
  toBK t140 fun b =>
  bnd (A.bin Try.prog .lss 3 t133 x1) fun t144 =>
  toBK t144 fun bq1 =>
  bnd (A.bin Try.prog .neq 4 (.bool b) (.bool bq1)) fun t145 =>
  toBK t145 fun bq2 =>
  (bif bq2 then
  kr (.bool false) hq3
  else
  bnd (A.un Try.prog .not (.bool b)) fun t147 =>
  toBK t147 fun bq3 =>
  (bif bq3 then
  bnd (A.bin Try.prog .add 3 x15 (.int .i64 1)) fun t149 =>
  bnd (A.bin Try.prog .add 3 x17 (.int .i64 1)) fun t128 =>
  kn t128 x16 x11 x3 x1 x0 t149 x13 hq3
  else
  bnd (A.bin Try.prog .add 3 x17 (.int .i64 1)) fun t128q1 =>
  kn t128q1 x16 x11 x3 x1 x0 x15 x13 hq3))
theorem ep5arrrrrrrrrlrborlbrbor (C : CF) (L : Nat) {β : Type} (x17 : Value) (x16 : Value) (x11 : Value) (x3 : Value) (x1 : Value) (x0 : Value) (x15 : Value) (x13 : Value) (h : H) (K : Ex → T Value → H → Option β) :
    execK Try.prog C L 0 157 [10] c5arrrrrrrrrlrborlbrbor [17, 16, 11, 3, 1, 0, 15, 13] [(6, [16, 11, 3, 1, 0, 15, 13]), (5, [16, 11, 3, 1, 0, 15, 13]), (4, [15, 13])] (fs [(17, x17), (16, x16), (11, x11), (3, x3), (1, x1), (0, x0), (15, x15), (13, x13)]) h K =
      p5arrrrrrrrrlrborlbrbor C L x17 x16 x11 x3 x1 x0 x15 x13 h (fun x10 h => K .ret (fs [(10, x10)]) h) (fun x17 x16 x11 x3 x1 x0 x15 x13 h => K .normal (fs [(17, x17), (16, x16), (11, x11), (3, x3), (1, x1), (0, x0), (15, x15), (13, x13)]) h) := by
  kernel_rfl
noncomputable def p5arrrrrrrrrlrborlbrbo (C : CF) (L : Nat) {β : Type} (x17 : Value) (x16 : Value) (x11 : Value) (x3 : Value) (x1 : Value) (x0 : Value) (x15 : Value) (x13 : Value) (h : H) (kr : Value → H → Option β) (kn : Value → Value → Value → Value → Value → Value → Value → Value → H → Option β) (kx6 : Value → Value → Value → Value → Value → Value → Value → H → Option β) : Option β :=
  p5arrrrrrrrrlrborlbrbol C L x17 x16 x11 x3 x1 x0 x15 x13 h (fun x17 x16 x11 x3 x1 x0 x15 x13 h => p5arrrrrrrrrlrborlbrbor C L x17 x16 x11 x3 x1 x0 x15 x13 h kr kn) kx6
theorem ep5arrrrrrrrrlrborlbrbo (C : CF) (L : Nat) {β : Type} (x17 : Value) (x16 : Value) (x11 : Value) (x3 : Value) (x1 : Value) (x0 : Value) (x15 : Value) (x13 : Value) (h : H) (K : Ex → T Value → H → Option β) :
    execK Try.prog C L 0 157 [10] c5arrrrrrrrrlrborlbrbo [17, 16, 11, 3, 1, 0, 15, 13] [(6, [16, 11, 3, 1, 0, 15, 13]), (5, [16, 11, 3, 1, 0, 15, 13]), (4, [15, 13])] (fs [(17, x17), (16, x16), (11, x11), (3, x3), (1, x1), (0, x0), (15, x15), (13, x13)]) h K =
      p5arrrrrrrrrlrborlbrbo C L x17 x16 x11 x3 x1 x0 x15 x13 h (fun x10 h => K .ret (fs [(10, x10)]) h) (fun x17 x16 x11 x3 x1 x0 x15 x13 h => K .normal (fs [(17, x17), (16, x16), (11, x11), (3, x3), (1, x1), (0, x0), (15, x15), (13, x13)]) h) (fun x16 x11 x3 x1 x0 x15 x13 h => K (.exit 6) (fs [(16, x16), (11, x11), (3, x3), (1, x1), (0, x0), (15, x15), (13, x13)]) h) := by
  rw [execK_seq (a := c5arrrrrrrrrlrborlbrbol) (b := c5arrrrrrrrrlrborlbrbor) (by kernel_rfl) (show live [10] c5arrrrrrrrrlrborlbrbor [17, 16, 11, 3, 1, 0, 15, 13] [(6, [16, 11, 3, 1, 0, 15, 13]), (5, [16, 11, 3, 1, 0, 15, 13]), (4, [15, 13])] = [17, 16, 11, 3, 1, 0, 15, 13] by kernel_rfl), ep5arrrrrrrrrlrborlbrbol]
  unfold p5arrrrrrrrrlrborlbrbo
  exact (congr (congrArg (p5arrrrrrrrrlrborlbrbol C L x17 x16 x11 x3 x1 x0 x15 x13 h) (funext fun x17 => funext fun x16 => funext fun x11 => funext fun x3 => funext fun x1 => funext fun x0 => funext fun x15 => funext fun x13 => funext fun h => (seqK_n _ _ _).trans (ep5arrrrrrrrrlrborlbrbor C L x17 x16 x11 x3 x1 x0 x15 x13 h K))) (funext fun x16 => funext fun x11 => funext fun x3 => funext fun x1 => funext fun x0 => funext fun x15 => funext fun x13 => funext fun h => seqK_x _ _ _ _))
noncomputable def p5arrrrrrrrrlrborlbrbw (C : CF) (L : Nat) {β : Type} (kr : Value → H → Option β) (kx6 : Value → Value → Value → Value → Value → Value → Value → H → Option β) : Nat → Value → Value → Value → Value → Value → Value → Value → Value → H → Option β
  | 0, _, _, _, _, _, _, _, _, _ => none
  | n + 1, x17, x16, x11, x3, x1, x0, x15, x13, h => p5arrrrrrrrrlrborlbrbo C L x17 x16 x11 x3 x1 x0 x15 x13 h kr (fun x17 x16 x11 x3 x1 x0 x15 x13 h => p5arrrrrrrrrlrborlbrbw C L kr kx6 n x17 x16 x11 x3 x1 x0 x15 x13 h) kx6
theorem ep5arrrrrrrrrlrborlbrbw (C : CF) (L : Nat) {β : Type} (K : Ex → T Value → H → Option β) : ∀ (n : Nat) (x17 : Value) (x16 : Value) (x11 : Value) (x3 : Value) (x1 : Value) (x0 : Value) (x15 : Value) (x13 : Value) (h : H),
    loopK (fun fr h K => execK Try.prog C L 0 157 [10] c5arrrrrrrrrlrborlbrbo [17, 16, 11, 3, 1, 0, 15, 13] [(6, [16, 11, 3, 1, 0, 15, 13]), (5, [16, 11, 3, 1, 0, 15, 13]), (4, [15, 13])] fr h K) n (fs [(17, x17), (16, x16), (11, x11), (3, x3), (1, x1), (0, x0), (15, x15), (13, x13)]) h K =
      p5arrrrrrrrrlrborlbrbw C L (fun x10 h => K .ret (fs [(10, x10)]) h) (fun x16 x11 x3 x1 x0 x15 x13 h => K (.exit 6) (fs [(16, x16), (11, x11), (3, x3), (1, x1), (0, x0), (15, x15), (13, x13)]) h) n x17 x16 x11 x3 x1 x0 x15 x13 h := by
  intro n
  induction n with
  | zero => intros; rfl
  | succ n ih =>
    intros
    simp only [loopK]
    rw [ep5arrrrrrrrrlrborlbrbo]
    simp only [seqK_n, seqK_x, seqK_r, ih]
    rfl
noncomputable def p5arrrrrrrrrlrborlbrb (C : CF) (L : Nat) {β : Type} (x17 : Value) (x16 : Value) (x11 : Value) (x3 : Value) (x1 : Value) (x0 : Value) (x15 : Value) (x13 : Value) (h : H) (kr : Value → H → Option β) (kx6 : Value → Value → Value → Value → Value → Value → Value → H → Option β) : Option β :=
  p5arrrrrrrrrlrborlbrbw C L kr kx6 L x17 x16 x11 x3 x1 x0 x15 x13 h
theorem ep5arrrrrrrrrlrborlbrb (C : CF) (L : Nat) {β : Type} (x17 : Value) (x16 : Value) (x11 : Value) (x3 : Value) (x1 : Value) (x0 : Value) (x15 : Value) (x13 : Value) (h : H) (K : Ex → T Value → H → Option β) :
    execK Try.prog C L 0 157 [10] c5arrrrrrrrrlrborlbrb [16, 11, 3, 1, 0, 15, 13] [(6, [16, 11, 3, 1, 0, 15, 13]), (5, [16, 11, 3, 1, 0, 15, 13]), (4, [15, 13])] (fs [(17, x17), (16, x16), (11, x11), (3, x3), (1, x1), (0, x0), (15, x15), (13, x13)]) h K =
      p5arrrrrrrrrlrborlbrb C L x17 x16 x11 x3 x1 x0 x15 x13 h (fun x10 h => K .ret (fs [(10, x10)]) h) (fun x16 x11 x3 x1 x0 x15 x13 h => K (.exit 6) (fs [(16, x16), (11, x11), (3, x3), (1, x1), (0, x0), (15, x15), (13, x13)]) h) := by
  rw [execK_loop (b := c5arrrrrrrrrlrborlbrbo) (fr1 := (fs [(17, x17), (16, x16), (11, x11), (3, x3), (1, x1), (0, x0), (15, x15), (13, x13)])) (by kernel_rfl) (show live [10] c5arrrrrrrrrlrborlbrbo [] [(6, [16, 11, 3, 1, 0, 15, 13]), (5, [16, 11, 3, 1, 0, 15, 13]), (4, [15, 13])] = [17, 16, 11, 3, 1, 0, 15, 13] by kernel_rfl) (by kernel_rfl), ep5arrrrrrrrrlrborlbrbw]
  unfold p5arrrrrrrrrlrborlbrb
  rfl
noncomputable def p5arrrrrrrrrlrborlbr (C : CF) (L : Nat) {β : Type} (x17 : Value) (x16 : Value) (x11 : Value) (x3 : Value) (x1 : Value) (x0 : Value) (x15 : Value) (x13 : Value) (h : H) (kr : Value → H → Option β) (kn : Value → Value → Value → Value → Value → Value → Value → H → Option β) : Option β :=
  p5arrrrrrrrrlrborlbrb C L x17 x16 x11 x3 x1 x0 x15 x13 h kr kn
theorem ep5arrrrrrrrrlrborlbr (C : CF) (L : Nat) {β : Type} (x17 : Value) (x16 : Value) (x11 : Value) (x3 : Value) (x1 : Value) (x0 : Value) (x15 : Value) (x13 : Value) (h : H) (K : Ex → T Value → H → Option β) :
    execK Try.prog C L 0 157 [10] c5arrrrrrrrrlrborlbr [16, 11, 3, 1, 0, 15, 13] [(5, [16, 11, 3, 1, 0, 15, 13]), (4, [15, 13])] (fs [(17, x17), (16, x16), (11, x11), (3, x3), (1, x1), (0, x0), (15, x15), (13, x13)]) h K =
      p5arrrrrrrrrlrborlbr C L x17 x16 x11 x3 x1 x0 x15 x13 h (fun x10 h => K .ret (fs [(10, x10)]) h) (fun x16 x11 x3 x1 x0 x15 x13 h => K .normal (fs [(16, x16), (11, x11), (3, x3), (1, x1), (0, x0), (15, x15), (13, x13)]) h) := by
  rw [execK_block (b := c5arrrrrrrrrlrborlbrb) (id := 6) (by kernel_rfl), ep5arrrrrrrrrlrborlbrb]
  unfold p5arrrrrrrrrlrborlbr
  rfl
noncomputable def p5arrrrrrrrrlrborlb (C : CF) (L : Nat) {β : Type} (x16 : Value) (x11 : Value) (x3 : Value) (x1 : Value) (x0 : Value) (x15 : Value) (x13 : Value) (h : H) (kr : Value → H → Option β) (kn : Value → Value → Value → Value → Value → Value → Value → H → Option β) : Option β :=
  p5arrrrrrrrrlrborlbl C L x16 x11 x3 x1 x0 x15 x13 h (fun x17 x16 x11 x3 x1 x0 x15 x13 h => p5arrrrrrrrrlrborlbr C L x17 x16 x11 x3 x1 x0 x15 x13 h kr kn)
theorem ep5arrrrrrrrrlrborlb (C : CF) (L : Nat) {β : Type} (x16 : Value) (x11 : Value) (x3 : Value) (x1 : Value) (x0 : Value) (x15 : Value) (x13 : Value) (h : H) (K : Ex → T Value → H → Option β) :
    execK Try.prog C L 0 157 [10] c5arrrrrrrrrlrborlb [16, 11, 3, 1, 0, 15, 13] [(5, [16, 11, 3, 1, 0, 15, 13]), (4, [15, 13])] (fs [(16, x16), (11, x11), (3, x3), (1, x1), (0, x0), (15, x15), (13, x13)]) h K =
      p5arrrrrrrrrlrborlb C L x16 x11 x3 x1 x0 x15 x13 h (fun x10 h => K .ret (fs [(10, x10)]) h) (fun x16 x11 x3 x1 x0 x15 x13 h => K .normal (fs [(16, x16), (11, x11), (3, x3), (1, x1), (0, x0), (15, x15), (13, x13)]) h) := by
  rw [execK_seq (a := c5arrrrrrrrrlrborlbl) (b := c5arrrrrrrrrlrborlbr) (by kernel_rfl) (show live [10] c5arrrrrrrrrlrborlbr [16, 11, 3, 1, 0, 15, 13] [(5, [16, 11, 3, 1, 0, 15, 13]), (4, [15, 13])] = [17, 16, 11, 3, 1, 0, 15, 13] by kernel_rfl), ep5arrrrrrrrrlrborlbl]
  unfold p5arrrrrrrrrlrborlb
  exact (congrArg (p5arrrrrrrrrlrborlbl C L x16 x11 x3 x1 x0 x15 x13 h) (funext fun x17 => funext fun x16 => funext fun x11 => funext fun x3 => funext fun x1 => funext fun x0 => funext fun x15 => funext fun x13 => funext fun h => (seqK_n _ _ _).trans (ep5arrrrrrrrrlrborlbr C L x17 x16 x11 x3 x1 x0 x15 x13 h K)))
noncomputable def p5arrrrrrrrrlrborl (C : CF) (L : Nat) {β : Type} (x16 : Value) (x11 : Value) (x3 : Value) (x1 : Value) (x0 : Value) (x15 : Value) (x13 : Value) (h : H) (kr : Value → H → Option β) (kn : Value → Value → Value → Value → Value → Value → Value → H → Option β) : Option β :=
  p5arrrrrrrrrlrborlb C L x16 x11 x3 x1 x0 x15 x13 h kr kn
theorem ep5arrrrrrrrrlrborl (C : CF) (L : Nat) {β : Type} (x16 : Value) (x11 : Value) (x3 : Value) (x1 : Value) (x0 : Value) (x15 : Value) (x13 : Value) (h : H) (K : Ex → T Value → H → Option β) :
    execK Try.prog C L 0 157 [10] c5arrrrrrrrrlrborl [16, 11, 3, 1, 0, 15, 13] [(4, [15, 13])] (fs [(16, x16), (11, x11), (3, x3), (1, x1), (0, x0), (15, x15), (13, x13)]) h K =
      p5arrrrrrrrrlrborl C L x16 x11 x3 x1 x0 x15 x13 h (fun x10 h => K .ret (fs [(10, x10)]) h) (fun x16 x11 x3 x1 x0 x15 x13 h => K .normal (fs [(16, x16), (11, x11), (3, x3), (1, x1), (0, x0), (15, x15), (13, x13)]) h) := by
  rw [execK_block (b := c5arrrrrrrrrlrborlb) (id := 5) (by kernel_rfl), ep5arrrrrrrrrlrborlb]
  unfold p5arrrrrrrrrlrborl
  rfl
noncomputable def c5arrrrrrrrrlrborr : Code := cR c5arrrrrrrrrlrbor
noncomputable def p5arrrrrrrrrlrborr (C : CF) (L : Nat) {β : Type} (x16 : Value) (x11 : Value) (x3 : Value) (x1 : Value) (x0 : Value) (x15 : Value) (x13 : Value) (h : H) (kn : Value → Value → Value → Value → Value → Value → Value → H → Option β) : Option β :=
  bnd (A.bin Try.prog .add 3 x16 (.int .i64 1)) fun t123 =>
  kn t123 x11 x3 x1 x0 x15 x13 h
theorem ep5arrrrrrrrrlrborr (C : CF) (L : Nat) {β : Type} (x16 : Value) (x11 : Value) (x3 : Value) (x1 : Value) (x0 : Value) (x15 : Value) (x13 : Value) (h : H) (K : Ex → T Value → H → Option β) :
    execK Try.prog C L 0 157 [10] c5arrrrrrrrrlrborr [16, 11, 3, 1, 0, 15, 13] [(4, [15, 13])] (fs [(16, x16), (11, x11), (3, x3), (1, x1), (0, x0), (15, x15), (13, x13)]) h K =
      p5arrrrrrrrrlrborr C L x16 x11 x3 x1 x0 x15 x13 h (fun x16 x11 x3 x1 x0 x15 x13 h => K .normal (fs [(16, x16), (11, x11), (3, x3), (1, x1), (0, x0), (15, x15), (13, x13)]) h) := by
  kernel_rfl
noncomputable def p5arrrrrrrrrlrbor (C : CF) (L : Nat) {β : Type} (x16 : Value) (x11 : Value) (x3 : Value) (x1 : Value) (x0 : Value) (x15 : Value) (x13 : Value) (h : H) (kn : Value → Value → Value → Value → Value → Value → Value → H → Option β) (kr : Value → H → Option β) : Option β :=
  p5arrrrrrrrrlrborl C L x16 x11 x3 x1 x0 x15 x13 h kr (fun x16 x11 x3 x1 x0 x15 x13 h => p5arrrrrrrrrlrborr C L x16 x11 x3 x1 x0 x15 x13 h kn)
theorem ep5arrrrrrrrrlrbor (C : CF) (L : Nat) {β : Type} (x16 : Value) (x11 : Value) (x3 : Value) (x1 : Value) (x0 : Value) (x15 : Value) (x13 : Value) (h : H) (K : Ex → T Value → H → Option β) :
    execK Try.prog C L 0 157 [10] c5arrrrrrrrrlrbor [16, 11, 3, 1, 0, 15, 13] [(4, [15, 13])] (fs [(16, x16), (11, x11), (3, x3), (1, x1), (0, x0), (15, x15), (13, x13)]) h K =
      p5arrrrrrrrrlrbor C L x16 x11 x3 x1 x0 x15 x13 h (fun x16 x11 x3 x1 x0 x15 x13 h => K .normal (fs [(16, x16), (11, x11), (3, x3), (1, x1), (0, x0), (15, x15), (13, x13)]) h) (fun x10 h => K .ret (fs [(10, x10)]) h) := by
  rw [execK_seq (a := c5arrrrrrrrrlrborl) (b := c5arrrrrrrrrlrborr) (by kernel_rfl) (show live [10] c5arrrrrrrrrlrborr [16, 11, 3, 1, 0, 15, 13] [(4, [15, 13])] = [16, 11, 3, 1, 0, 15, 13] by kernel_rfl), ep5arrrrrrrrrlrborl]
  unfold p5arrrrrrrrrlrbor
  exact (congr (congrArg (p5arrrrrrrrrlrborl C L x16 x11 x3 x1 x0 x15 x13 h) (funext fun x10 => funext fun h => seqK_r _ _ _)) (funext fun x16 => funext fun x11 => funext fun x3 => funext fun x1 => funext fun x0 => funext fun x15 => funext fun x13 => funext fun h => (seqK_n _ _ _).trans (ep5arrrrrrrrrlrborr C L x16 x11 x3 x1 x0 x15 x13 h K)))
noncomputable def p5arrrrrrrrrlrbo (C : CF) (L : Nat) {β : Type} (x16 : Value) (x11 : Value) (x3 : Value) (x1 : Value) (x0 : Value) (x15 : Value) (x13 : Value) (h : H) (kn : Value → Value → Value → Value → Value → Value → Value → H → Option β) (kr : Value → H → Option β) (kx4 : Value → Value → H → Option β) : Option β :=
  p5arrrrrrrrrlrbol C L x16 x11 x3 x1 x0 x15 x13 h (fun x16 x11 x3 x1 x0 x15 x13 h => p5arrrrrrrrrlrbor C L x16 x11 x3 x1 x0 x15 x13 h kn kr) kx4
theorem ep5arrrrrrrrrlrbo (C : CF) (L : Nat) {β : Type} (x16 : Value) (x11 : Value) (x3 : Value) (x1 : Value) (x0 : Value) (x15 : Value) (x13 : Value) (h : H) (K : Ex → T Value → H → Option β) :
    execK Try.prog C L 0 157 [10] c5arrrrrrrrrlrbo [16, 11, 3, 1, 0, 15, 13] [(4, [15, 13])] (fs [(16, x16), (11, x11), (3, x3), (1, x1), (0, x0), (15, x15), (13, x13)]) h K =
      p5arrrrrrrrrlrbo C L x16 x11 x3 x1 x0 x15 x13 h (fun x16 x11 x3 x1 x0 x15 x13 h => K .normal (fs [(16, x16), (11, x11), (3, x3), (1, x1), (0, x0), (15, x15), (13, x13)]) h) (fun x10 h => K .ret (fs [(10, x10)]) h) (fun x15 x13 h => K (.exit 4) (fs [(15, x15), (13, x13)]) h) := by
  rw [execK_seq (a := c5arrrrrrrrrlrbol) (b := c5arrrrrrrrrlrbor) (by kernel_rfl) (show live [10] c5arrrrrrrrrlrbor [16, 11, 3, 1, 0, 15, 13] [(4, [15, 13])] = [16, 11, 3, 1, 0, 15, 13] by kernel_rfl), ep5arrrrrrrrrlrbol]
  unfold p5arrrrrrrrrlrbo
  exact (congr (congrArg (p5arrrrrrrrrlrbol C L x16 x11 x3 x1 x0 x15 x13 h) (funext fun x16 => funext fun x11 => funext fun x3 => funext fun x1 => funext fun x0 => funext fun x15 => funext fun x13 => funext fun h => (seqK_n _ _ _).trans (ep5arrrrrrrrrlrbor C L x16 x11 x3 x1 x0 x15 x13 h K))) (funext fun x15 => funext fun x13 => funext fun h => seqK_x _ _ _ _))
noncomputable def p5arrrrrrrrrlrbw (C : CF) (L : Nat) {β : Type} (kr : Value → H → Option β) (kx4 : Value → Value → H → Option β) : Nat → Value → Value → Value → Value → Value → Value → Value → H → Option β
  | 0, _, _, _, _, _, _, _, _ => none
  | n + 1, x16, x11, x3, x1, x0, x15, x13, h => p5arrrrrrrrrlrbo C L x16 x11 x3 x1 x0 x15 x13 h (fun x16 x11 x3 x1 x0 x15 x13 h => p5arrrrrrrrrlrbw C L kr kx4 n x16 x11 x3 x1 x0 x15 x13 h) kr kx4
theorem ep5arrrrrrrrrlrbw (C : CF) (L : Nat) {β : Type} (K : Ex → T Value → H → Option β) : ∀ (n : Nat) (x16 : Value) (x11 : Value) (x3 : Value) (x1 : Value) (x0 : Value) (x15 : Value) (x13 : Value) (h : H),
    loopK (fun fr h K => execK Try.prog C L 0 157 [10] c5arrrrrrrrrlrbo [16, 11, 3, 1, 0, 15, 13] [(4, [15, 13])] fr h K) n (fs [(16, x16), (11, x11), (3, x3), (1, x1), (0, x0), (15, x15), (13, x13)]) h K =
      p5arrrrrrrrrlrbw C L (fun x10 h => K .ret (fs [(10, x10)]) h) (fun x15 x13 h => K (.exit 4) (fs [(15, x15), (13, x13)]) h) n x16 x11 x3 x1 x0 x15 x13 h := by
  intro n
  induction n with
  | zero => intros; rfl
  | succ n ih =>
    intros
    simp only [loopK]
    rw [ep5arrrrrrrrrlrbo]
    simp only [seqK_n, seqK_x, seqK_r, ih]
    rfl
noncomputable def p5arrrrrrrrrlrb (C : CF) (L : Nat) {β : Type} (x16 : Value) (x11 : Value) (x3 : Value) (x1 : Value) (x0 : Value) (x15 : Value) (x13 : Value) (h : H) (kr : Value → H → Option β) (kx4 : Value → Value → H → Option β) : Option β :=
  p5arrrrrrrrrlrbw C L kr kx4 L x16 x11 x3 x1 x0 x15 x13 h
theorem ep5arrrrrrrrrlrb (C : CF) (L : Nat) {β : Type} (x16 : Value) (x11 : Value) (x3 : Value) (x1 : Value) (x0 : Value) (x15 : Value) (x13 : Value) (h : H) (K : Ex → T Value → H → Option β) :
    execK Try.prog C L 0 157 [10] c5arrrrrrrrrlrb [15, 13] [(4, [15, 13])] (fs [(16, x16), (11, x11), (3, x3), (1, x1), (0, x0), (15, x15), (13, x13)]) h K =
      p5arrrrrrrrrlrb C L x16 x11 x3 x1 x0 x15 x13 h (fun x10 h => K .ret (fs [(10, x10)]) h) (fun x15 x13 h => K (.exit 4) (fs [(15, x15), (13, x13)]) h) := by
  rw [execK_loop (b := c5arrrrrrrrrlrbo) (fr1 := (fs [(16, x16), (11, x11), (3, x3), (1, x1), (0, x0), (15, x15), (13, x13)])) (by kernel_rfl) (show live [10] c5arrrrrrrrrlrbo [] [(4, [15, 13])] = [16, 11, 3, 1, 0, 15, 13] by kernel_rfl) (by kernel_rfl), ep5arrrrrrrrrlrbw]
  unfold p5arrrrrrrrrlrb
  rfl
noncomputable def p5arrrrrrrrrlr (C : CF) (L : Nat) {β : Type} (x16 : Value) (x11 : Value) (x3 : Value) (x1 : Value) (x0 : Value) (x15 : Value) (x13 : Value) (h : H) (kr : Value → H → Option β) (kn : Value → Value → H → Option β) : Option β :=
  p5arrrrrrrrrlrb C L x16 x11 x3 x1 x0 x15 x13 h kr kn
theorem ep5arrrrrrrrrlr (C : CF) (L : Nat) {β : Type} (x16 : Value) (x11 : Value) (x3 : Value) (x1 : Value) (x0 : Value) (x15 : Value) (x13 : Value) (h : H) (K : Ex → T Value → H → Option β) :
    execK Try.prog C L 0 157 [10] c5arrrrrrrrrlr [15, 13] [] (fs [(16, x16), (11, x11), (3, x3), (1, x1), (0, x0), (15, x15), (13, x13)]) h K =
      p5arrrrrrrrrlr C L x16 x11 x3 x1 x0 x15 x13 h (fun x10 h => K .ret (fs [(10, x10)]) h) (fun x15 x13 h => K .normal (fs [(15, x15), (13, x13)]) h) := by
  rw [execK_block (b := c5arrrrrrrrrlrb) (id := 4) (by kernel_rfl), ep5arrrrrrrrrlrb]
  unfold p5arrrrrrrrrlr
  rfl
noncomputable def p5arrrrrrrrrl (C : CF) (L : Nat) {β : Type} (x4 : Value) (x11 : Value) (x3 : Value) (x1 : Value) (x0 : Value) (x15 : Value) (x13 : Value) (h : H) (kr : Value → H → Option β) (kn : Value → Value → H → Option β) : Option β :=
  p5arrrrrrrrrll C L x4 x11 x3 x1 x0 x15 x13 h (fun x16 x11 x3 x1 x0 x15 x13 h => p5arrrrrrrrrlr C L x16 x11 x3 x1 x0 x15 x13 h kr kn)
theorem ep5arrrrrrrrrl (C : CF) (L : Nat) {β : Type} (x4 : Value) (x11 : Value) (x3 : Value) (x1 : Value) (x0 : Value) (x15 : Value) (x13 : Value) (h : H) (K : Ex → T Value → H → Option β) :
    execK Try.prog C L 0 157 [10] c5arrrrrrrrrl [15, 13] [] (fs [(4, x4), (11, x11), (3, x3), (1, x1), (0, x0), (15, x15), (13, x13)]) h K =
      p5arrrrrrrrrl C L x4 x11 x3 x1 x0 x15 x13 h (fun x10 h => K .ret (fs [(10, x10)]) h) (fun x15 x13 h => K .normal (fs [(15, x15), (13, x13)]) h) := by
  rw [execK_seq (a := c5arrrrrrrrrll) (b := c5arrrrrrrrrlr) (by kernel_rfl) (show live [10] c5arrrrrrrrrlr [15, 13] [] = [16, 11, 3, 1, 0, 15, 13] by kernel_rfl), ep5arrrrrrrrrll]
  unfold p5arrrrrrrrrl
  exact (congrArg (p5arrrrrrrrrll C L x4 x11 x3 x1 x0 x15 x13 h) (funext fun x16 => funext fun x11 => funext fun x3 => funext fun x1 => funext fun x0 => funext fun x15 => funext fun x13 => funext fun h => (seqK_n _ _ _).trans (ep5arrrrrrrrrlr C L x16 x11 x3 x1 x0 x15 x13 h K)))
noncomputable def c5arrrrrrrrrr : Code := cR c5arrrrrrrrr
noncomputable def p5arrrrrrrrrr (C : CF) (L : Nat) {β : Type} (x15 : Value) (x13 : Value) (h : H) (kr : Value → H → Option β) : Option β :=
  bnd (A.bin Try.prog .eql 3 x15 (.int .i64 0)) fun t151 =>
  toBK t151 fun b =>
  toBK x13 fun bq1 =>
  bnd (A.bin Try.prog .eql 4 (.bool b) (.bool bq1)) fun t153 =>
  toBK t153 fun bq2 =>
  (bif bq2 then
  bnd2 (C 9 [] h) fun t155 hq1 =>
  toBK t155 fun bq3 =>
  kr (.bool bq3) hq1
  else
  kr (.bool false) h)
theorem ep5arrrrrrrrrr (C : CF) (L : Nat) {β : Type} (x15 : Value) (x13 : Value) (h : H) (K : Ex → T Value → H → Option β) :
    execK Try.prog C L 0 157 [10] c5arrrrrrrrrr [10] [] (fs [(15, x15), (13, x13)]) h K =
      p5arrrrrrrrrr C L x15 x13 h (fun x10 h => K .ret (fs [(10, x10)]) h) := by
  kernel_rfl
noncomputable def p5arrrrrrrrr (C : CF) (L : Nat) {β : Type} (x4 : Value) (x11 : Value) (x3 : Value) (x1 : Value) (x0 : Value) (x15 : Value) (x13 : Value) (h : H) (kr : Value → H → Option β) : Option β :=
  p5arrrrrrrrrl C L x4 x11 x3 x1 x0 x15 x13 h kr (fun x15 x13 h => p5arrrrrrrrrr C L x15 x13 h kr)
theorem ep5arrrrrrrrr (C : CF) (L : Nat) {β : Type} (x4 : Value) (x11 : Value) (x3 : Value) (x1 : Value) (x0 : Value) (x15 : Value) (x13 : Value) (h : H) (K : Ex → T Value → H → Option β) :
    execK Try.prog C L 0 157 [10] c5arrrrrrrrr [10] [] (fs [(4, x4), (11, x11), (3, x3), (1, x1), (0, x0), (15, x15), (13, x13)]) h K =
      p5arrrrrrrrr C L x4 x11 x3 x1 x0 x15 x13 h (fun x10 h => K .ret (fs [(10, x10)]) h) := by
  rw [execK_seq (a := c5arrrrrrrrrl) (b := c5arrrrrrrrrr) (by kernel_rfl) (show live [10] c5arrrrrrrrrr [10] [] = [15, 13] by kernel_rfl), ep5arrrrrrrrrl]
  unfold p5arrrrrrrrr
  exact (congr (congrArg (p5arrrrrrrrrl C L x4 x11 x3 x1 x0 x15 x13 h) (funext fun x10 => funext fun h => seqK_r _ _ _)) (funext fun x15 => funext fun x13 => funext fun h => (seqK_n _ _ _).trans (ep5arrrrrrrrrr C L x15 x13 h K)))
noncomputable def p5arrrrrrrr (C : CF) (L : Nat) {β : Type} (x4 : Value) (x11 : Value) (x3 : Value) (x1 : Value) (x0 : Value) (x13 : Value) (h : H) (kr : Value → H → Option β) : Option β :=
  p5arrrrrrrrl C L x4 x11 x3 x1 x0 x13 h (fun x4 x11 x3 x1 x0 x15 x13 h => p5arrrrrrrrr C L x4 x11 x3 x1 x0 x15 x13 h kr)
theorem ep5arrrrrrrr (C : CF) (L : Nat) {β : Type} (x4 : Value) (x11 : Value) (x3 : Value) (x1 : Value) (x0 : Value) (x13 : Value) (h : H) (K : Ex → T Value → H → Option β) :
    execK Try.prog C L 0 157 [10] c5arrrrrrrr [10] [] (fs [(4, x4), (11, x11), (3, x3), (1, x1), (0, x0), (13, x13)]) h K =
      p5arrrrrrrr C L x4 x11 x3 x1 x0 x13 h (fun x10 h => K .ret (fs [(10, x10)]) h) := by
  rw [execK_seq (a := c5arrrrrrrrl) (b := c5arrrrrrrrr) (by kernel_rfl) (show live [10] c5arrrrrrrrr [10] [] = [4, 11, 3, 1, 0, 15, 13] by kernel_rfl), ep5arrrrrrrrl]
  unfold p5arrrrrrrr
  exact (congrArg (p5arrrrrrrrl C L x4 x11 x3 x1 x0 x13 h) (funext fun x4 => funext fun x11 => funext fun x3 => funext fun x1 => funext fun x0 => funext fun x15 => funext fun x13 => funext fun h => (seqK_n _ _ _).trans (ep5arrrrrrrrr C L x4 x11 x3 x1 x0 x15 x13 h K)))
noncomputable def p5arrrrrrr (C : CF) (L : Nat) {β : Type} (x4 : Value) (x11 : Value) (x3 : Value) (x1 : Value) (x0 : Value) (x13 : Value) (h : H) (kr : Value → H → Option β) : Option β :=
  p5arrrrrrrl C L x4 x11 x3 x1 x0 x13 h kr (fun x4 x11 x3 x1 x0 x13 h => p5arrrrrrrr C L x4 x11 x3 x1 x0 x13 h kr)
theorem ep5arrrrrrr (C : CF) (L : Nat) {β : Type} (x4 : Value) (x11 : Value) (x3 : Value) (x1 : Value) (x0 : Value) (x13 : Value) (h : H) (K : Ex → T Value → H → Option β) :
    execK Try.prog C L 0 157 [10] c5arrrrrrr [10] [] (fs [(4, x4), (11, x11), (3, x3), (1, x1), (0, x0), (13, x13)]) h K =
      p5arrrrrrr C L x4 x11 x3 x1 x0 x13 h (fun x10 h => K .ret (fs [(10, x10)]) h) := by
  rw [execK_seq (a := c5arrrrrrrl) (b := c5arrrrrrrr) (by kernel_rfl) (show live [10] c5arrrrrrrr [10] [] = [4, 11, 3, 1, 0, 13] by kernel_rfl), ep5arrrrrrrl]
  unfold p5arrrrrrr
  exact (congr (congrArg (p5arrrrrrrl C L x4 x11 x3 x1 x0 x13 h) (funext fun x10 => funext fun h => seqK_r _ _ _)) (funext fun x4 => funext fun x11 => funext fun x3 => funext fun x1 => funext fun x0 => funext fun x13 => funext fun h => (seqK_n _ _ _).trans (ep5arrrrrrrr C L x4 x11 x3 x1 x0 x13 h K)))
noncomputable def p5arrrrrr (C : CF) (L : Nat) {β : Type} (x4 : Value) (x11 : Value) (x3 : Value) (x1 : Value) (x0 : Value) (x13 : Value) (h : H) (kr : Value → H → Option β) : Option β :=
  p5arrrrrrl C L x4 x11 x3 x1 x0 x13 h kr (fun x4 x11 x3 x1 x0 x13 h => p5arrrrrrr C L x4 x11 x3 x1 x0 x13 h kr)
theorem ep5arrrrrr (C : CF) (L : Nat) {β : Type} (x4 : Value) (x11 : Value) (x3 : Value) (x1 : Value) (x0 : Value) (x13 : Value) (h : H) (K : Ex → T Value → H → Option β) :
    execK Try.prog C L 0 157 [10] c5arrrrrr [10] [] (fs [(4, x4), (11, x11), (3, x3), (1, x1), (0, x0), (13, x13)]) h K =
      p5arrrrrr C L x4 x11 x3 x1 x0 x13 h (fun x10 h => K .ret (fs [(10, x10)]) h) := by
  rw [execK_seq (a := c5arrrrrrl) (b := c5arrrrrrr) (by kernel_rfl) (show live [10] c5arrrrrrr [10] [] = [4, 11, 3, 1, 0, 13] by kernel_rfl), ep5arrrrrrl]
  unfold p5arrrrrr
  exact (congr (congrArg (p5arrrrrrl C L x4 x11 x3 x1 x0 x13 h) (funext fun x10 => funext fun h => seqK_r _ _ _)) (funext fun x4 => funext fun x11 => funext fun x3 => funext fun x1 => funext fun x0 => funext fun x13 => funext fun h => (seqK_n _ _ _).trans (ep5arrrrrrr C L x4 x11 x3 x1 x0 x13 h K)))
noncomputable def p5arrrrr (C : CF) (L : Nat) {β : Type} (x4 : Value) (x11 : Value) (x3 : Value) (x1 : Value) (x0 : Value) (h : H) (kr : Value → H → Option β) : Option β :=
  p5arrrrrl C L x4 x11 x3 x1 x0 h (fun x4 x11 x3 x1 x0 x13 h => p5arrrrrr C L x4 x11 x3 x1 x0 x13 h kr)
theorem ep5arrrrr (C : CF) (L : Nat) {β : Type} (x4 : Value) (x11 : Value) (x3 : Value) (x1 : Value) (x0 : Value) (h : H) (K : Ex → T Value → H → Option β) :
    execK Try.prog C L 0 157 [10] c5arrrrr [10] [] (fs [(4, x4), (11, x11), (3, x3), (1, x1), (0, x0)]) h K =
      p5arrrrr C L x4 x11 x3 x1 x0 h (fun x10 h => K .ret (fs [(10, x10)]) h) := by
  rw [execK_seq (a := c5arrrrrl) (b := c5arrrrrr) (by kernel_rfl) (show live [10] c5arrrrrr [10] [] = [4, 11, 3, 1, 0, 13] by kernel_rfl), ep5arrrrrl]
  unfold p5arrrrr
  exact (congrArg (p5arrrrrl C L x4 x11 x3 x1 x0 h) (funext fun x4 => funext fun x11 => funext fun x3 => funext fun x1 => funext fun x0 => funext fun x13 => funext fun h => (seqK_n _ _ _).trans (ep5arrrrrr C L x4 x11 x3 x1 x0 x13 h K)))
noncomputable def p5arrrr (C : CF) (L : Nat) {β : Type} (x2 : Value) (x4 : Value) (x11 : Value) (x3 : Value) (x1 : Value) (x0 : Value) (h : H) (kr : Value → H → Option β) : Option β :=
  p5arrrrl C L x2 x4 x11 x3 x1 x0 h (fun x4 x11 x3 x1 x0 h => p5arrrrr C L x4 x11 x3 x1 x0 h kr)
theorem ep5arrrr (C : CF) (L : Nat) {β : Type} (x2 : Value) (x4 : Value) (x11 : Value) (x3 : Value) (x1 : Value) (x0 : Value) (h : H) (K : Ex → T Value → H → Option β) :
    execK Try.prog C L 0 157 [10] c5arrrr [10] [] (fs [(2, x2), (4, x4), (11, x11), (3, x3), (1, x1), (0, x0)]) h K =
      p5arrrr C L x2 x4 x11 x3 x1 x0 h (fun x10 h => K .ret (fs [(10, x10)]) h) := by
  rw [execK_seq (a := c5arrrrl) (b := c5arrrrr) (by kernel_rfl) (show live [10] c5arrrrr [10] [] = [4, 11, 3, 1, 0] by kernel_rfl), ep5arrrrl]
  unfold p5arrrr
  exact (congrArg (p5arrrrl C L x2 x4 x11 x3 x1 x0 h) (funext fun x4 => funext fun x11 => funext fun x3 => funext fun x1 => funext fun x0 => funext fun h => (seqK_n _ _ _).trans (ep5arrrrr C L x4 x11 x3 x1 x0 h K)))
noncomputable def p5arrr (C : CF) (L : Nat) {β : Type} (x2 : Value) (x4 : Value) (x11 : Value) (x3 : Value) (x1 : Value) (x0 : Value) (h : H) (kr : Value → H → Option β) : Option β :=
  p5arrrl C L x2 x4 x11 x3 x1 x0 h kr (fun x2 x4 x11 x3 x1 x0 h => p5arrrr C L x2 x4 x11 x3 x1 x0 h kr)
theorem ep5arrr (C : CF) (L : Nat) {β : Type} (x2 : Value) (x4 : Value) (x11 : Value) (x3 : Value) (x1 : Value) (x0 : Value) (h : H) (K : Ex → T Value → H → Option β) :
    execK Try.prog C L 0 157 [10] c5arrr [10] [] (fs [(2, x2), (4, x4), (11, x11), (3, x3), (1, x1), (0, x0)]) h K =
      p5arrr C L x2 x4 x11 x3 x1 x0 h (fun x10 h => K .ret (fs [(10, x10)]) h) := by
  rw [execK_seq (a := c5arrrl) (b := c5arrrr) (by kernel_rfl) (show live [10] c5arrrr [10] [] = [2, 4, 11, 3, 1, 0] by kernel_rfl), ep5arrrl]
  unfold p5arrr
  exact (congr (congrArg (p5arrrl C L x2 x4 x11 x3 x1 x0 h) (funext fun x10 => funext fun h => seqK_r _ _ _)) (funext fun x2 => funext fun x4 => funext fun x11 => funext fun x3 => funext fun x1 => funext fun x0 => funext fun h => (seqK_n _ _ _).trans (ep5arrrr C L x2 x4 x11 x3 x1 x0 h K)))
noncomputable def p5arr (C : CF) (L : Nat) {β : Type} (x2 : Value) (x4 : Value) (x3 : Value) (x1 : Value) (x0 : Value) (h : H) (kr : Value → H → Option β) : Option β :=
  p5arrl C L x2 x4 x3 x1 x0 h (fun x2 x4 x11 x3 x1 x0 h => p5arrr C L x2 x4 x11 x3 x1 x0 h kr)
theorem ep5arr (C : CF) (L : Nat) {β : Type} (x2 : Value) (x4 : Value) (x3 : Value) (x1 : Value) (x0 : Value) (h : H) (K : Ex → T Value → H → Option β) :
    execK Try.prog C L 0 157 [10] c5arr [10] [] (fs [(2, x2), (4, x4), (3, x3), (1, x1), (0, x0)]) h K =
      p5arr C L x2 x4 x3 x1 x0 h (fun x10 h => K .ret (fs [(10, x10)]) h) := by
  rw [execK_seq (a := c5arrl) (b := c5arrr) (by kernel_rfl) (show live [10] c5arrr [10] [] = [2, 4, 11, 3, 1, 0] by kernel_rfl), ep5arrl]
  unfold p5arr
  exact (congrArg (p5arrl C L x2 x4 x3 x1 x0 h) (funext fun x2 => funext fun x4 => funext fun x11 => funext fun x3 => funext fun x1 => funext fun x0 => funext fun h => (seqK_n _ _ _).trans (ep5arrr C L x2 x4 x11 x3 x1 x0 h K)))
noncomputable def p5ar (C : CF) (L : Nat) {β : Type} (x2 : Value) (x4 : Value) (x3 : Value) (x1 : Value) (x0 : Value) (h : H) (kr : Value → H → Option β) : Option β :=
  p5arl C L x2 x4 x3 x1 x0 h kr (fun x2 x4 x3 x1 x0 h => p5arr C L x2 x4 x3 x1 x0 h kr)
theorem ep5ar (C : CF) (L : Nat) {β : Type} (x2 : Value) (x4 : Value) (x3 : Value) (x1 : Value) (x0 : Value) (h : H) (K : Ex → T Value → H → Option β) :
    execK Try.prog C L 0 157 [10] c5ar [10] [] (fs [(2, x2), (4, x4), (3, x3), (1, x1), (0, x0)]) h K =
      p5ar C L x2 x4 x3 x1 x0 h (fun x10 h => K .ret (fs [(10, x10)]) h) := by
  rw [execK_seq (a := c5arl) (b := c5arr) (by kernel_rfl) (show live [10] c5arr [10] [] = [2, 4, 3, 1, 0] by kernel_rfl), ep5arl]
  unfold p5ar
  exact (congr (congrArg (p5arl C L x2 x4 x3 x1 x0 h) (funext fun x10 => funext fun h => seqK_r _ _ _)) (funext fun x2 => funext fun x4 => funext fun x3 => funext fun x1 => funext fun x0 => funext fun h => (seqK_n _ _ _).trans (ep5arr C L x2 x4 x3 x1 x0 h K)))
noncomputable def p5a (C : CF) (L : Nat) {β : Type} (x0 : Value) (x1 : Value) (x2 : Value) (x3 : Value) (x4 : Value) (h : H) (kr : Value → H → Option β) : Option β :=
  p5al C L x0 x1 x2 x3 x4 h (fun x2 x4 x3 x1 x0 h => p5ar C L x2 x4 x3 x1 x0 h kr)
theorem ep5a (C : CF) (L : Nat) {β : Type} (x0 : Value) (x1 : Value) (x2 : Value) (x3 : Value) (x4 : Value) (h : H) (K : Ex → T Value → H → Option β) :
    execK Try.prog C L 0 157 [10] c5a [10] [] (fs [(0, x0), (1, x1), (2, x2), (3, x3), (4, x4)]) h K =
      p5a C L x0 x1 x2 x3 x4 h (fun x10 h => K .ret (fs [(10, x10)]) h) := by
  rw [execK_seq (a := c5al) (b := c5ar) (by kernel_rfl) (show live [10] c5ar [10] [] = [2, 4, 3, 1, 0] by kernel_rfl), ep5al]
  unfold p5a
  exact (congrArg (p5al C L x0 x1 x2 x3 x4 h) (funext fun x2 => funext fun x4 => funext fun x3 => funext fun x1 => funext fun x0 => funext fun h => (seqK_n _ _ _).trans (ep5ar C L x2 x4 x3 x1 x0 h K)))
noncomputable def F5 (C : CF) (L : Nat) (x0 : Value) (x1 : Value) (x2 : Value) (x3 : Value) (x4 : Value) (h : H) : Option (Value × H) :=
  p5a C L x0 x1 x2 x3 x4 h
    (fun x10 h => some (x10, h))
theorem F5eq (O : List FuncId) (hO : O.any (Nat.beq 5) = false) (n : Nat) (x0 : Value) (x1 : Value) (x2 : Value) (x3 : Value) (x4 : Value) (h : H) : callB Try.prog 0 O (n + 1) 5 [x0, x1, x2, x3, x4] h = F5 (callB Try.prog 0 O n) n x0 x1 x2 x3 x4 h := by
  rw [callB_eq hO (c := c5a) (nt := 157) (RR := [10]) (fr := (fs [(0, x0), (1, x1), (2, x2), (3, x3), (4, x4)])) Try.func5 (by kernel_rfl) (by kernel_rfl) (by kernel_rfl) (by kernel_rfl) (by kernel_rfl), ep5a]
  kernel_rfl

end Go.Proofs.Ytdjhkdogpbiglaa.MailF5
