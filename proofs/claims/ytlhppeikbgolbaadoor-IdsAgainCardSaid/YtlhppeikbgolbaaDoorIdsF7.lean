/-
  Functions of the program over the abstract machine: printed by a program of mine (wip/tools/Dec.lean), each with its equation to the machine's call.
-/
import Derived.Test.YtlhppeikbgolbaaDoorProg
import Derived.Test.YtlhppeikbgolbaaDoorAmDec
set_option linter.unusedVariables false
set_option maxRecDepth 100000
namespace Go.Proofs.YtlhppeikbgolbaaDoor.IdsF7
open Go Go.AM


/-! F7: relayhouse/relayhouselaw11.IdsAgain -/
noncomputable def c7a : Code := (Tryd.f7.body).getD .skip
noncomputable def c7al : Code := cL c7a
noncomputable def p7al (C : CF) (L : Nat) {β : Type} (x0 : Value) (x1 : Value) (h : H) (kn : Value → Value → H → Option β) : Option β :=
  kn x1 x0 h
theorem ep7al (C : CF) (L : Nat) {β : Type} (x0 : Value) (x1 : Value) (h : H) (K : Ex → T Value → H → Option β) :
    execK Tryd.prog C L 1 129 [4] c7al [1, 0] [] (fs [(0, x0), (1, x1)]) h K =
      p7al C L x0 x1 h (fun x1 x0 h => K .normal (fs [(1, x1), (0, x0)]) h) := by
  kernel_rfl
noncomputable def c7ar : Code := cR c7a
noncomputable def c7arl : Code := cL c7ar
noncomputable def p7arl (C : CF) (L : Nat) {β : Type} (x1 : Value) (x0 : Value) (h : H) (kr : Value → H → Option β) (kn : Value → Value → H → Option β) : Option β :=
  bnd (A.bin Tryd.prog .gtr 25 x0 (.int .u16 300)) fun t15 =>
  toBK t15 fun b =>
  (bif b then
  bnd2 (C 15 [] h) fun t21 hq1 =>
  toBK t21 fun bq1 =>
  kr (.bool bq1) hq1
  else
  bnd (A.lenS x1) fun t18 =>
  bnd (A.bin Tryd.prog .gtr 3 t18 (.int .i64 100)) fun t19 =>
  toBK t19 fun bq2 =>
  (bif bq2 then
  bnd2 (C 15 [] h) fun t21q1 hq2 =>
  toBK t21q1 fun bq3 =>
  kr (.bool bq3) hq2
  else
  kn x1 x0 h))
theorem ep7arl (C : CF) (L : Nat) {β : Type} (x1 : Value) (x0 : Value) (h : H) (K : Ex → T Value → H → Option β) :
    execK Tryd.prog C L 1 129 [4] c7arl [1, 0] [] (fs [(1, x1), (0, x0)]) h K =
      p7arl C L x1 x0 h (fun x4 h => K .ret (fs [(4, x4)]) h) (fun x1 x0 h => K .normal (fs [(1, x1), (0, x0)]) h) := by
  kernel_rfl
noncomputable def c7arr : Code := cR c7ar
noncomputable def c7arrl : Code := cL c7arr
noncomputable def p7arrl (C : CF) (L : Nat) {β : Type} (x1 : Value) (x0 : Value) (h : H) (kn : Value → Value → Value → H → Option β) : Option β :=
  bnd2 (C 8 [] h) fun t22 hq1 =>
  kn x1 t22 x0 hq1
theorem ep7arrl (C : CF) (L : Nat) {β : Type} (x1 : Value) (x0 : Value) (h : H) (K : Ex → T Value → H → Option β) :
    execK Tryd.prog C L 1 129 [4] c7arrl [1, 5, 0] [] (fs [(1, x1), (0, x0)]) h K =
      p7arrl C L x1 x0 h (fun x1 x5 x0 h => K .normal (fs [(1, x1), (5, x5), (0, x0)]) h) := by
  kernel_rfl
noncomputable def c7arrr : Code := cR c7arr
noncomputable def c7arrrl : Code := cL c7arrr
noncomputable def c7arrrll : Code := cL c7arrrl
noncomputable def p7arrrll (C : CF) (L : Nat) {β : Type} (x1 : Value) (x5 : Value) (x0 : Value) (h : H) (kn : Value → Value → Value → Value → H → Option β) : Option β :=
  kn (.int .i64 0) x1 x5 x0 h
theorem ep7arrrll (C : CF) (L : Nat) {β : Type} (x1 : Value) (x5 : Value) (x0 : Value) (h : H) (K : Ex → T Value → H → Option β) :
    execK Tryd.prog C L 1 129 [4] c7arrrll [6, 1, 5, 0] [] (fs [(1, x1), (5, x5), (0, x0)]) h K =
      p7arrrll C L x1 x5 x0 h (fun x6 x1 x5 x0 h => K .normal (fs [(6, x6), (1, x1), (5, x5), (0, x0)]) h) := by
  kernel_rfl
noncomputable def c7arrrlr : Code := cR c7arrrl
noncomputable def c7arrrlrb : Code := cL c7arrrlr
noncomputable def c7arrrlrbo : Code := cL c7arrrlrb
noncomputable def p7arrrlrbo (C : CF) (L : Nat) {β : Type} (x6 : Value) (x1 : Value) (x5 : Value) (x0 : Value) (h : H) (kr : Value → H → Option β) (kn : Value → Value → Value → Value → H → Option β) (kx0 : Value → Value → Value → H → Option β) : Option β :=
  bnd (A.conv Tryd.prog 25 3 x0) fun t25 =>
  bnd (A.bin Tryd.prog .lss 3 x6 t25) fun t26 =>
  toBK t26 fun b =>
  (bif b then
  bnd (A.bin Tryd.prog .add 3 x6 (.int .i64 1)) fun t31 =>
  bnd (A.conv Tryd.prog 3 25 t31) fun t32 =>
  bnd2 (C 9 [x5, t32] h) fun t33 hq1 =>
  toBK t33 fun bq1 =>
  bnd (A.un Tryd.prog .not (.bool bq1)) fun t34 =>
  toBK t34 fun bq2 =>
  (bif bq2 then
  kr (.bool false) hq1
  else
  bnd (A.bin Tryd.prog .add 3 x6 (.int .i64 1)) fun t28 =>
  kn t28 x1 x5 x0 hq1)
  else
  kx0 x1 x5 x0 h)
theorem ep7arrrlrbo (C : CF) (L : Nat) {β : Type} (x6 : Value) (x1 : Value) (x5 : Value) (x0 : Value) (h : H) (K : Ex → T Value → H → Option β) :
    execK Tryd.prog C L 1 129 [4] c7arrrlrbo [6, 1, 5, 0] [(0, [1, 5, 0])] (fs [(6, x6), (1, x1), (5, x5), (0, x0)]) h K =
      p7arrrlrbo C L x6 x1 x5 x0 h (fun x4 h => K .ret (fs [(4, x4)]) h) (fun x6 x1 x5 x0 h => K .normal (fs [(6, x6), (1, x1), (5, x5), (0, x0)]) h) (fun x1 x5 x0 h => K (.exit 0) (fs [(1, x1), (5, x5), (0, x0)]) h) := by
  kernel_rfl
noncomputable def p7arrrlrbw (C : CF) (L : Nat) {β : Type} (kr : Value → H → Option β) (kx0 : Value → Value → Value → H → Option β) : Nat → Value → Value → Value → Value → H → Option β
  | 0, _, _, _, _, _ => none
  | n + 1, x6, x1, x5, x0, h => p7arrrlrbo C L x6 x1 x5 x0 h kr (fun x6 x1 x5 x0 h => p7arrrlrbw C L kr kx0 n x6 x1 x5 x0 h) kx0
theorem ep7arrrlrbw (C : CF) (L : Nat) {β : Type} (K : Ex → T Value → H → Option β) : ∀ (n : Nat) (x6 : Value) (x1 : Value) (x5 : Value) (x0 : Value) (h : H),
    loopK (fun fr h K => execK Tryd.prog C L 1 129 [4] c7arrrlrbo [6, 1, 5, 0] [(0, [1, 5, 0])] fr h K) n (fs [(6, x6), (1, x1), (5, x5), (0, x0)]) h K =
      p7arrrlrbw C L (fun x4 h => K .ret (fs [(4, x4)]) h) (fun x1 x5 x0 h => K (.exit 0) (fs [(1, x1), (5, x5), (0, x0)]) h) n x6 x1 x5 x0 h := by
  intro n
  induction n with
  | zero => intros; rfl
  | succ n ih =>
    intros
    simp only [loopK]
    rw [ep7arrrlrbo]
    simp only [seqK_n, seqK_x, seqK_r, ih]
    rfl
noncomputable def p7arrrlrb (C : CF) (L : Nat) {β : Type} (x6 : Value) (x1 : Value) (x5 : Value) (x0 : Value) (h : H) (kr : Value → H → Option β) (kx0 : Value → Value → Value → H → Option β) : Option β :=
  p7arrrlrbw C L kr kx0 L x6 x1 x5 x0 h
theorem ep7arrrlrb (C : CF) (L : Nat) {β : Type} (x6 : Value) (x1 : Value) (x5 : Value) (x0 : Value) (h : H) (K : Ex → T Value → H → Option β) :
    execK Tryd.prog C L 1 129 [4] c7arrrlrb [1, 5, 0] [(0, [1, 5, 0])] (fs [(6, x6), (1, x1), (5, x5), (0, x0)]) h K =
      p7arrrlrb C L x6 x1 x5 x0 h (fun x4 h => K .ret (fs [(4, x4)]) h) (fun x1 x5 x0 h => K (.exit 0) (fs [(1, x1), (5, x5), (0, x0)]) h) := by
  rw [execK_loop (b := c7arrrlrbo) (fr1 := (fs [(6, x6), (1, x1), (5, x5), (0, x0)])) (by kernel_rfl) (show live [4] c7arrrlrbo [] [(0, [1, 5, 0])] = [6, 1, 5, 0] by kernel_rfl) (by kernel_rfl), ep7arrrlrbw]
  unfold p7arrrlrb
  rfl
noncomputable def p7arrrlr (C : CF) (L : Nat) {β : Type} (x6 : Value) (x1 : Value) (x5 : Value) (x0 : Value) (h : H) (kr : Value → H → Option β) (kn : Value → Value → Value → H → Option β) : Option β :=
  p7arrrlrb C L x6 x1 x5 x0 h kr kn
theorem ep7arrrlr (C : CF) (L : Nat) {β : Type} (x6 : Value) (x1 : Value) (x5 : Value) (x0 : Value) (h : H) (K : Ex → T Value → H → Option β) :
    execK Tryd.prog C L 1 129 [4] c7arrrlr [1, 5, 0] [] (fs [(6, x6), (1, x1), (5, x5), (0, x0)]) h K =
      p7arrrlr C L x6 x1 x5 x0 h (fun x4 h => K .ret (fs [(4, x4)]) h) (fun x1 x5 x0 h => K .normal (fs [(1, x1), (5, x5), (0, x0)]) h) := by
  rw [execK_block (b := c7arrrlrb) (id := 0) (by kernel_rfl), ep7arrrlrb]
  unfold p7arrrlr
  rfl
noncomputable def p7arrrl (C : CF) (L : Nat) {β : Type} (x1 : Value) (x5 : Value) (x0 : Value) (h : H) (kr : Value → H → Option β) (kn : Value → Value → Value → H → Option β) : Option β :=
  p7arrrll C L x1 x5 x0 h (fun x6 x1 x5 x0 h => p7arrrlr C L x6 x1 x5 x0 h kr kn)
theorem ep7arrrl (C : CF) (L : Nat) {β : Type} (x1 : Value) (x5 : Value) (x0 : Value) (h : H) (K : Ex → T Value → H → Option β) :
    execK Tryd.prog C L 1 129 [4] c7arrrl [1, 5, 0] [] (fs [(1, x1), (5, x5), (0, x0)]) h K =
      p7arrrl C L x1 x5 x0 h (fun x4 h => K .ret (fs [(4, x4)]) h) (fun x1 x5 x0 h => K .normal (fs [(1, x1), (5, x5), (0, x0)]) h) := by
  rw [execK_seq (a := c7arrrll) (b := c7arrrlr) (by kernel_rfl) (show live [4] c7arrrlr [1, 5, 0] [] = [6, 1, 5, 0] by kernel_rfl), ep7arrrll]
  unfold p7arrrl
  exact (congrArg (p7arrrll C L x1 x5 x0 h) (funext fun x6 => funext fun x1 => funext fun x5 => funext fun x0 => funext fun h => (seqK_n _ _ _).trans (ep7arrrlr C L x6 x1 x5 x0 h K)))
noncomputable def c7arrrr : Code := cR c7arrr
noncomputable def c7arrrrl : Code := cL c7arrrr
noncomputable def p7arrrrl (C : CF) (L : Nat) {β : Type} (x1 : Value) (x5 : Value) (x0 : Value) (h : H) (kn : Value → Value → Value → Value → H → Option β) : Option β :=
  kn (.int .i64 0) x1 x5 x0 h
theorem ep7arrrrl (C : CF) (L : Nat) {β : Type} (x1 : Value) (x5 : Value) (x0 : Value) (h : H) (K : Ex → T Value → H → Option β) :
    execK Tryd.prog C L 1 129 [4] c7arrrrl [7, 1, 5, 0] [] (fs [(1, x1), (5, x5), (0, x0)]) h K =
      p7arrrrl C L x1 x5 x0 h (fun x7 x1 x5 x0 h => K .normal (fs [(7, x7), (1, x1), (5, x5), (0, x0)]) h) := by
  kernel_rfl
noncomputable def c7arrrrr : Code := cR c7arrrr
noncomputable def c7arrrrrl : Code := cL c7arrrrr
noncomputable def c7arrrrrll : Code := cL c7arrrrrl
noncomputable def p7arrrrrll (C : CF) (L : Nat) {β : Type} (x7 : Value) (x1 : Value) (x5 : Value) (x0 : Value) (h : H) (kn : Value → Value → Value → Value → Value → H → Option β) : Option β :=
  kn (.int .i64 0) x7 x1 x5 x0 h
theorem ep7arrrrrll (C : CF) (L : Nat) {β : Type} (x7 : Value) (x1 : Value) (x5 : Value) (x0 : Value) (h : H) (K : Ex → T Value → H → Option β) :
    execK Tryd.prog C L 1 129 [4] c7arrrrrll [8, 7, 1, 5, 0] [] (fs [(7, x7), (1, x1), (5, x5), (0, x0)]) h K =
      p7arrrrrll C L x7 x1 x5 x0 h (fun x8 x7 x1 x5 x0 h => K .normal (fs [(8, x8), (7, x7), (1, x1), (5, x5), (0, x0)]) h) := by
  kernel_rfl
noncomputable def c7arrrrrlr : Code := cR c7arrrrrl
noncomputable def c7arrrrrlrb : Code := cL c7arrrrrlr
noncomputable def c7arrrrrlrbo : Code := cL c7arrrrrlrb
noncomputable def c7arrrrrlrbol : Code := cL c7arrrrrlrbo
noncomputable def p7arrrrrlrbol (C : CF) (L : Nat) {β : Type} (x8 : Value) (x7 : Value) (x1 : Value) (x5 : Value) (x0 : Value) (h : H) (kn : Value → Value → Value → Value → Value → H → Option β) (kx2 : Value → Value → Value → Value → H → Option β) : Option β :=
  bnd (A.lenS x1) fun t37 =>
  bnd (A.bin Tryd.prog .lss 3 x8 t37) fun t38 =>
  toBK t38 fun b =>
  (bif b then
  kn x8 x7 x1 x5 x0 h
  else
  kx2 x7 x1 x5 x0 h)
theorem ep7arrrrrlrbol (C : CF) (L : Nat) {β : Type} (x8 : Value) (x7 : Value) (x1 : Value) (x5 : Value) (x0 : Value) (h : H) (K : Ex → T Value → H → Option β) :
    execK Tryd.prog C L 1 129 [4] c7arrrrrlrbol [8, 7, 1, 5, 0] [(2, [7, 1, 5, 0])] (fs [(8, x8), (7, x7), (1, x1), (5, x5), (0, x0)]) h K =
      p7arrrrrlrbol C L x8 x7 x1 x5 x0 h (fun x8 x7 x1 x5 x0 h => K .normal (fs [(8, x8), (7, x7), (1, x1), (5, x5), (0, x0)]) h) (fun x7 x1 x5 x0 h => K (.exit 2) (fs [(7, x7), (1, x1), (5, x5), (0, x0)]) h) := by
  kernel_rfl
noncomputable def c7arrrrrlrbor : Code := cR c7arrrrrlrbo
noncomputable def c7arrrrrlrborl : Code := cL c7arrrrrlrbor
noncomputable def c7arrrrrlrborlb : Code := cL c7arrrrrlrborl
noncomputable def c7arrrrrlrborlbl : Code := cL c7arrrrrlrborlb
noncomputable def p7arrrrrlrborlbl (C : CF) (L : Nat) {β : Type} (x8 : Value) (x7 : Value) (x1 : Value) (x5 : Value) (x0 : Value) (h : H) (kn : Value → Value → Value → Value → Value → Value → H → Option β) : Option β :=
  bnd (A.idxS 1 x1 x8) fun t44 =>
  bnd (A.load false 1 t44 h) fun t45 =>
  bnd2 (C 13 [x5, t45] h) fun t46 hq1 =>
  toBK t46 fun b =>
  kn (.bool b) x8 x7 x1 x5 x0 hq1
theorem ep7arrrrrlrborlbl (C : CF) (L : Nat) {β : Type} (x8 : Value) (x7 : Value) (x1 : Value) (x5 : Value) (x0 : Value) (h : H) (K : Ex → T Value → H → Option β) :
    execK Tryd.prog C L 1 129 [4] c7arrrrrlrborlbl [9, 8, 7, 1, 5, 0] [(3, [8, 7, 1, 5, 0]), (2, [7, 1, 5, 0])] (fs [(8, x8), (7, x7), (1, x1), (5, x5), (0, x0)]) h K =
      p7arrrrrlrborlbl C L x8 x7 x1 x5 x0 h (fun x9 x8 x7 x1 x5 x0 h => K .normal (fs [(9, x9), (8, x8), (7, x7), (1, x1), (5, x5), (0, x0)]) h) := by
  kernel_rfl
noncomputable def c7arrrrrlrborlbr : Code := cR c7arrrrrlrborlb
noncomputable def c7arrrrrlrborlbrl : Code := cL c7arrrrrlrborlbr
noncomputable def c7arrrrrlrborlbrll : Code := cL c7arrrrrlrborlbrl
noncomputable def p7arrrrrlrborlbrll (C : CF) (L : Nat) {β : Type} (x9 : Value) (x8 : Value) (x7 : Value) (x1 : Value) (x5 : Value) (x0 : Value) (h : H) (kn : Value → Value → Value → Value → Value → Value → Value → H → Option β) : Option β :=
  toBK x9 fun b =>
  bnd (A.idxS 1 x1 x8) fun t50 =>
  bnd (A.load false 1 t50 h) fun t51 =>
  bnd (A.bin Tryd.prog .geq 25 t51 (.int .u16 1)) fun t52 =>
  toBK t52 fun bq1 =>
  (bif bq1 then
  bnd (A.idxS 1 x1 x8) fun t56 =>
  bnd (A.load false 1 t56 h) fun t57 =>
  bnd (A.bin Tryd.prog .leq 25 t57 x0) fun t59 =>
  toBK t59 fun bq2 =>
  bnd (A.bin Tryd.prog .neq 4 (.bool b) (.bool bq2)) fun t61 =>
  toBK t61 fun bq3 =>
  (bif bq3 then
  bnd (A.sliceS 1 x1 none (some x8) none h) fun t65 =>
  bnd (A.idxS 1 x1 x8) fun t68 =>
  bnd (A.load false 1 t68 h) fun t69 =>
  bnd2 (C 22 [t65, t69] h) fun t70 hq1 =>
  toBK t70 fun bq4 =>
  bnd (A.un Tryd.prog .not (.bool bq4)) fun t71 =>
  toBK t71 fun bq5 =>
  (bif bq5 then
  kn (.bool true) x9 x8 x7 x1 x5 x0 hq1
  else
  bnd (A.idxS 1 x1 x8) fun t77 =>
  bnd (A.load false 1 t77 hq1) fun t78 =>
  bnd2 (C 12 [x5, t78] hq1) fun t79 hq2 =>
  toBK t79 fun bq6 =>
  toBK x9 fun bq7 =>
  bnd (A.bin Tryd.prog .neq 4 (.bool bq6) (.bool bq7)) fun t81 =>
  toBK t81 fun bq8 =>
  kn (.bool bq8) x9 x8 x7 x1 x5 x0 hq2)
  else
  bnd (A.idxS 1 x1 x8) fun t77q1 =>
  bnd (A.load false 1 t77q1 h) fun t78q1 =>
  bnd2 (C 12 [x5, t78q1] h) fun t79q1 hq3 =>
  toBK t79q1 fun bq9 =>
  toBK x9 fun bq10 =>
  bnd (A.bin Tryd.prog .neq 4 (.bool bq9) (.bool bq10)) fun t81q1 =>
  toBK t81q1 fun bq11 =>
  kn (.bool bq11) x9 x8 x7 x1 x5 x0 hq3)
  else
  bnd (A.bin Tryd.prog .neq 4 (.bool b) (.bool false)) fun t61q1 =>
  toBK t61q1 fun bq12 =>
  (bif bq12 then
  bnd (A.sliceS 1 x1 none (some x8) none h) fun t65q1 =>
  bnd (A.idxS 1 x1 x8) fun t68q1 =>
  bnd (A.load false 1 t68q1 h) fun t69q1 =>
  bnd2 (C 22 [t65q1, t69q1] h) fun t70q1 hq4 =>
  toBK t70q1 fun bq13 =>
  bnd (A.un Tryd.prog .not (.bool bq13)) fun t71q1 =>
  toBK t71q1 fun bq14 =>
  (bif bq14 then
  kn (.bool true) x9 x8 x7 x1 x5 x0 hq4
  else
  bnd (A.idxS 1 x1 x8) fun t77q2 =>
  bnd (A.load false 1 t77q2 hq4) fun t78q2 =>
  bnd2 (C 12 [x5, t78q2] hq4) fun t79q2 hq5 =>
  toBK t79q2 fun bq15 =>
  toBK x9 fun bq16 =>
  bnd (A.bin Tryd.prog .neq 4 (.bool bq15) (.bool bq16)) fun t81q2 =>
  toBK t81q2 fun bq17 =>
  kn (.bool bq17) x9 x8 x7 x1 x5 x0 hq5)
  else
  bnd (A.idxS 1 x1 x8) fun t77q3 =>
  bnd (A.load false 1 t77q3 h) fun t78q3 =>
  bnd2 (C 12 [x5, t78q3] h) fun t79q3 hq6 =>
  toBK t79q3 fun bq18 =>
  toBK x9 fun bq19 =>
  bnd (A.bin Tryd.prog .neq 4 (.bool bq18) (.bool bq19)) fun t81q3 =>
  toBK t81q3 fun bq20 =>
  kn (.bool bq20) x9 x8 x7 x1 x5 x0 hq6))
theorem ep7arrrrrlrborlbrll (C : CF) (L : Nat) {β : Type} (x9 : Value) (x8 : Value) (x7 : Value) (x1 : Value) (x5 : Value) (x0 : Value) (h : H) (K : Ex → T Value → H → Option β) :
    execK Tryd.prog C L 1 129 [4] c7arrrrrlrborlbrll [82, 9, 8, 7, 1, 5, 0] [(3, [8, 7, 1, 5, 0]), (2, [7, 1, 5, 0])] (fs [(9, x9), (8, x8), (7, x7), (1, x1), (5, x5), (0, x0)]) h K =
      p7arrrrrlrborlbrll C L x9 x8 x7 x1 x5 x0 h (fun x82 x9 x8 x7 x1 x5 x0 h => K .normal (fs [(82, x82), (9, x9), (8, x8), (7, x7), (1, x1), (5, x5), (0, x0)]) h) := by
  kernel_rfl
noncomputable def c7arrrrrlrborlbrlr : Code := cR c7arrrrrlrborlbrl
noncomputable def p7arrrrrlrborlbrlr (C : CF) (L : Nat) {β : Type} (x82 : Value) (x9 : Value) (x8 : Value) (x7 : Value) (x1 : Value) (x5 : Value) (x0 : Value) (h : H) (kr : Value → H → Option β) (kn : Value → Value → Value → Value → Value → Value → H → Option β) : Option β :=
  condV x82 (
  kr (.bool false) h) (
  kn x9 x8 x7 x1 x5 x0 h)
theorem ep7arrrrrlrborlbrlr (C : CF) (L : Nat) {β : Type} (x82 : Value) (x9 : Value) (x8 : Value) (x7 : Value) (x1 : Value) (x5 : Value) (x0 : Value) (h : H) (K : Ex → T Value → H → Option β) :
    execK Tryd.prog C L 1 129 [4] c7arrrrrlrborlbrlr [9, 8, 7, 1, 5, 0] [(3, [8, 7, 1, 5, 0]), (2, [7, 1, 5, 0])] (fs [(82, x82), (9, x9), (8, x8), (7, x7), (1, x1), (5, x5), (0, x0)]) h K =
      p7arrrrrlrborlbrlr C L x82 x9 x8 x7 x1 x5 x0 h (fun x4 h => K .ret (fs [(4, x4)]) h) (fun x9 x8 x7 x1 x5 x0 h => K .normal (fs [(9, x9), (8, x8), (7, x7), (1, x1), (5, x5), (0, x0)]) h) := by
  kernel_rfl
noncomputable def p7arrrrrlrborlbrl (C : CF) (L : Nat) {β : Type} (x9 : Value) (x8 : Value) (x7 : Value) (x1 : Value) (x5 : Value) (x0 : Value) (h : H) (kr : Value → H → Option β) (kn : Value → Value → Value → Value → Value → Value → H → Option β) : Option β :=
  p7arrrrrlrborlbrll C L x9 x8 x7 x1 x5 x0 h (fun x82 x9 x8 x7 x1 x5 x0 h => p7arrrrrlrborlbrlr C L x82 x9 x8 x7 x1 x5 x0 h kr kn)
theorem ep7arrrrrlrborlbrl (C : CF) (L : Nat) {β : Type} (x9 : Value) (x8 : Value) (x7 : Value) (x1 : Value) (x5 : Value) (x0 : Value) (h : H) (K : Ex → T Value → H → Option β) :
    execK Tryd.prog C L 1 129 [4] c7arrrrrlrborlbrl [9, 8, 7, 1, 5, 0] [(3, [8, 7, 1, 5, 0]), (2, [7, 1, 5, 0])] (fs [(9, x9), (8, x8), (7, x7), (1, x1), (5, x5), (0, x0)]) h K =
      p7arrrrrlrborlbrl C L x9 x8 x7 x1 x5 x0 h (fun x4 h => K .ret (fs [(4, x4)]) h) (fun x9 x8 x7 x1 x5 x0 h => K .normal (fs [(9, x9), (8, x8), (7, x7), (1, x1), (5, x5), (0, x0)]) h) := by
  rw [execK_seq (a := c7arrrrrlrborlbrll) (b := c7arrrrrlrborlbrlr) (by kernel_rfl) (show live [4] c7arrrrrlrborlbrlr [9, 8, 7, 1, 5, 0] [(3, [8, 7, 1, 5, 0]), (2, [7, 1, 5, 0])] = [82, 9, 8, 7, 1, 5, 0] by kernel_rfl), ep7arrrrrlrborlbrll]
  unfold p7arrrrrlrborlbrl
  exact (congrArg (p7arrrrrlrborlbrll C L x9 x8 x7 x1 x5 x0 h) (funext fun x82 => funext fun x9 => funext fun x8 => funext fun x7 => funext fun x1 => funext fun x5 => funext fun x0 => funext fun h => (seqK_n _ _ _).trans (ep7arrrrrlrborlbrlr C L x82 x9 x8 x7 x1 x5 x0 h K)))
noncomputable def c7arrrrrlrborlbrr : Code := cR c7arrrrrlrborlbr
noncomputable def p7arrrrrlrborlbrr (C : CF) (L : Nat) {β : Type} (x9 : Value) (x8 : Value) (x7 : Value) (x1 : Value) (x5 : Value) (x0 : Value) (h : H) (kn : Value → Value → Value → Value → Value → H → Option β) : Option β :=
  toBK x9 fun b =>
  (bif b then
  bnd (A.bin Tryd.prog .add 3 x7 (.int .i64 1)) fun t85 =>
  kn x8 t85 x1 x5 x0 h
  else
  kn x8 x7 x1 x5 x0 h)
theorem ep7arrrrrlrborlbrr (C : CF) (L : Nat) {β : Type} (x9 : Value) (x8 : Value) (x7 : Value) (x1 : Value) (x5 : Value) (x0 : Value) (h : H) (K : Ex → T Value → H → Option β) :
    execK Tryd.prog C L 1 129 [4] c7arrrrrlrborlbrr [8, 7, 1, 5, 0] [(3, [8, 7, 1, 5, 0]), (2, [7, 1, 5, 0])] (fs [(9, x9), (8, x8), (7, x7), (1, x1), (5, x5), (0, x0)]) h K =
      p7arrrrrlrborlbrr C L x9 x8 x7 x1 x5 x0 h (fun x8 x7 x1 x5 x0 h => K .normal (fs [(8, x8), (7, x7), (1, x1), (5, x5), (0, x0)]) h) := by
  kernel_rfl
noncomputable def p7arrrrrlrborlbr (C : CF) (L : Nat) {β : Type} (x9 : Value) (x8 : Value) (x7 : Value) (x1 : Value) (x5 : Value) (x0 : Value) (h : H) (kn : Value → Value → Value → Value → Value → H → Option β) (kr : Value → H → Option β) : Option β :=
  p7arrrrrlrborlbrl C L x9 x8 x7 x1 x5 x0 h kr (fun x9 x8 x7 x1 x5 x0 h => p7arrrrrlrborlbrr C L x9 x8 x7 x1 x5 x0 h kn)
theorem ep7arrrrrlrborlbr (C : CF) (L : Nat) {β : Type} (x9 : Value) (x8 : Value) (x7 : Value) (x1 : Value) (x5 : Value) (x0 : Value) (h : H) (K : Ex → T Value → H → Option β) :
    execK Tryd.prog C L 1 129 [4] c7arrrrrlrborlbr [8, 7, 1, 5, 0] [(3, [8, 7, 1, 5, 0]), (2, [7, 1, 5, 0])] (fs [(9, x9), (8, x8), (7, x7), (1, x1), (5, x5), (0, x0)]) h K =
      p7arrrrrlrborlbr C L x9 x8 x7 x1 x5 x0 h (fun x8 x7 x1 x5 x0 h => K .normal (fs [(8, x8), (7, x7), (1, x1), (5, x5), (0, x0)]) h) (fun x4 h => K .ret (fs [(4, x4)]) h) := by
  rw [execK_seq (a := c7arrrrrlrborlbrl) (b := c7arrrrrlrborlbrr) (by kernel_rfl) (show live [4] c7arrrrrlrborlbrr [8, 7, 1, 5, 0] [(3, [8, 7, 1, 5, 0]), (2, [7, 1, 5, 0])] = [9, 8, 7, 1, 5, 0] by kernel_rfl), ep7arrrrrlrborlbrl]
  unfold p7arrrrrlrborlbr
  exact (congr (congrArg (p7arrrrrlrborlbrl C L x9 x8 x7 x1 x5 x0 h) (funext fun x4 => funext fun h => seqK_r _ _ _)) (funext fun x9 => funext fun x8 => funext fun x7 => funext fun x1 => funext fun x5 => funext fun x0 => funext fun h => (seqK_n _ _ _).trans (ep7arrrrrlrborlbrr C L x9 x8 x7 x1 x5 x0 h K)))
noncomputable def p7arrrrrlrborlb (C : CF) (L : Nat) {β : Type} (x8 : Value) (x7 : Value) (x1 : Value) (x5 : Value) (x0 : Value) (h : H) (kn : Value → Value → Value → Value → Value → H → Option β) (kr : Value → H → Option β) : Option β :=
  p7arrrrrlrborlbl C L x8 x7 x1 x5 x0 h (fun x9 x8 x7 x1 x5 x0 h => p7arrrrrlrborlbr C L x9 x8 x7 x1 x5 x0 h kn kr)
theorem ep7arrrrrlrborlb (C : CF) (L : Nat) {β : Type} (x8 : Value) (x7 : Value) (x1 : Value) (x5 : Value) (x0 : Value) (h : H) (K : Ex → T Value → H → Option β) :
    execK Tryd.prog C L 1 129 [4] c7arrrrrlrborlb [8, 7, 1, 5, 0] [(3, [8, 7, 1, 5, 0]), (2, [7, 1, 5, 0])] (fs [(8, x8), (7, x7), (1, x1), (5, x5), (0, x0)]) h K =
      p7arrrrrlrborlb C L x8 x7 x1 x5 x0 h (fun x8 x7 x1 x5 x0 h => K .normal (fs [(8, x8), (7, x7), (1, x1), (5, x5), (0, x0)]) h) (fun x4 h => K .ret (fs [(4, x4)]) h) := by
  rw [execK_seq (a := c7arrrrrlrborlbl) (b := c7arrrrrlrborlbr) (by kernel_rfl) (show live [4] c7arrrrrlrborlbr [8, 7, 1, 5, 0] [(3, [8, 7, 1, 5, 0]), (2, [7, 1, 5, 0])] = [9, 8, 7, 1, 5, 0] by kernel_rfl), ep7arrrrrlrborlbl]
  unfold p7arrrrrlrborlb
  exact (congrArg (p7arrrrrlrborlbl C L x8 x7 x1 x5 x0 h) (funext fun x9 => funext fun x8 => funext fun x7 => funext fun x1 => funext fun x5 => funext fun x0 => funext fun h => (seqK_n _ _ _).trans (ep7arrrrrlrborlbr C L x9 x8 x7 x1 x5 x0 h K)))
noncomputable def p7arrrrrlrborl (C : CF) (L : Nat) {β : Type} (x8 : Value) (x7 : Value) (x1 : Value) (x5 : Value) (x0 : Value) (h : H) (kn : Value → Value → Value → Value → Value → H → Option β) (kr : Value → H → Option β) : Option β :=
  p7arrrrrlrborlb C L x8 x7 x1 x5 x0 h kn kr
theorem ep7arrrrrlrborl (C : CF) (L : Nat) {β : Type} (x8 : Value) (x7 : Value) (x1 : Value) (x5 : Value) (x0 : Value) (h : H) (K : Ex → T Value → H → Option β) :
    execK Tryd.prog C L 1 129 [4] c7arrrrrlrborl [8, 7, 1, 5, 0] [(2, [7, 1, 5, 0])] (fs [(8, x8), (7, x7), (1, x1), (5, x5), (0, x0)]) h K =
      p7arrrrrlrborl C L x8 x7 x1 x5 x0 h (fun x8 x7 x1 x5 x0 h => K .normal (fs [(8, x8), (7, x7), (1, x1), (5, x5), (0, x0)]) h) (fun x4 h => K .ret (fs [(4, x4)]) h) := by
  rw [execK_block (b := c7arrrrrlrborlb) (id := 3) (by kernel_rfl), ep7arrrrrlrborlb]
  unfold p7arrrrrlrborl
  rfl
noncomputable def c7arrrrrlrborr : Code := cR c7arrrrrlrbor
noncomputable def p7arrrrrlrborr (C : CF) (L : Nat) {β : Type} (x8 : Value) (x7 : Value) (x1 : Value) (x5 : Value) (x0 : Value) (h : H) (kn : Value → Value → Value → Value → Value → H → Option β) : Option β :=
  bnd (A.bin Tryd.prog .add 3 x8 (.int .i64 1)) fun t40 =>
  kn t40 x7 x1 x5 x0 h
theorem ep7arrrrrlrborr (C : CF) (L : Nat) {β : Type} (x8 : Value) (x7 : Value) (x1 : Value) (x5 : Value) (x0 : Value) (h : H) (K : Ex → T Value → H → Option β) :
    execK Tryd.prog C L 1 129 [4] c7arrrrrlrborr [8, 7, 1, 5, 0] [(2, [7, 1, 5, 0])] (fs [(8, x8), (7, x7), (1, x1), (5, x5), (0, x0)]) h K =
      p7arrrrrlrborr C L x8 x7 x1 x5 x0 h (fun x8 x7 x1 x5 x0 h => K .normal (fs [(8, x8), (7, x7), (1, x1), (5, x5), (0, x0)]) h) := by
  kernel_rfl
noncomputable def p7arrrrrlrbor (C : CF) (L : Nat) {β : Type} (x8 : Value) (x7 : Value) (x1 : Value) (x5 : Value) (x0 : Value) (h : H) (kn : Value → Value → Value → Value → Value → H → Option β) (kr : Value → H → Option β) : Option β :=
  p7arrrrrlrborl C L x8 x7 x1 x5 x0 h (fun x8 x7 x1 x5 x0 h => p7arrrrrlrborr C L x8 x7 x1 x5 x0 h kn) kr
theorem ep7arrrrrlrbor (C : CF) (L : Nat) {β : Type} (x8 : Value) (x7 : Value) (x1 : Value) (x5 : Value) (x0 : Value) (h : H) (K : Ex → T Value → H → Option β) :
    execK Tryd.prog C L 1 129 [4] c7arrrrrlrbor [8, 7, 1, 5, 0] [(2, [7, 1, 5, 0])] (fs [(8, x8), (7, x7), (1, x1), (5, x5), (0, x0)]) h K =
      p7arrrrrlrbor C L x8 x7 x1 x5 x0 h (fun x8 x7 x1 x5 x0 h => K .normal (fs [(8, x8), (7, x7), (1, x1), (5, x5), (0, x0)]) h) (fun x4 h => K .ret (fs [(4, x4)]) h) := by
  rw [execK_seq (a := c7arrrrrlrborl) (b := c7arrrrrlrborr) (by kernel_rfl) (show live [4] c7arrrrrlrborr [8, 7, 1, 5, 0] [(2, [7, 1, 5, 0])] = [8, 7, 1, 5, 0] by kernel_rfl), ep7arrrrrlrborl]
  unfold p7arrrrrlrbor
  exact (congr (congrArg (p7arrrrrlrborl C L x8 x7 x1 x5 x0 h) (funext fun x8 => funext fun x7 => funext fun x1 => funext fun x5 => funext fun x0 => funext fun h => (seqK_n _ _ _).trans (ep7arrrrrlrborr C L x8 x7 x1 x5 x0 h K))) (funext fun x4 => funext fun h => seqK_r _ _ _))
noncomputable def p7arrrrrlrbo (C : CF) (L : Nat) {β : Type} (x8 : Value) (x7 : Value) (x1 : Value) (x5 : Value) (x0 : Value) (h : H) (kn : Value → Value → Value → Value → Value → H → Option β) (kr : Value → H → Option β) (kx2 : Value → Value → Value → Value → H → Option β) : Option β :=
  p7arrrrrlrbol C L x8 x7 x1 x5 x0 h (fun x8 x7 x1 x5 x0 h => p7arrrrrlrbor C L x8 x7 x1 x5 x0 h kn kr) kx2
theorem ep7arrrrrlrbo (C : CF) (L : Nat) {β : Type} (x8 : Value) (x7 : Value) (x1 : Value) (x5 : Value) (x0 : Value) (h : H) (K : Ex → T Value → H → Option β) :
    execK Tryd.prog C L 1 129 [4] c7arrrrrlrbo [8, 7, 1, 5, 0] [(2, [7, 1, 5, 0])] (fs [(8, x8), (7, x7), (1, x1), (5, x5), (0, x0)]) h K =
      p7arrrrrlrbo C L x8 x7 x1 x5 x0 h (fun x8 x7 x1 x5 x0 h => K .normal (fs [(8, x8), (7, x7), (1, x1), (5, x5), (0, x0)]) h) (fun x4 h => K .ret (fs [(4, x4)]) h) (fun x7 x1 x5 x0 h => K (.exit 2) (fs [(7, x7), (1, x1), (5, x5), (0, x0)]) h) := by
  rw [execK_seq (a := c7arrrrrlrbol) (b := c7arrrrrlrbor) (by kernel_rfl) (show live [4] c7arrrrrlrbor [8, 7, 1, 5, 0] [(2, [7, 1, 5, 0])] = [8, 7, 1, 5, 0] by kernel_rfl), ep7arrrrrlrbol]
  unfold p7arrrrrlrbo
  exact (congr (congrArg (p7arrrrrlrbol C L x8 x7 x1 x5 x0 h) (funext fun x8 => funext fun x7 => funext fun x1 => funext fun x5 => funext fun x0 => funext fun h => (seqK_n _ _ _).trans (ep7arrrrrlrbor C L x8 x7 x1 x5 x0 h K))) (funext fun x7 => funext fun x1 => funext fun x5 => funext fun x0 => funext fun h => seqK_x _ _ _ _))
noncomputable def p7arrrrrlrbw (C : CF) (L : Nat) {β : Type} (kr : Value → H → Option β) (kx2 : Value → Value → Value → Value → H → Option β) : Nat → Value → Value → Value → Value → Value → H → Option β
  | 0, _, _, _, _, _, _ => none
  | n + 1, x8, x7, x1, x5, x0, h => p7arrrrrlrbo C L x8 x7 x1 x5 x0 h (fun x8 x7 x1 x5 x0 h => p7arrrrrlrbw C L kr kx2 n x8 x7 x1 x5 x0 h) kr kx2
theorem ep7arrrrrlrbw (C : CF) (L : Nat) {β : Type} (K : Ex → T Value → H → Option β) : ∀ (n : Nat) (x8 : Value) (x7 : Value) (x1 : Value) (x5 : Value) (x0 : Value) (h : H),
    loopK (fun fr h K => execK Tryd.prog C L 1 129 [4] c7arrrrrlrbo [8, 7, 1, 5, 0] [(2, [7, 1, 5, 0])] fr h K) n (fs [(8, x8), (7, x7), (1, x1), (5, x5), (0, x0)]) h K =
      p7arrrrrlrbw C L (fun x4 h => K .ret (fs [(4, x4)]) h) (fun x7 x1 x5 x0 h => K (.exit 2) (fs [(7, x7), (1, x1), (5, x5), (0, x0)]) h) n x8 x7 x1 x5 x0 h := by
  intro n
  induction n with
  | zero => intros; rfl
  | succ n ih =>
    intros
    simp only [loopK]
    rw [ep7arrrrrlrbo]
    simp only [seqK_n, seqK_x, seqK_r, ih]
    rfl
noncomputable def p7arrrrrlrb (C : CF) (L : Nat) {β : Type} (x8 : Value) (x7 : Value) (x1 : Value) (x5 : Value) (x0 : Value) (h : H) (kr : Value → H → Option β) (kx2 : Value → Value → Value → Value → H → Option β) : Option β :=
  p7arrrrrlrbw C L kr kx2 L x8 x7 x1 x5 x0 h
theorem ep7arrrrrlrb (C : CF) (L : Nat) {β : Type} (x8 : Value) (x7 : Value) (x1 : Value) (x5 : Value) (x0 : Value) (h : H) (K : Ex → T Value → H → Option β) :
    execK Tryd.prog C L 1 129 [4] c7arrrrrlrb [7, 1, 5, 0] [(2, [7, 1, 5, 0])] (fs [(8, x8), (7, x7), (1, x1), (5, x5), (0, x0)]) h K =
      p7arrrrrlrb C L x8 x7 x1 x5 x0 h (fun x4 h => K .ret (fs [(4, x4)]) h) (fun x7 x1 x5 x0 h => K (.exit 2) (fs [(7, x7), (1, x1), (5, x5), (0, x0)]) h) := by
  rw [execK_loop (b := c7arrrrrlrbo) (fr1 := (fs [(8, x8), (7, x7), (1, x1), (5, x5), (0, x0)])) (by kernel_rfl) (show live [4] c7arrrrrlrbo [] [(2, [7, 1, 5, 0])] = [8, 7, 1, 5, 0] by kernel_rfl) (by kernel_rfl), ep7arrrrrlrbw]
  unfold p7arrrrrlrb
  rfl
noncomputable def p7arrrrrlr (C : CF) (L : Nat) {β : Type} (x8 : Value) (x7 : Value) (x1 : Value) (x5 : Value) (x0 : Value) (h : H) (kr : Value → H → Option β) (kn : Value → Value → Value → Value → H → Option β) : Option β :=
  p7arrrrrlrb C L x8 x7 x1 x5 x0 h kr kn
theorem ep7arrrrrlr (C : CF) (L : Nat) {β : Type} (x8 : Value) (x7 : Value) (x1 : Value) (x5 : Value) (x0 : Value) (h : H) (K : Ex → T Value → H → Option β) :
    execK Tryd.prog C L 1 129 [4] c7arrrrrlr [7, 1, 5, 0] [] (fs [(8, x8), (7, x7), (1, x1), (5, x5), (0, x0)]) h K =
      p7arrrrrlr C L x8 x7 x1 x5 x0 h (fun x4 h => K .ret (fs [(4, x4)]) h) (fun x7 x1 x5 x0 h => K .normal (fs [(7, x7), (1, x1), (5, x5), (0, x0)]) h) := by
  rw [execK_block (b := c7arrrrrlrb) (id := 2) (by kernel_rfl), ep7arrrrrlrb]
  unfold p7arrrrrlr
  rfl
noncomputable def p7arrrrrl (C : CF) (L : Nat) {β : Type} (x7 : Value) (x1 : Value) (x5 : Value) (x0 : Value) (h : H) (kr : Value → H → Option β) (kn : Value → Value → Value → Value → H → Option β) : Option β :=
  p7arrrrrll C L x7 x1 x5 x0 h (fun x8 x7 x1 x5 x0 h => p7arrrrrlr C L x8 x7 x1 x5 x0 h kr kn)
theorem ep7arrrrrl (C : CF) (L : Nat) {β : Type} (x7 : Value) (x1 : Value) (x5 : Value) (x0 : Value) (h : H) (K : Ex → T Value → H → Option β) :
    execK Tryd.prog C L 1 129 [4] c7arrrrrl [7, 1, 5, 0] [] (fs [(7, x7), (1, x1), (5, x5), (0, x0)]) h K =
      p7arrrrrl C L x7 x1 x5 x0 h (fun x4 h => K .ret (fs [(4, x4)]) h) (fun x7 x1 x5 x0 h => K .normal (fs [(7, x7), (1, x1), (5, x5), (0, x0)]) h) := by
  rw [execK_seq (a := c7arrrrrll) (b := c7arrrrrlr) (by kernel_rfl) (show live [4] c7arrrrrlr [7, 1, 5, 0] [] = [8, 7, 1, 5, 0] by kernel_rfl), ep7arrrrrll]
  unfold p7arrrrrl
  exact (congrArg (p7arrrrrll C L x7 x1 x5 x0 h) (funext fun x8 => funext fun x7 => funext fun x1 => funext fun x5 => funext fun x0 => funext fun h => (seqK_n _ _ _).trans (ep7arrrrrlr C L x8 x7 x1 x5 x0 h K)))
noncomputable def c7arrrrrr : Code := cR c7arrrrr
noncomputable def c7arrrrrrl : Code := cL c7arrrrrr
noncomputable def p7arrrrrrl (C : CF) (L : Nat) {β : Type} (x7 : Value) (x1 : Value) (x5 : Value) (x0 : Value) (h : H) (kn : Value → Value → Value → Value → Value → H → Option β) : Option β :=
  kn x7 x1 (.int .u16 0) x5 x0 h
theorem ep7arrrrrrl (C : CF) (L : Nat) {β : Type} (x7 : Value) (x1 : Value) (x5 : Value) (x0 : Value) (h : H) (K : Ex → T Value → H → Option β) :
    execK Tryd.prog C L 1 129 [4] c7arrrrrrl [7, 1, 10, 5, 0] [] (fs [(7, x7), (1, x1), (5, x5), (0, x0)]) h K =
      p7arrrrrrl C L x7 x1 x5 x0 h (fun x7 x1 x10 x5 x0 h => K .normal (fs [(7, x7), (1, x1), (10, x10), (5, x5), (0, x0)]) h) := by
  kernel_rfl
noncomputable def c7arrrrrrr : Code := cR c7arrrrrr
noncomputable def c7arrrrrrrl : Code := cL c7arrrrrrr
noncomputable def c7arrrrrrrll : Code := cL c7arrrrrrrl
noncomputable def p7arrrrrrrll (C : CF) (L : Nat) {β : Type} (x7 : Value) (x1 : Value) (x10 : Value) (x5 : Value) (x0 : Value) (h : H) (kn : Value → Value → Value → Value → Value → Value → H → Option β) : Option β :=
  kn x7 (.int .i64 0) x1 x10 x5 x0 h
theorem ep7arrrrrrrll (C : CF) (L : Nat) {β : Type} (x7 : Value) (x1 : Value) (x10 : Value) (x5 : Value) (x0 : Value) (h : H) (K : Ex → T Value → H → Option β) :
    execK Tryd.prog C L 1 129 [4] c7arrrrrrrll [7, 11, 1, 10, 5, 0] [] (fs [(7, x7), (1, x1), (10, x10), (5, x5), (0, x0)]) h K =
      p7arrrrrrrll C L x7 x1 x10 x5 x0 h (fun x7 x11 x1 x10 x5 x0 h => K .normal (fs [(7, x7), (11, x11), (1, x1), (10, x10), (5, x5), (0, x0)]) h) := by
  kernel_rfl
noncomputable def c7arrrrrrrlr : Code := cR c7arrrrrrrl
noncomputable def c7arrrrrrrlrb : Code := cL c7arrrrrrrlr
noncomputable def c7arrrrrrrlrbo : Code := cL c7arrrrrrrlrb
noncomputable def c7arrrrrrrlrbol : Code := cL c7arrrrrrrlrbo
noncomputable def p7arrrrrrrlrbol (C : CF) (L : Nat) {β : Type} (x7 : Value) (x11 : Value) (x1 : Value) (x10 : Value) (x5 : Value) (x0 : Value) (h : H) (kn : Value → Value → Value → Value → Value → Value → H → Option β) (kx4 : Value → Value → H → Option β) : Option β :=
  bnd (A.bin Tryd.prog .lss 3 x11 x7) fun t88 =>
  toBK t88 fun b =>
  (bif b then
  kn x10 x11 x7 x1 x5 x0 h
  else
  kx4 x5 x0 h)
theorem ep7arrrrrrrlrbol (C : CF) (L : Nat) {β : Type} (x7 : Value) (x11 : Value) (x1 : Value) (x10 : Value) (x5 : Value) (x0 : Value) (h : H) (K : Ex → T Value → H → Option β) :
    execK Tryd.prog C L 1 129 [4] c7arrrrrrrlrbol [10, 11, 7, 1, 5, 0] [(4, [5, 0])] (fs [(7, x7), (11, x11), (1, x1), (10, x10), (5, x5), (0, x0)]) h K =
      p7arrrrrrrlrbol C L x7 x11 x1 x10 x5 x0 h (fun x10 x11 x7 x1 x5 x0 h => K .normal (fs [(10, x10), (11, x11), (7, x7), (1, x1), (5, x5), (0, x0)]) h) (fun x5 x0 h => K (.exit 4) (fs [(5, x5), (0, x0)]) h) := by
  kernel_rfl
noncomputable def c7arrrrrrrlrbor : Code := cR c7arrrrrrrlrbo
noncomputable def c7arrrrrrrlrborl : Code := cL c7arrrrrrrlrbor
noncomputable def c7arrrrrrrlrborlb : Code := cL c7arrrrrrrlrborl
noncomputable def c7arrrrrrrlrborlbl : Code := cL c7arrrrrrrlrborlb
noncomputable def p7arrrrrrrlrborlbl (C : CF) (L : Nat) {β : Type} (x10 : Value) (x11 : Value) (x7 : Value) (x1 : Value) (x5 : Value) (x0 : Value) (h : H) (kn : Value → Value → Value → Value → Value → Value → Value → Value → H → Option β) : Option β :=
  bnd2 (C 10 [x5] h) fun t93 hq1 =>
  bnd (A.extract 0 t93) fun t94 =>
  bnd (A.extract 1 t93) fun t95 =>
  kn t95 x10 t94 x11 x7 x1 x5 x0 hq1
theorem ep7arrrrrrrlrborlbl (C : CF) (L : Nat) {β : Type} (x10 : Value) (x11 : Value) (x7 : Value) (x1 : Value) (x5 : Value) (x0 : Value) (h : H) (K : Ex → T Value → H → Option β) :
    execK Tryd.prog C L 1 129 [4] c7arrrrrrrlrborlbl [13, 10, 12, 11, 7, 1, 5, 0] [(5, [11, 7, 1, 10, 5, 0]), (4, [5, 0])] (fs [(10, x10), (11, x11), (7, x7), (1, x1), (5, x5), (0, x0)]) h K =
      p7arrrrrrrlrborlbl C L x10 x11 x7 x1 x5 x0 h (fun x13 x10 x12 x11 x7 x1 x5 x0 h => K .normal (fs [(13, x13), (10, x10), (12, x12), (11, x11), (7, x7), (1, x1), (5, x5), (0, x0)]) h) := by
  kernel_rfl
noncomputable def c7arrrrrrrlrborlbr : Code := cR c7arrrrrrrlrborlb
noncomputable def c7arrrrrrrlrborlbrl : Code := cL c7arrrrrrrlrborlbr
noncomputable def c7arrrrrrrlrborlbrll : Code := cL c7arrrrrrrlrborlbrl
noncomputable def p7arrrrrrrlrborlbrll (C : CF) (L : Nat) {β : Type} (x13 : Value) (x10 : Value) (x12 : Value) (x11 : Value) (x7 : Value) (x1 : Value) (x5 : Value) (x0 : Value) (h : H) (kn : Value → Value → Value → Value → Value → Value → Value → H → Option β) : Option β :=
  bnd (A.bin Tryd.prog .neq 26 x13 (.int .i64 0)) fun t97 =>
  toBK t97 fun b =>
  (bif b then
  kn (.bool true) x12 x11 x7 x1 x5 x0 h
  else
  bnd (A.bin Tryd.prog .leq 25 x12 x10) fun t101 =>
  toBK t101 fun bq1 =>
  (bif bq1 then
  kn (.bool true) x12 x11 x7 x1 x5 x0 h
  else
  bnd (A.bin Tryd.prog .gtr 25 x12 x0) fun t106 =>
  toBK t106 fun bq2 =>
  (bif bq2 then
  kn (.bool true) x12 x11 x7 x1 x5 x0 h
  else
  bnd2 (C 22 [x1, x12] h) fun t111 hq1 =>
  toBK t111 fun bq3 =>
  bnd (A.un Tryd.prog .not (.bool bq3)) fun t112 =>
  toBK t112 fun bq4 =>
  kn (.bool bq4) x12 x11 x7 x1 x5 x0 hq1)))
theorem ep7arrrrrrrlrborlbrll (C : CF) (L : Nat) {β : Type} (x13 : Value) (x10 : Value) (x12 : Value) (x11 : Value) (x7 : Value) (x1 : Value) (x5 : Value) (x0 : Value) (h : H) (K : Ex → T Value → H → Option β) :
    execK Tryd.prog C L 1 129 [4] c7arrrrrrrlrborlbrll [113, 12, 11, 7, 1, 5, 0] [(5, [11, 7, 1, 10, 5, 0]), (4, [5, 0])] (fs [(13, x13), (10, x10), (12, x12), (11, x11), (7, x7), (1, x1), (5, x5), (0, x0)]) h K =
      p7arrrrrrrlrborlbrll C L x13 x10 x12 x11 x7 x1 x5 x0 h (fun x113 x12 x11 x7 x1 x5 x0 h => K .normal (fs [(113, x113), (12, x12), (11, x11), (7, x7), (1, x1), (5, x5), (0, x0)]) h) := by
  kernel_rfl
noncomputable def c7arrrrrrrlrborlbrlr : Code := cR c7arrrrrrrlrborlbrl
noncomputable def p7arrrrrrrlrborlbrlr (C : CF) (L : Nat) {β : Type} (x113 : Value) (x12 : Value) (x11 : Value) (x7 : Value) (x1 : Value) (x5 : Value) (x0 : Value) (h : H) (kr : Value → H → Option β) (kn : Value → Value → Value → Value → Value → Value → H → Option β) : Option β :=
  condV x113 (
  kr (.bool false) h) (
  kn x12 x11 x7 x1 x5 x0 h)
theorem ep7arrrrrrrlrborlbrlr (C : CF) (L : Nat) {β : Type} (x113 : Value) (x12 : Value) (x11 : Value) (x7 : Value) (x1 : Value) (x5 : Value) (x0 : Value) (h : H) (K : Ex → T Value → H → Option β) :
    execK Tryd.prog C L 1 129 [4] c7arrrrrrrlrborlbrlr [12, 11, 7, 1, 5, 0] [(5, [11, 7, 1, 10, 5, 0]), (4, [5, 0])] (fs [(113, x113), (12, x12), (11, x11), (7, x7), (1, x1), (5, x5), (0, x0)]) h K =
      p7arrrrrrrlrborlbrlr C L x113 x12 x11 x7 x1 x5 x0 h (fun x4 h => K .ret (fs [(4, x4)]) h) (fun x12 x11 x7 x1 x5 x0 h => K .normal (fs [(12, x12), (11, x11), (7, x7), (1, x1), (5, x5), (0, x0)]) h) := by
  kernel_rfl
noncomputable def p7arrrrrrrlrborlbrl (C : CF) (L : Nat) {β : Type} (x13 : Value) (x10 : Value) (x12 : Value) (x11 : Value) (x7 : Value) (x1 : Value) (x5 : Value) (x0 : Value) (h : H) (kr : Value → H → Option β) (kn : Value → Value → Value → Value → Value → Value → H → Option β) : Option β :=
  p7arrrrrrrlrborlbrll C L x13 x10 x12 x11 x7 x1 x5 x0 h (fun x113 x12 x11 x7 x1 x5 x0 h => p7arrrrrrrlrborlbrlr C L x113 x12 x11 x7 x1 x5 x0 h kr kn)
theorem ep7arrrrrrrlrborlbrl (C : CF) (L : Nat) {β : Type} (x13 : Value) (x10 : Value) (x12 : Value) (x11 : Value) (x7 : Value) (x1 : Value) (x5 : Value) (x0 : Value) (h : H) (K : Ex → T Value → H → Option β) :
    execK Tryd.prog C L 1 129 [4] c7arrrrrrrlrborlbrl [12, 11, 7, 1, 5, 0] [(5, [11, 7, 1, 10, 5, 0]), (4, [5, 0])] (fs [(13, x13), (10, x10), (12, x12), (11, x11), (7, x7), (1, x1), (5, x5), (0, x0)]) h K =
      p7arrrrrrrlrborlbrl C L x13 x10 x12 x11 x7 x1 x5 x0 h (fun x4 h => K .ret (fs [(4, x4)]) h) (fun x12 x11 x7 x1 x5 x0 h => K .normal (fs [(12, x12), (11, x11), (7, x7), (1, x1), (5, x5), (0, x0)]) h) := by
  rw [execK_seq (a := c7arrrrrrrlrborlbrll) (b := c7arrrrrrrlrborlbrlr) (by kernel_rfl) (show live [4] c7arrrrrrrlrborlbrlr [12, 11, 7, 1, 5, 0] [(5, [11, 7, 1, 10, 5, 0]), (4, [5, 0])] = [113, 12, 11, 7, 1, 5, 0] by kernel_rfl), ep7arrrrrrrlrborlbrll]
  unfold p7arrrrrrrlrborlbrl
  exact (congrArg (p7arrrrrrrlrborlbrll C L x13 x10 x12 x11 x7 x1 x5 x0 h) (funext fun x113 => funext fun x12 => funext fun x11 => funext fun x7 => funext fun x1 => funext fun x5 => funext fun x0 => funext fun h => (seqK_n _ _ _).trans (ep7arrrrrrrlrborlbrlr C L x113 x12 x11 x7 x1 x5 x0 h K)))
noncomputable def c7arrrrrrrlrborlbrr : Code := cR c7arrrrrrrlrborlbr
noncomputable def p7arrrrrrrlrborlbrr (C : CF) (L : Nat) {β : Type} (x12 : Value) (x11 : Value) (x7 : Value) (x1 : Value) (x5 : Value) (x0 : Value) (h : H) (kn : Value → Value → Value → Value → Value → Value → H → Option β) : Option β :=
  kn x11 x7 x1 x12 x5 x0 h
theorem ep7arrrrrrrlrborlbrr (C : CF) (L : Nat) {β : Type} (x12 : Value) (x11 : Value) (x7 : Value) (x1 : Value) (x5 : Value) (x0 : Value) (h : H) (K : Ex → T Value → H → Option β) :
    execK Tryd.prog C L 1 129 [4] c7arrrrrrrlrborlbrr [11, 7, 1, 10, 5, 0] [(5, [11, 7, 1, 10, 5, 0]), (4, [5, 0])] (fs [(12, x12), (11, x11), (7, x7), (1, x1), (5, x5), (0, x0)]) h K =
      p7arrrrrrrlrborlbrr C L x12 x11 x7 x1 x5 x0 h (fun x11 x7 x1 x10 x5 x0 h => K .normal (fs [(11, x11), (7, x7), (1, x1), (10, x10), (5, x5), (0, x0)]) h) := by
  kernel_rfl
noncomputable def p7arrrrrrrlrborlbr (C : CF) (L : Nat) {β : Type} (x13 : Value) (x10 : Value) (x12 : Value) (x11 : Value) (x7 : Value) (x1 : Value) (x5 : Value) (x0 : Value) (h : H) (kn : Value → Value → Value → Value → Value → Value → H → Option β) (kr : Value → H → Option β) : Option β :=
  p7arrrrrrrlrborlbrl C L x13 x10 x12 x11 x7 x1 x5 x0 h kr (fun x12 x11 x7 x1 x5 x0 h => p7arrrrrrrlrborlbrr C L x12 x11 x7 x1 x5 x0 h kn)
theorem ep7arrrrrrrlrborlbr (C : CF) (L : Nat) {β : Type} (x13 : Value) (x10 : Value) (x12 : Value) (x11 : Value) (x7 : Value) (x1 : Value) (x5 : Value) (x0 : Value) (h : H) (K : Ex → T Value → H → Option β) :
    execK Tryd.prog C L 1 129 [4] c7arrrrrrrlrborlbr [11, 7, 1, 10, 5, 0] [(5, [11, 7, 1, 10, 5, 0]), (4, [5, 0])] (fs [(13, x13), (10, x10), (12, x12), (11, x11), (7, x7), (1, x1), (5, x5), (0, x0)]) h K =
      p7arrrrrrrlrborlbr C L x13 x10 x12 x11 x7 x1 x5 x0 h (fun x11 x7 x1 x10 x5 x0 h => K .normal (fs [(11, x11), (7, x7), (1, x1), (10, x10), (5, x5), (0, x0)]) h) (fun x4 h => K .ret (fs [(4, x4)]) h) := by
  rw [execK_seq (a := c7arrrrrrrlrborlbrl) (b := c7arrrrrrrlrborlbrr) (by kernel_rfl) (show live [4] c7arrrrrrrlrborlbrr [11, 7, 1, 10, 5, 0] [(5, [11, 7, 1, 10, 5, 0]), (4, [5, 0])] = [12, 11, 7, 1, 5, 0] by kernel_rfl), ep7arrrrrrrlrborlbrl]
  unfold p7arrrrrrrlrborlbr
  exact (congr (congrArg (p7arrrrrrrlrborlbrl C L x13 x10 x12 x11 x7 x1 x5 x0 h) (funext fun x4 => funext fun h => seqK_r _ _ _)) (funext fun x12 => funext fun x11 => funext fun x7 => funext fun x1 => funext fun x5 => funext fun x0 => funext fun h => (seqK_n _ _ _).trans (ep7arrrrrrrlrborlbrr C L x12 x11 x7 x1 x5 x0 h K)))
noncomputable def p7arrrrrrrlrborlb (C : CF) (L : Nat) {β : Type} (x10 : Value) (x11 : Value) (x7 : Value) (x1 : Value) (x5 : Value) (x0 : Value) (h : H) (kn : Value → Value → Value → Value → Value → Value → H → Option β) (kr : Value → H → Option β) : Option β :=
  p7arrrrrrrlrborlbl C L x10 x11 x7 x1 x5 x0 h (fun x13 x10 x12 x11 x7 x1 x5 x0 h => p7arrrrrrrlrborlbr C L x13 x10 x12 x11 x7 x1 x5 x0 h kn kr)
theorem ep7arrrrrrrlrborlb (C : CF) (L : Nat) {β : Type} (x10 : Value) (x11 : Value) (x7 : Value) (x1 : Value) (x5 : Value) (x0 : Value) (h : H) (K : Ex → T Value → H → Option β) :
    execK Tryd.prog C L 1 129 [4] c7arrrrrrrlrborlb [11, 7, 1, 10, 5, 0] [(5, [11, 7, 1, 10, 5, 0]), (4, [5, 0])] (fs [(10, x10), (11, x11), (7, x7), (1, x1), (5, x5), (0, x0)]) h K =
      p7arrrrrrrlrborlb C L x10 x11 x7 x1 x5 x0 h (fun x11 x7 x1 x10 x5 x0 h => K .normal (fs [(11, x11), (7, x7), (1, x1), (10, x10), (5, x5), (0, x0)]) h) (fun x4 h => K .ret (fs [(4, x4)]) h) := by
  rw [execK_seq (a := c7arrrrrrrlrborlbl) (b := c7arrrrrrrlrborlbr) (by kernel_rfl) (show live [4] c7arrrrrrrlrborlbr [11, 7, 1, 10, 5, 0] [(5, [11, 7, 1, 10, 5, 0]), (4, [5, 0])] = [13, 10, 12, 11, 7, 1, 5, 0] by kernel_rfl), ep7arrrrrrrlrborlbl]
  unfold p7arrrrrrrlrborlb
  exact (congrArg (p7arrrrrrrlrborlbl C L x10 x11 x7 x1 x5 x0 h) (funext fun x13 => funext fun x10 => funext fun x12 => funext fun x11 => funext fun x7 => funext fun x1 => funext fun x5 => funext fun x0 => funext fun h => (seqK_n _ _ _).trans (ep7arrrrrrrlrborlbr C L x13 x10 x12 x11 x7 x1 x5 x0 h K)))
noncomputable def p7arrrrrrrlrborl (C : CF) (L : Nat) {β : Type} (x10 : Value) (x11 : Value) (x7 : Value) (x1 : Value) (x5 : Value) (x0 : Value) (h : H) (kn : Value → Value → Value → Value → Value → Value → H → Option β) (kr : Value → H → Option β) : Option β :=
  p7arrrrrrrlrborlb C L x10 x11 x7 x1 x5 x0 h kn kr
theorem ep7arrrrrrrlrborl (C : CF) (L : Nat) {β : Type} (x10 : Value) (x11 : Value) (x7 : Value) (x1 : Value) (x5 : Value) (x0 : Value) (h : H) (K : Ex → T Value → H → Option β) :
    execK Tryd.prog C L 1 129 [4] c7arrrrrrrlrborl [11, 7, 1, 10, 5, 0] [(4, [5, 0])] (fs [(10, x10), (11, x11), (7, x7), (1, x1), (5, x5), (0, x0)]) h K =
      p7arrrrrrrlrborl C L x10 x11 x7 x1 x5 x0 h (fun x11 x7 x1 x10 x5 x0 h => K .normal (fs [(11, x11), (7, x7), (1, x1), (10, x10), (5, x5), (0, x0)]) h) (fun x4 h => K .ret (fs [(4, x4)]) h) := by
  rw [execK_block (b := c7arrrrrrrlrborlb) (id := 5) (by kernel_rfl), ep7arrrrrrrlrborlb]
  unfold p7arrrrrrrlrborl
  rfl
noncomputable def c7arrrrrrrlrborr : Code := cR c7arrrrrrrlrbor
noncomputable def p7arrrrrrrlrborr (C : CF) (L : Nat) {β : Type} (x11 : Value) (x7 : Value) (x1 : Value) (x10 : Value) (x5 : Value) (x0 : Value) (h : H) (kn : Value → Value → Value → Value → Value → Value → H → Option β) : Option β :=
  bnd (A.bin Tryd.prog .add 3 x11 (.int .i64 1)) fun t90 =>
  kn x7 t90 x1 x10 x5 x0 h
theorem ep7arrrrrrrlrborr (C : CF) (L : Nat) {β : Type} (x11 : Value) (x7 : Value) (x1 : Value) (x10 : Value) (x5 : Value) (x0 : Value) (h : H) (K : Ex → T Value → H → Option β) :
    execK Tryd.prog C L 1 129 [4] c7arrrrrrrlrborr [7, 11, 1, 10, 5, 0] [(4, [5, 0])] (fs [(11, x11), (7, x7), (1, x1), (10, x10), (5, x5), (0, x0)]) h K =
      p7arrrrrrrlrborr C L x11 x7 x1 x10 x5 x0 h (fun x7 x11 x1 x10 x5 x0 h => K .normal (fs [(7, x7), (11, x11), (1, x1), (10, x10), (5, x5), (0, x0)]) h) := by
  kernel_rfl
noncomputable def p7arrrrrrrlrbor (C : CF) (L : Nat) {β : Type} (x10 : Value) (x11 : Value) (x7 : Value) (x1 : Value) (x5 : Value) (x0 : Value) (h : H) (kn : Value → Value → Value → Value → Value → Value → H → Option β) (kr : Value → H → Option β) : Option β :=
  p7arrrrrrrlrborl C L x10 x11 x7 x1 x5 x0 h (fun x11 x7 x1 x10 x5 x0 h => p7arrrrrrrlrborr C L x11 x7 x1 x10 x5 x0 h kn) kr
theorem ep7arrrrrrrlrbor (C : CF) (L : Nat) {β : Type} (x10 : Value) (x11 : Value) (x7 : Value) (x1 : Value) (x5 : Value) (x0 : Value) (h : H) (K : Ex → T Value → H → Option β) :
    execK Tryd.prog C L 1 129 [4] c7arrrrrrrlrbor [7, 11, 1, 10, 5, 0] [(4, [5, 0])] (fs [(10, x10), (11, x11), (7, x7), (1, x1), (5, x5), (0, x0)]) h K =
      p7arrrrrrrlrbor C L x10 x11 x7 x1 x5 x0 h (fun x7 x11 x1 x10 x5 x0 h => K .normal (fs [(7, x7), (11, x11), (1, x1), (10, x10), (5, x5), (0, x0)]) h) (fun x4 h => K .ret (fs [(4, x4)]) h) := by
  rw [execK_seq (a := c7arrrrrrrlrborl) (b := c7arrrrrrrlrborr) (by kernel_rfl) (show live [4] c7arrrrrrrlrborr [7, 11, 1, 10, 5, 0] [(4, [5, 0])] = [11, 7, 1, 10, 5, 0] by kernel_rfl), ep7arrrrrrrlrborl]
  unfold p7arrrrrrrlrbor
  exact (congr (congrArg (p7arrrrrrrlrborl C L x10 x11 x7 x1 x5 x0 h) (funext fun x11 => funext fun x7 => funext fun x1 => funext fun x10 => funext fun x5 => funext fun x0 => funext fun h => (seqK_n _ _ _).trans (ep7arrrrrrrlrborr C L x11 x7 x1 x10 x5 x0 h K))) (funext fun x4 => funext fun h => seqK_r _ _ _))
noncomputable def p7arrrrrrrlrbo (C : CF) (L : Nat) {β : Type} (x7 : Value) (x11 : Value) (x1 : Value) (x10 : Value) (x5 : Value) (x0 : Value) (h : H) (kn : Value → Value → Value → Value → Value → Value → H → Option β) (kr : Value → H → Option β) (kx4 : Value → Value → H → Option β) : Option β :=
  p7arrrrrrrlrbol C L x7 x11 x1 x10 x5 x0 h (fun x10 x11 x7 x1 x5 x0 h => p7arrrrrrrlrbor C L x10 x11 x7 x1 x5 x0 h kn kr) kx4
theorem ep7arrrrrrrlrbo (C : CF) (L : Nat) {β : Type} (x7 : Value) (x11 : Value) (x1 : Value) (x10 : Value) (x5 : Value) (x0 : Value) (h : H) (K : Ex → T Value → H → Option β) :
    execK Tryd.prog C L 1 129 [4] c7arrrrrrrlrbo [7, 11, 1, 10, 5, 0] [(4, [5, 0])] (fs [(7, x7), (11, x11), (1, x1), (10, x10), (5, x5), (0, x0)]) h K =
      p7arrrrrrrlrbo C L x7 x11 x1 x10 x5 x0 h (fun x7 x11 x1 x10 x5 x0 h => K .normal (fs [(7, x7), (11, x11), (1, x1), (10, x10), (5, x5), (0, x0)]) h) (fun x4 h => K .ret (fs [(4, x4)]) h) (fun x5 x0 h => K (.exit 4) (fs [(5, x5), (0, x0)]) h) := by
  rw [execK_seq (a := c7arrrrrrrlrbol) (b := c7arrrrrrrlrbor) (by kernel_rfl) (show live [4] c7arrrrrrrlrbor [7, 11, 1, 10, 5, 0] [(4, [5, 0])] = [10, 11, 7, 1, 5, 0] by kernel_rfl), ep7arrrrrrrlrbol]
  unfold p7arrrrrrrlrbo
  exact (congr (congrArg (p7arrrrrrrlrbol C L x7 x11 x1 x10 x5 x0 h) (funext fun x10 => funext fun x11 => funext fun x7 => funext fun x1 => funext fun x5 => funext fun x0 => funext fun h => (seqK_n _ _ _).trans (ep7arrrrrrrlrbor C L x10 x11 x7 x1 x5 x0 h K))) (funext fun x5 => funext fun x0 => funext fun h => seqK_x _ _ _ _))
noncomputable def p7arrrrrrrlrbw (C : CF) (L : Nat) {β : Type} (kr : Value → H → Option β) (kx4 : Value → Value → H → Option β) : Nat → Value → Value → Value → Value → Value → Value → H → Option β
  | 0, _, _, _, _, _, _, _ => none
  | n + 1, x7, x11, x1, x10, x5, x0, h => p7arrrrrrrlrbo C L x7 x11 x1 x10 x5 x0 h (fun x7 x11 x1 x10 x5 x0 h => p7arrrrrrrlrbw C L kr kx4 n x7 x11 x1 x10 x5 x0 h) kr kx4
theorem ep7arrrrrrrlrbw (C : CF) (L : Nat) {β : Type} (K : Ex → T Value → H → Option β) : ∀ (n : Nat) (x7 : Value) (x11 : Value) (x1 : Value) (x10 : Value) (x5 : Value) (x0 : Value) (h : H),
    loopK (fun fr h K => execK Tryd.prog C L 1 129 [4] c7arrrrrrrlrbo [7, 11, 1, 10, 5, 0] [(4, [5, 0])] fr h K) n (fs [(7, x7), (11, x11), (1, x1), (10, x10), (5, x5), (0, x0)]) h K =
      p7arrrrrrrlrbw C L (fun x4 h => K .ret (fs [(4, x4)]) h) (fun x5 x0 h => K (.exit 4) (fs [(5, x5), (0, x0)]) h) n x7 x11 x1 x10 x5 x0 h := by
  intro n
  induction n with
  | zero => intros; rfl
  | succ n ih =>
    intros
    simp only [loopK]
    rw [ep7arrrrrrrlrbo]
    simp only [seqK_n, seqK_x, seqK_r, ih]
    rfl
noncomputable def p7arrrrrrrlrb (C : CF) (L : Nat) {β : Type} (x7 : Value) (x11 : Value) (x1 : Value) (x10 : Value) (x5 : Value) (x0 : Value) (h : H) (kr : Value → H → Option β) (kx4 : Value → Value → H → Option β) : Option β :=
  p7arrrrrrrlrbw C L kr kx4 L x7 x11 x1 x10 x5 x0 h
theorem ep7arrrrrrrlrb (C : CF) (L : Nat) {β : Type} (x7 : Value) (x11 : Value) (x1 : Value) (x10 : Value) (x5 : Value) (x0 : Value) (h : H) (K : Ex → T Value → H → Option β) :
    execK Tryd.prog C L 1 129 [4] c7arrrrrrrlrb [5, 0] [(4, [5, 0])] (fs [(7, x7), (11, x11), (1, x1), (10, x10), (5, x5), (0, x0)]) h K =
      p7arrrrrrrlrb C L x7 x11 x1 x10 x5 x0 h (fun x4 h => K .ret (fs [(4, x4)]) h) (fun x5 x0 h => K (.exit 4) (fs [(5, x5), (0, x0)]) h) := by
  rw [execK_loop (b := c7arrrrrrrlrbo) (fr1 := (fs [(7, x7), (11, x11), (1, x1), (10, x10), (5, x5), (0, x0)])) (by kernel_rfl) (show live [4] c7arrrrrrrlrbo [] [(4, [5, 0])] = [7, 11, 1, 10, 5, 0] by kernel_rfl) (by kernel_rfl), ep7arrrrrrrlrbw]
  unfold p7arrrrrrrlrb
  rfl
noncomputable def p7arrrrrrrlr (C : CF) (L : Nat) {β : Type} (x7 : Value) (x11 : Value) (x1 : Value) (x10 : Value) (x5 : Value) (x0 : Value) (h : H) (kr : Value → H → Option β) (kn : Value → Value → H → Option β) : Option β :=
  p7arrrrrrrlrb C L x7 x11 x1 x10 x5 x0 h kr kn
theorem ep7arrrrrrrlr (C : CF) (L : Nat) {β : Type} (x7 : Value) (x11 : Value) (x1 : Value) (x10 : Value) (x5 : Value) (x0 : Value) (h : H) (K : Ex → T Value → H → Option β) :
    execK Tryd.prog C L 1 129 [4] c7arrrrrrrlr [5, 0] [] (fs [(7, x7), (11, x11), (1, x1), (10, x10), (5, x5), (0, x0)]) h K =
      p7arrrrrrrlr C L x7 x11 x1 x10 x5 x0 h (fun x4 h => K .ret (fs [(4, x4)]) h) (fun x5 x0 h => K .normal (fs [(5, x5), (0, x0)]) h) := by
  rw [execK_block (b := c7arrrrrrrlrb) (id := 4) (by kernel_rfl), ep7arrrrrrrlrb]
  unfold p7arrrrrrrlr
  rfl
noncomputable def p7arrrrrrrl (C : CF) (L : Nat) {β : Type} (x7 : Value) (x1 : Value) (x10 : Value) (x5 : Value) (x0 : Value) (h : H) (kr : Value → H → Option β) (kn : Value → Value → H → Option β) : Option β :=
  p7arrrrrrrll C L x7 x1 x10 x5 x0 h (fun x7 x11 x1 x10 x5 x0 h => p7arrrrrrrlr C L x7 x11 x1 x10 x5 x0 h kr kn)
theorem ep7arrrrrrrl (C : CF) (L : Nat) {β : Type} (x7 : Value) (x1 : Value) (x10 : Value) (x5 : Value) (x0 : Value) (h : H) (K : Ex → T Value → H → Option β) :
    execK Tryd.prog C L 1 129 [4] c7arrrrrrrl [5, 0] [] (fs [(7, x7), (1, x1), (10, x10), (5, x5), (0, x0)]) h K =
      p7arrrrrrrl C L x7 x1 x10 x5 x0 h (fun x4 h => K .ret (fs [(4, x4)]) h) (fun x5 x0 h => K .normal (fs [(5, x5), (0, x0)]) h) := by
  rw [execK_seq (a := c7arrrrrrrll) (b := c7arrrrrrrlr) (by kernel_rfl) (show live [4] c7arrrrrrrlr [5, 0] [] = [7, 11, 1, 10, 5, 0] by kernel_rfl), ep7arrrrrrrll]
  unfold p7arrrrrrrl
  exact (congrArg (p7arrrrrrrll C L x7 x1 x10 x5 x0 h) (funext fun x7 => funext fun x11 => funext fun x1 => funext fun x10 => funext fun x5 => funext fun x0 => funext fun h => (seqK_n _ _ _).trans (ep7arrrrrrrlr C L x7 x11 x1 x10 x5 x0 h K)))
noncomputable def c7arrrrrrrr : Code := cR c7arrrrrrr
noncomputable def p7arrrrrrrr (C : CF) (L : Nat) {β : Type} (x5 : Value) (x0 : Value) (h : H) (kr : Value → H → Option β) : Option β :=
  bnd2 (C 11 [x5] h) fun t116 hq1 =>
  bnd (A.conv Tryd.prog 25 3 x0) fun t118 =>
  bnd (A.bin Tryd.prog .eql 3 t116 t118) fun t119 =>
  toBK t119 fun b =>
  (bif b then
  bnd (A.bin Tryd.prog .add 25 x0 (.int .u16 1)) fun t123 =>
  bnd2 (C 9 [x5, t123] hq1) fun t124 hq2 =>
  toBK t124 fun bq1 =>
  (bif bq1 then
  bnd2 (C 15 [] hq2) fun t127 hq3 =>
  toBK t127 fun bq2 =>
  kr (.bool bq2) hq3
  else
  kr (.bool false) hq2)
  else
  kr (.bool false) hq1)
theorem ep7arrrrrrrr (C : CF) (L : Nat) {β : Type} (x5 : Value) (x0 : Value) (h : H) (K : Ex → T Value → H → Option β) :
    execK Tryd.prog C L 1 129 [4] c7arrrrrrrr [4] [] (fs [(5, x5), (0, x0)]) h K =
      p7arrrrrrrr C L x5 x0 h (fun x4 h => K .ret (fs [(4, x4)]) h) := by
  kernel_rfl
noncomputable def p7arrrrrrr (C : CF) (L : Nat) {β : Type} (x7 : Value) (x1 : Value) (x10 : Value) (x5 : Value) (x0 : Value) (h : H) (kr : Value → H → Option β) : Option β :=
  p7arrrrrrrl C L x7 x1 x10 x5 x0 h kr (fun x5 x0 h => p7arrrrrrrr C L x5 x0 h kr)
theorem ep7arrrrrrr (C : CF) (L : Nat) {β : Type} (x7 : Value) (x1 : Value) (x10 : Value) (x5 : Value) (x0 : Value) (h : H) (K : Ex → T Value → H → Option β) :
    execK Tryd.prog C L 1 129 [4] c7arrrrrrr [4] [] (fs [(7, x7), (1, x1), (10, x10), (5, x5), (0, x0)]) h K =
      p7arrrrrrr C L x7 x1 x10 x5 x0 h (fun x4 h => K .ret (fs [(4, x4)]) h) := by
  rw [execK_seq (a := c7arrrrrrrl) (b := c7arrrrrrrr) (by kernel_rfl) (show live [4] c7arrrrrrrr [4] [] = [5, 0] by kernel_rfl), ep7arrrrrrrl]
  unfold p7arrrrrrr
  exact (congr (congrArg (p7arrrrrrrl C L x7 x1 x10 x5 x0 h) (funext fun x4 => funext fun h => seqK_r _ _ _)) (funext fun x5 => funext fun x0 => funext fun h => (seqK_n _ _ _).trans (ep7arrrrrrrr C L x5 x0 h K)))
noncomputable def p7arrrrrr (C : CF) (L : Nat) {β : Type} (x7 : Value) (x1 : Value) (x5 : Value) (x0 : Value) (h : H) (kr : Value → H → Option β) : Option β :=
  p7arrrrrrl C L x7 x1 x5 x0 h (fun x7 x1 x10 x5 x0 h => p7arrrrrrr C L x7 x1 x10 x5 x0 h kr)
theorem ep7arrrrrr (C : CF) (L : Nat) {β : Type} (x7 : Value) (x1 : Value) (x5 : Value) (x0 : Value) (h : H) (K : Ex → T Value → H → Option β) :
    execK Tryd.prog C L 1 129 [4] c7arrrrrr [4] [] (fs [(7, x7), (1, x1), (5, x5), (0, x0)]) h K =
      p7arrrrrr C L x7 x1 x5 x0 h (fun x4 h => K .ret (fs [(4, x4)]) h) := by
  rw [execK_seq (a := c7arrrrrrl) (b := c7arrrrrrr) (by kernel_rfl) (show live [4] c7arrrrrrr [4] [] = [7, 1, 10, 5, 0] by kernel_rfl), ep7arrrrrrl]
  unfold p7arrrrrr
  exact (congrArg (p7arrrrrrl C L x7 x1 x5 x0 h) (funext fun x7 => funext fun x1 => funext fun x10 => funext fun x5 => funext fun x0 => funext fun h => (seqK_n _ _ _).trans (ep7arrrrrrr C L x7 x1 x10 x5 x0 h K)))
noncomputable def p7arrrrr (C : CF) (L : Nat) {β : Type} (x7 : Value) (x1 : Value) (x5 : Value) (x0 : Value) (h : H) (kr : Value → H → Option β) : Option β :=
  p7arrrrrl C L x7 x1 x5 x0 h kr (fun x7 x1 x5 x0 h => p7arrrrrr C L x7 x1 x5 x0 h kr)
theorem ep7arrrrr (C : CF) (L : Nat) {β : Type} (x7 : Value) (x1 : Value) (x5 : Value) (x0 : Value) (h : H) (K : Ex → T Value → H → Option β) :
    execK Tryd.prog C L 1 129 [4] c7arrrrr [4] [] (fs [(7, x7), (1, x1), (5, x5), (0, x0)]) h K =
      p7arrrrr C L x7 x1 x5 x0 h (fun x4 h => K .ret (fs [(4, x4)]) h) := by
  rw [execK_seq (a := c7arrrrrl) (b := c7arrrrrr) (by kernel_rfl) (show live [4] c7arrrrrr [4] [] = [7, 1, 5, 0] by kernel_rfl), ep7arrrrrl]
  unfold p7arrrrr
  exact (congr (congrArg (p7arrrrrl C L x7 x1 x5 x0 h) (funext fun x4 => funext fun h => seqK_r _ _ _)) (funext fun x7 => funext fun x1 => funext fun x5 => funext fun x0 => funext fun h => (seqK_n _ _ _).trans (ep7arrrrrr C L x7 x1 x5 x0 h K)))
noncomputable def p7arrrr (C : CF) (L : Nat) {β : Type} (x1 : Value) (x5 : Value) (x0 : Value) (h : H) (kr : Value → H → Option β) : Option β :=
  p7arrrrl C L x1 x5 x0 h (fun x7 x1 x5 x0 h => p7arrrrr C L x7 x1 x5 x0 h kr)
theorem ep7arrrr (C : CF) (L : Nat) {β : Type} (x1 : Value) (x5 : Value) (x0 : Value) (h : H) (K : Ex → T Value → H → Option β) :
    execK Tryd.prog C L 1 129 [4] c7arrrr [4] [] (fs [(1, x1), (5, x5), (0, x0)]) h K =
      p7arrrr C L x1 x5 x0 h (fun x4 h => K .ret (fs [(4, x4)]) h) := by
  rw [execK_seq (a := c7arrrrl) (b := c7arrrrr) (by kernel_rfl) (show live [4] c7arrrrr [4] [] = [7, 1, 5, 0] by kernel_rfl), ep7arrrrl]
  unfold p7arrrr
  exact (congrArg (p7arrrrl C L x1 x5 x0 h) (funext fun x7 => funext fun x1 => funext fun x5 => funext fun x0 => funext fun h => (seqK_n _ _ _).trans (ep7arrrrr C L x7 x1 x5 x0 h K)))
noncomputable def p7arrr (C : CF) (L : Nat) {β : Type} (x1 : Value) (x5 : Value) (x0 : Value) (h : H) (kr : Value → H → Option β) : Option β :=
  p7arrrl C L x1 x5 x0 h kr (fun x1 x5 x0 h => p7arrrr C L x1 x5 x0 h kr)
theorem ep7arrr (C : CF) (L : Nat) {β : Type} (x1 : Value) (x5 : Value) (x0 : Value) (h : H) (K : Ex → T Value → H → Option β) :
    execK Tryd.prog C L 1 129 [4] c7arrr [4] [] (fs [(1, x1), (5, x5), (0, x0)]) h K =
      p7arrr C L x1 x5 x0 h (fun x4 h => K .ret (fs [(4, x4)]) h) := by
  rw [execK_seq (a := c7arrrl) (b := c7arrrr) (by kernel_rfl) (show live [4] c7arrrr [4] [] = [1, 5, 0] by kernel_rfl), ep7arrrl]
  unfold p7arrr
  exact (congr (congrArg (p7arrrl C L x1 x5 x0 h) (funext fun x4 => funext fun h => seqK_r _ _ _)) (funext fun x1 => funext fun x5 => funext fun x0 => funext fun h => (seqK_n _ _ _).trans (ep7arrrr C L x1 x5 x0 h K)))
noncomputable def p7arr (C : CF) (L : Nat) {β : Type} (x1 : Value) (x0 : Value) (h : H) (kr : Value → H → Option β) : Option β :=
  p7arrl C L x1 x0 h (fun x1 x5 x0 h => p7arrr C L x1 x5 x0 h kr)
theorem ep7arr (C : CF) (L : Nat) {β : Type} (x1 : Value) (x0 : Value) (h : H) (K : Ex → T Value → H → Option β) :
    execK Tryd.prog C L 1 129 [4] c7arr [4] [] (fs [(1, x1), (0, x0)]) h K =
      p7arr C L x1 x0 h (fun x4 h => K .ret (fs [(4, x4)]) h) := by
  rw [execK_seq (a := c7arrl) (b := c7arrr) (by kernel_rfl) (show live [4] c7arrr [4] [] = [1, 5, 0] by kernel_rfl), ep7arrl]
  unfold p7arr
  exact (congrArg (p7arrl C L x1 x0 h) (funext fun x1 => funext fun x5 => funext fun x0 => funext fun h => (seqK_n _ _ _).trans (ep7arrr C L x1 x5 x0 h K)))
noncomputable def p7ar (C : CF) (L : Nat) {β : Type} (x1 : Value) (x0 : Value) (h : H) (kr : Value → H → Option β) : Option β :=
  p7arl C L x1 x0 h kr (fun x1 x0 h => p7arr C L x1 x0 h kr)
theorem ep7ar (C : CF) (L : Nat) {β : Type} (x1 : Value) (x0 : Value) (h : H) (K : Ex → T Value → H → Option β) :
    execK Tryd.prog C L 1 129 [4] c7ar [4] [] (fs [(1, x1), (0, x0)]) h K =
      p7ar C L x1 x0 h (fun x4 h => K .ret (fs [(4, x4)]) h) := by
  rw [execK_seq (a := c7arl) (b := c7arr) (by kernel_rfl) (show live [4] c7arr [4] [] = [1, 0] by kernel_rfl), ep7arl]
  unfold p7ar
  exact (congr (congrArg (p7arl C L x1 x0 h) (funext fun x4 => funext fun h => seqK_r _ _ _)) (funext fun x1 => funext fun x0 => funext fun h => (seqK_n _ _ _).trans (ep7arr C L x1 x0 h K)))
noncomputable def p7a (C : CF) (L : Nat) {β : Type} (x0 : Value) (x1 : Value) (h : H) (kr : Value → H → Option β) : Option β :=
  p7al C L x0 x1 h (fun x1 x0 h => p7ar C L x1 x0 h kr)
theorem ep7a (C : CF) (L : Nat) {β : Type} (x0 : Value) (x1 : Value) (h : H) (K : Ex → T Value → H → Option β) :
    execK Tryd.prog C L 1 129 [4] c7a [4] [] (fs [(0, x0), (1, x1)]) h K =
      p7a C L x0 x1 h (fun x4 h => K .ret (fs [(4, x4)]) h) := by
  rw [execK_seq (a := c7al) (b := c7ar) (by kernel_rfl) (show live [4] c7ar [4] [] = [1, 0] by kernel_rfl), ep7al]
  unfold p7a
  exact (congrArg (p7al C L x0 x1 h) (funext fun x1 => funext fun x0 => funext fun h => (seqK_n _ _ _).trans (ep7ar C L x1 x0 h K)))
noncomputable def F7 (C : CF) (L : Nat) (x0 : Value) (x1 : Value) (h : H) : Option (Value × H) :=
  p7a C L x0 x1 h
    (fun x4 h => some (x4, h))
theorem F7eq (O : List FuncId) (hO : O.any (Nat.beq 7) = false) (n : Nat) (x0 : Value) (x1 : Value) (h : H) : callB Tryd.prog 1 O (n + 1) 7 [x0, x1] h = F7 (callB Tryd.prog 1 O n) n x0 x1 h := by
  rw [callB_eq hO (c := c7a) (nt := 129) (RR := [4]) (fr := (fs [(0, x0), (1, x1)])) Tryd.func7 (by kernel_rfl) (by kernel_rfl) (by kernel_rfl) (by kernel_rfl) (by kernel_rfl), ep7a]
  kernel_rfl

end Go.Proofs.YtlhppeikbgolbaaDoor.IdsF7
