/-
  Functions of the program over the abstract machine: printed by a program of mine (wip/tools/Dec.lean), each with its equation to the machine's call.
-/
import Derived.Test.YtlhppeikbgolbaaDoorProg
import Derived.Test.YtlhppeikbgolbaaDoorAmDec
set_option linter.unusedVariables false
set_option maxRecDepth 100000
namespace Go.Proofs.YtlhppeikbgolbaaDoor.IdsF5
open Go Go.AM

noncomputable def Z4 : Value := (.bool false)
noncomputable def Z4L : List Value := [(.bool false)]

/-! F5: relayhouse/relayhouselaw11.IdsLeast -/
noncomputable def c5a : Code := (Tryd.f5.body).getD .skip
noncomputable def c5al : Code := cL c5a
noncomputable def p5al (C : CF) (L : Nat) {β : Type} (x0 : Value) (h : H) (kn : Value → H → Option β) : Option β :=
  kn x0 h
theorem ep5al (C : CF) (L : Nat) {β : Type} (x0 : Value) (h : H) (K : Ex → T Value → H → Option β) :
    execK Tryd.prog C L 1 102 [2] c5al [0] [] (fs [(0, x0)]) h K =
      p5al C L x0 h (fun x0 h => K .normal (fs [(0, x0)]) h) := by
  kernel_rfl
noncomputable def c5ar : Code := cR c5a
noncomputable def c5arl : Code := cL c5ar
noncomputable def p5arl (C : CF) (L : Nat) {β : Type} (x0 : Value) (h : H) (kr : Value → H → Option β) (kn : Value → H → Option β) : Option β :=
  bnd (A.lenS x0) fun t11 =>
  bnd (A.bin Tryd.prog .gtr 3 t11 (.int .i64 400)) fun t12 =>
  toBK t12 fun b =>
  (bif b then
  bnd2 (C 15 [] h) fun t13 hq1 =>
  toBK t13 fun bq1 =>
  kr (.bool bq1) hq1
  else
  kn x0 h)
theorem ep5arl (C : CF) (L : Nat) {β : Type} (x0 : Value) (h : H) (K : Ex → T Value → H → Option β) :
    execK Tryd.prog C L 1 102 [2] c5arl [0] [] (fs [(0, x0)]) h K =
      p5arl C L x0 h (fun x2 h => K .ret (fs [(2, x2)]) h) (fun x0 h => K .normal (fs [(0, x0)]) h) := by
  kernel_rfl
noncomputable def c5arr : Code := cR c5ar
noncomputable def c5arrl : Code := cL c5arr
noncomputable def p5arrl (C : CF) (L : Nat) {β : Type} (x0 : Value) (h : H) (kn : Value → Value → H → Option β) : Option β :=
  bnd2 (C 8 [] h) fun t14 hq1 =>
  kn x0 t14 hq1
theorem ep5arrl (C : CF) (L : Nat) {β : Type} (x0 : Value) (h : H) (K : Ex → T Value → H → Option β) :
    execK Tryd.prog C L 1 102 [2] c5arrl [0, 3] [] (fs [(0, x0)]) h K =
      p5arrl C L x0 h (fun x0 x3 h => K .normal (fs [(0, x0), (3, x3)]) h) := by
  kernel_rfl
noncomputable def c5arrr : Code := cR c5arr
noncomputable def c5arrrl : Code := cL c5arrr
noncomputable def p5arrrl (C : CF) (L : Nat) {β : Type} (x0 : Value) (x3 : Value) (h : H) (kn : Value → Value → Value → H → Option β) : Option β :=
  bnd2 (A.makeSlice 1 1 Z4L (.int .i64 65536) (.int .i64 65536) h) fun t15 hq1 =>
  kn t15 x0 x3 hq1
theorem ep5arrrl (C : CF) (L : Nat) {β : Type} (x0 : Value) (x3 : Value) (h : H) (K : Ex → T Value → H → Option β) :
    execK Tryd.prog C L 1 102 [2] c5arrrl [4, 0, 3] [] (fs [(0, x0), (3, x3)]) h K =
      p5arrrl C L x0 x3 h (fun x4 x0 x3 h => K .normal (fs [(4, x4), (0, x0), (3, x3)]) h) := by
  kernel_rfl
noncomputable def c5arrrr : Code := cR c5arrr
noncomputable def c5arrrrl : Code := cL c5arrrr
noncomputable def p5arrrrl (C : CF) (L : Nat) {β : Type} (x4 : Value) (x0 : Value) (x3 : Value) (h : H) (kn : Value → Value → Value → Value → H → Option β) : Option β :=
  kn x4 x0 x3 (.int .i64 0) h
theorem ep5arrrrl (C : CF) (L : Nat) {β : Type} (x4 : Value) (x0 : Value) (x3 : Value) (h : H) (K : Ex → T Value → H → Option β) :
    execK Tryd.prog C L 1 102 [2] c5arrrrl [4, 0, 3, 5] [] (fs [(4, x4), (0, x0), (3, x3)]) h K =
      p5arrrrl C L x4 x0 x3 h (fun x4 x0 x3 x5 h => K .normal (fs [(4, x4), (0, x0), (3, x3), (5, x5)]) h) := by
  kernel_rfl
noncomputable def c5arrrrr : Code := cR c5arrrr
noncomputable def c5arrrrrl : Code := cL c5arrrrr
noncomputable def c5arrrrrll : Code := cL c5arrrrrl
noncomputable def p5arrrrrll (C : CF) (L : Nat) {β : Type} (x4 : Value) (x0 : Value) (x3 : Value) (x5 : Value) (h : H) (kn : Value → Value → Value → Value → Value → H → Option β) : Option β :=
  kn (.int .i64 0) x4 x0 x3 x5 h
theorem ep5arrrrrll (C : CF) (L : Nat) {β : Type} (x4 : Value) (x0 : Value) (x3 : Value) (x5 : Value) (h : H) (K : Ex → T Value → H → Option β) :
    execK Tryd.prog C L 1 102 [2] c5arrrrrll [6, 4, 0, 3, 5] [] (fs [(4, x4), (0, x0), (3, x3), (5, x5)]) h K =
      p5arrrrrll C L x4 x0 x3 x5 h (fun x6 x4 x0 x3 x5 h => K .normal (fs [(6, x6), (4, x4), (0, x0), (3, x3), (5, x5)]) h) := by
  kernel_rfl
noncomputable def c5arrrrrlr : Code := cR c5arrrrrl
noncomputable def c5arrrrrlrb : Code := cL c5arrrrrlr
noncomputable def c5arrrrrlrbo : Code := cL c5arrrrrlrb
noncomputable def c5arrrrrlrbol : Code := cL c5arrrrrlrbo
noncomputable def p5arrrrrlrbol (C : CF) (L : Nat) {β : Type} (x6 : Value) (x4 : Value) (x0 : Value) (x3 : Value) (x5 : Value) (h : H) (kn : Value → Value → Value → Value → Value → H → Option β) (kx0 : Value → Value → H → Option β) : Option β :=
  bnd (A.lenS x0) fun t18 =>
  bnd (A.bin Tryd.prog .lss 3 x6 t18) fun t19 =>
  toBK t19 fun b =>
  (bif b then
  kn x5 x6 x4 x0 x3 h
  else
  kx0 x3 x5 h)
theorem ep5arrrrrlrbol (C : CF) (L : Nat) {β : Type} (x6 : Value) (x4 : Value) (x0 : Value) (x3 : Value) (x5 : Value) (h : H) (K : Ex → T Value → H → Option β) :
    execK Tryd.prog C L 1 102 [2] c5arrrrrlrbol [5, 6, 4, 0, 3] [(0, [3, 5])] (fs [(6, x6), (4, x4), (0, x0), (3, x3), (5, x5)]) h K =
      p5arrrrrlrbol C L x6 x4 x0 x3 x5 h (fun x5 x6 x4 x0 x3 h => K .normal (fs [(5, x5), (6, x6), (4, x4), (0, x0), (3, x3)]) h) (fun x3 x5 h => K (.exit 0) (fs [(3, x3), (5, x5)]) h) := by
  kernel_rfl
noncomputable def c5arrrrrlrbor : Code := cR c5arrrrrlrbo
noncomputable def c5arrrrrlrborl : Code := cL c5arrrrrlrbor
noncomputable def c5arrrrrlrborlb : Code := cL c5arrrrrlrborl
noncomputable def c5arrrrrlrborlbl : Code := cL c5arrrrrlrborlb
noncomputable def c5arrrrrlrborlbll : Code := cL c5arrrrrlrborlbl
noncomputable def p5arrrrrlrborlbll (C : CF) (L : Nat) {β : Type} (x5 : Value) (x6 : Value) (x4 : Value) (x0 : Value) (x3 : Value) (h : H) (kn : Value → Value → Value → Value → Value → Value → H → Option β) : Option β :=
  bnd (A.idxS 1 x0 x6) fun t24 =>
  bnd (A.load false 1 t24 h) fun t25 =>
  bnd (A.bin Tryd.prog .neq 25 t25 (.int .u16 0)) fun t26 =>
  toBK t26 fun b =>
  kn (.bool b) x5 x6 x4 x0 x3 h
theorem ep5arrrrrlrborlbll (C : CF) (L : Nat) {β : Type} (x5 : Value) (x6 : Value) (x4 : Value) (x0 : Value) (x3 : Value) (h : H) (K : Ex → T Value → H → Option β) :
    execK Tryd.prog C L 1 102 [2] c5arrrrrlrborlbll [26, 5, 6, 4, 0, 3] [(1, [6, 4, 0, 3, 5]), (0, [3, 5])] (fs [(5, x5), (6, x6), (4, x4), (0, x0), (3, x3)]) h K =
      p5arrrrrlrborlbll C L x5 x6 x4 x0 x3 h (fun x26 x5 x6 x4 x0 x3 h => K .normal (fs [(26, x26), (5, x5), (6, x6), (4, x4), (0, x0), (3, x3)]) h) := by
  kernel_rfl
noncomputable def c5arrrrrlrborlblr : Code := cR c5arrrrrlrborlbl
noncomputable def c5arrrrrlrborlblrt : Code := cL c5arrrrrlrborlblr
noncomputable def c5arrrrrlrborlblrtl : Code := cL c5arrrrrlrborlblrt
noncomputable def p5arrrrrlrborlblrtl (C : CF) (L : Nat) {β : Type} (x26 : Value) (x5 : Value) (x6 : Value) (x4 : Value) (x0 : Value) (x3 : Value) (h : H) (kr : Value → H → Option β) (kn : Value → Value → Value → Value → Value → H → Option β) : Option β :=
  bnd (A.idxS 1 x0 x6) fun t30 =>
  bnd (A.load false 1 t30 h) fun t31 =>
  bnd2 (C 12 [x3, t31] h) fun t32 hq1 =>
  toBK t32 fun b =>
  bnd (A.idxS 1 x0 x6) fun t36 =>
  bnd (A.load false 1 t36 hq1) fun t37 =>
  bif (chk (bnd (A.load false 1 t36 h) fun v => some v) t37 && true) then
  bnd (A.idxS 1 x4 t37) fun t38 =>
  bnd (A.load false 1 t38 hq1) fun t39 =>
  toBK t39 fun bq1 =>
  bif (chk (bnd (A.load false 1 t38 h) fun v => some v) (.bool bq1) && true) then
  bnd (A.bin Tryd.prog .neq 4 (.bool b) (.bool bq1)) fun t40 =>
  toBK t40 fun bq2 =>
  (bif bq2 then
  kr (.bool false) hq1
  else
  kn x6 x4 x0 x3 x5 hq1)
  else none
  else none
theorem ep5arrrrrlrborlblrtl (C : CF) (L : Nat) {β : Type} (x26 : Value) (x5 : Value) (x6 : Value) (x4 : Value) (x0 : Value) (x3 : Value) (h : H) (K : Ex → T Value → H → Option β) :
    execK Tryd.prog C L 1 102 [2] c5arrrrrlrborlblrtl [6, 4, 0, 3, 5] [(1, [6, 4, 0, 3, 5]), (0, [3, 5])] (fs [(26, x26), (5, x5), (6, x6), (4, x4), (0, x0), (3, x3)]) h K =
      p5arrrrrlrborlblrtl C L x26 x5 x6 x4 x0 x3 h (fun x2 h => K .ret (fs [(2, x2)]) h) (fun x6 x4 x0 x3 x5 h => K .normal (fs [(6, x6), (4, x4), (0, x0), (3, x3), (5, x5)]) h) := by
  kernel_rfl
noncomputable def c5arrrrrlrborlblrtr : Code := cR c5arrrrrlrborlblrt
noncomputable def p5arrrrrlrborlblrtr (C : CF) (L : Nat) {β : Type} (x6 : Value) (x4 : Value) (x0 : Value) (x3 : Value) (x5 : Value) (h : H) (kx1 : Value → Value → Value → Value → Value → H → Option β) : Option β :=
  bnd (A.idxS 1 x0 x6) fun t44 =>
  bnd (A.load false 1 t44 h) fun t45 =>
  bnd (A.idxS 1 x4 t45) fun t46 =>
  bnd (A.load false 1 t46 h) fun t47 =>
  toBK t47 fun b =>
  (bif b then
  bnd (A.bin Tryd.prog .sub 3 x5 (.int .i64 1)) fun t49 =>
  bnd (A.idxS 1 x0 x6) fun t53 =>
  bnd (A.load false 1 t53 h) fun t54 =>
  bnd (A.idxS 1 x4 t54) fun t55 =>
  bnd (A.store 1 t55 (.bool false) h) fun hq1 =>
  kx1 x6 x4 x0 x3 t49 hq1
  else
  bnd (A.idxS 1 x0 x6) fun t53q1 =>
  bnd (A.load false 1 t53q1 h) fun t54q1 =>
  bnd (A.idxS 1 x4 t54q1) fun t55q1 =>
  bnd (A.store 1 t55q1 (.bool false) h) fun hq2 =>
  kx1 x6 x4 x0 x3 x5 hq2)
theorem ep5arrrrrlrborlblrtr (C : CF) (L : Nat) {β : Type} (x6 : Value) (x4 : Value) (x0 : Value) (x3 : Value) (x5 : Value) (h : H) (K : Ex → T Value → H → Option β) :
    execK Tryd.prog C L 1 102 [2] c5arrrrrlrborlblrtr [5, 6, 4, 0, 3] [(1, [6, 4, 0, 3, 5]), (0, [3, 5])] (fs [(6, x6), (4, x4), (0, x0), (3, x3), (5, x5)]) h K =
      p5arrrrrlrborlblrtr C L x6 x4 x0 x3 x5 h (fun x6 x4 x0 x3 x5 h => K (.exit 1) (fs [(6, x6), (4, x4), (0, x0), (3, x3), (5, x5)]) h) := by
  kernel_rfl
noncomputable def p5arrrrrlrborlblrt (C : CF) (L : Nat) {β : Type} (x26 : Value) (x5 : Value) (x6 : Value) (x4 : Value) (x0 : Value) (x3 : Value) (h : H) (kx1 : Value → Value → Value → Value → Value → H → Option β) (kr : Value → H → Option β) : Option β :=
  p5arrrrrlrborlblrtl C L x26 x5 x6 x4 x0 x3 h kr (fun x6 x4 x0 x3 x5 h => p5arrrrrlrborlblrtr C L x6 x4 x0 x3 x5 h kx1)
theorem ep5arrrrrlrborlblrt (C : CF) (L : Nat) {β : Type} (x26 : Value) (x5 : Value) (x6 : Value) (x4 : Value) (x0 : Value) (x3 : Value) (h : H) (K : Ex → T Value → H → Option β) :
    execK Tryd.prog C L 1 102 [2] c5arrrrrlrborlblrt [5, 6, 4, 0, 3] [(1, [6, 4, 0, 3, 5]), (0, [3, 5])] (fs [(26, x26), (5, x5), (6, x6), (4, x4), (0, x0), (3, x3)]) h K =
      p5arrrrrlrborlblrt C L x26 x5 x6 x4 x0 x3 h (fun x6 x4 x0 x3 x5 h => K (.exit 1) (fs [(6, x6), (4, x4), (0, x0), (3, x3), (5, x5)]) h) (fun x2 h => K .ret (fs [(2, x2)]) h) := by
  rw [execK_seq (a := c5arrrrrlrborlblrtl) (b := c5arrrrrlrborlblrtr) (by kernel_rfl) (show live [2] c5arrrrrlrborlblrtr [5, 6, 4, 0, 3] [(1, [6, 4, 0, 3, 5]), (0, [3, 5])] = [6, 4, 0, 3, 5] by kernel_rfl), ep5arrrrrlrborlblrtl]
  unfold p5arrrrrlrborlblrt
  exact (congr (congrArg (p5arrrrrlrborlblrtl C L x26 x5 x6 x4 x0 x3 h) (funext fun x2 => funext fun h => seqK_r _ _ _)) (funext fun x6 => funext fun x4 => funext fun x0 => funext fun x3 => funext fun x5 => funext fun h => (seqK_n _ _ _).trans (ep5arrrrrlrborlblrtr C L x6 x4 x0 x3 x5 h K)))
noncomputable def c5arrrrrlrborlblrf : Code := cR c5arrrrrlrborlblr
noncomputable def p5arrrrrlrborlblrf (C : CF) (L : Nat) {β : Type} (x26 : Value) (x5 : Value) (x6 : Value) (x4 : Value) (x0 : Value) (x3 : Value) (h : H) (kn : Value → Value → Value → Value → Value → H → Option β) : Option β :=
  kn x5 x6 x4 x0 x3 h
theorem ep5arrrrrlrborlblrf (C : CF) (L : Nat) {β : Type} (x26 : Value) (x5 : Value) (x6 : Value) (x4 : Value) (x0 : Value) (x3 : Value) (h : H) (K : Ex → T Value → H → Option β) :
    execK Tryd.prog C L 1 102 [2] c5arrrrrlrborlblrf [5, 6, 4, 0, 3] [(1, [6, 4, 0, 3, 5]), (0, [3, 5])] (fs [(26, x26), (5, x5), (6, x6), (4, x4), (0, x0), (3, x3)]) h K =
      p5arrrrrlrborlblrf C L x26 x5 x6 x4 x0 x3 h (fun x5 x6 x4 x0 x3 h => K .normal (fs [(5, x5), (6, x6), (4, x4), (0, x0), (3, x3)]) h) := by
  kernel_rfl
noncomputable def p5arrrrrlrborlblr (C : CF) (L : Nat) {β : Type} (x26 : Value) (x5 : Value) (x6 : Value) (x4 : Value) (x0 : Value) (x3 : Value) (h : H) (kx1 : Value → Value → Value → Value → Value → H → Option β) (kr : Value → H → Option β) (kn : Value → Value → Value → Value → Value → H → Option β) : Option β :=
  condV x26 (p5arrrrrlrborlblrt C L x26 x5 x6 x4 x0 x3 h kx1 kr) (p5arrrrrlrborlblrf C L x26 x5 x6 x4 x0 x3 h kn)
theorem ep5arrrrrlrborlblr (C : CF) (L : Nat) {β : Type} (x26 : Value) (x5 : Value) (x6 : Value) (x4 : Value) (x0 : Value) (x3 : Value) (h : H) (K : Ex → T Value → H → Option β) :
    execK Tryd.prog C L 1 102 [2] c5arrrrrlrborlblr [5, 6, 4, 0, 3] [(1, [6, 4, 0, 3, 5]), (0, [3, 5])] (fs [(26, x26), (5, x5), (6, x6), (4, x4), (0, x0), (3, x3)]) h K =
      p5arrrrrlrborlblr C L x26 x5 x6 x4 x0 x3 h (fun x6 x4 x0 x3 x5 h => K (.exit 1) (fs [(6, x6), (4, x4), (0, x0), (3, x3), (5, x5)]) h) (fun x2 h => K .ret (fs [(2, x2)]) h) (fun x5 x6 x4 x0 x3 h => K .normal (fs [(5, x5), (6, x6), (4, x4), (0, x0), (3, x3)]) h) := by
  rw [execK_cond (a := c5arrrrrlrborlblrt) (b := c5arrrrrlrborlblrf) (x := (.tmp 26)) (v := x26) (by kernel_rfl) (by kernel_rfl), ep5arrrrrlrborlblrt, ep5arrrrrlrborlblrf]
  unfold p5arrrrrlrborlblr
  rfl
noncomputable def p5arrrrrlrborlbl (C : CF) (L : Nat) {β : Type} (x5 : Value) (x6 : Value) (x4 : Value) (x0 : Value) (x3 : Value) (h : H) (kx1 : Value → Value → Value → Value → Value → H → Option β) (kr : Value → H → Option β) (kn : Value → Value → Value → Value → Value → H → Option β) : Option β :=
  p5arrrrrlrborlbll C L x5 x6 x4 x0 x3 h (fun x26 x5 x6 x4 x0 x3 h => p5arrrrrlrborlblr C L x26 x5 x6 x4 x0 x3 h kx1 kr kn)
theorem ep5arrrrrlrborlbl (C : CF) (L : Nat) {β : Type} (x5 : Value) (x6 : Value) (x4 : Value) (x0 : Value) (x3 : Value) (h : H) (K : Ex → T Value → H → Option β) :
    execK Tryd.prog C L 1 102 [2] c5arrrrrlrborlbl [5, 6, 4, 0, 3] [(1, [6, 4, 0, 3, 5]), (0, [3, 5])] (fs [(5, x5), (6, x6), (4, x4), (0, x0), (3, x3)]) h K =
      p5arrrrrlrborlbl C L x5 x6 x4 x0 x3 h (fun x6 x4 x0 x3 x5 h => K (.exit 1) (fs [(6, x6), (4, x4), (0, x0), (3, x3), (5, x5)]) h) (fun x2 h => K .ret (fs [(2, x2)]) h) (fun x5 x6 x4 x0 x3 h => K .normal (fs [(5, x5), (6, x6), (4, x4), (0, x0), (3, x3)]) h) := by
  rw [execK_seq (a := c5arrrrrlrborlbll) (b := c5arrrrrlrborlblr) (by kernel_rfl) (show live [2] c5arrrrrlrborlblr [5, 6, 4, 0, 3] [(1, [6, 4, 0, 3, 5]), (0, [3, 5])] = [26, 5, 6, 4, 0, 3] by kernel_rfl), ep5arrrrrlrborlbll]
  unfold p5arrrrrlrborlbl
  exact (congrArg (p5arrrrrlrborlbll C L x5 x6 x4 x0 x3 h) (funext fun x26 => funext fun x5 => funext fun x6 => funext fun x4 => funext fun x0 => funext fun x3 => funext fun h => (seqK_n _ _ _).trans (ep5arrrrrlrborlblr C L x26 x5 x6 x4 x0 x3 h K)))
noncomputable def c5arrrrrlrborlbr : Code := cR c5arrrrrlrborlb
noncomputable def c5arrrrrlrborlbrl : Code := cL c5arrrrrlrborlbr
noncomputable def p5arrrrrlrborlbrl (C : CF) (L : Nat) {β : Type} (x5 : Value) (x6 : Value) (x4 : Value) (x0 : Value) (x3 : Value) (h : H) (kn : Value → Value → Value → Value → Value → Value → Value → H → Option β) : Option β :=
  bnd2 (C 10 [x3] h) fun t58 hq1 =>
  bnd (A.extract 0 t58) fun t59 =>
  bnd (A.extract 1 t58) fun t60 =>
  kn t60 t59 x5 x6 x4 x0 x3 hq1
theorem ep5arrrrrlrborlbrl (C : CF) (L : Nat) {β : Type} (x5 : Value) (x6 : Value) (x4 : Value) (x0 : Value) (x3 : Value) (h : H) (K : Ex → T Value → H → Option β) :
    execK Tryd.prog C L 1 102 [2] c5arrrrrlrborlbrl [8, 7, 5, 6, 4, 0, 3] [(1, [6, 4, 0, 3, 5]), (0, [3, 5])] (fs [(5, x5), (6, x6), (4, x4), (0, x0), (3, x3)]) h K =
      p5arrrrrlrborlbrl C L x5 x6 x4 x0 x3 h (fun x8 x7 x5 x6 x4 x0 x3 h => K .normal (fs [(8, x8), (7, x7), (5, x5), (6, x6), (4, x4), (0, x0), (3, x3)]) h) := by
  kernel_rfl
noncomputable def c5arrrrrlrborlbrr : Code := cR c5arrrrrlrborlbr
noncomputable def c5arrrrrlrborlbrrl : Code := cL c5arrrrrlrborlbrr
noncomputable def c5arrrrrlrborlbrrll : Code := cL c5arrrrrlrborlbrrl
noncomputable def p5arrrrrlrborlbrrll (C : CF) (L : Nat) {β : Type} (x8 : Value) (x7 : Value) (x5 : Value) (x6 : Value) (x4 : Value) (x0 : Value) (x3 : Value) (h : H) (kn : Value → Value → Value → Value → Value → Value → Value → H → Option β) : Option β :=
  bnd (A.bin Tryd.prog .neq 26 x8 (.int .i64 0)) fun t62 =>
  toBK t62 fun b =>
  (bif b then
  kn (.bool true) x7 x5 x6 x4 x0 x3 h
  else
  bnd (A.bin Tryd.prog .lss 25 x7 (.int .u16 1)) fun t65 =>
  toBK t65 fun bq1 =>
  (bif bq1 then
  kn (.bool true) x7 x5 x6 x4 x0 x3 h
  else
  bnd (A.conv Tryd.prog 25 3 x7) fun t69 =>
  bnd (A.bin Tryd.prog .add 3 x5 (.int .i64 1)) fun t71 =>
  bnd (A.bin Tryd.prog .gtr 3 t69 t71) fun t72 =>
  toBK t72 fun bq2 =>
  (bif bq2 then
  kn (.bool true) x7 x5 x6 x4 x0 x3 h
  else
  bnd (A.idxS 1 x4 x7) fun t77 =>
  bnd (A.load false 1 t77 h) fun t78 =>
  toBK t78 fun bq3 =>
  kn (.bool bq3) x7 x5 x6 x4 x0 x3 h)))
theorem ep5arrrrrlrborlbrrll (C : CF) (L : Nat) {β : Type} (x8 : Value) (x7 : Value) (x5 : Value) (x6 : Value) (x4 : Value) (x0 : Value) (x3 : Value) (h : H) (K : Ex → T Value → H → Option β) :
    execK Tryd.prog C L 1 102 [2] c5arrrrrlrborlbrrll [79, 7, 5, 6, 4, 0, 3] [(1, [6, 4, 0, 3, 5]), (0, [3, 5])] (fs [(8, x8), (7, x7), (5, x5), (6, x6), (4, x4), (0, x0), (3, x3)]) h K =
      p5arrrrrlrborlbrrll C L x8 x7 x5 x6 x4 x0 x3 h (fun x79 x7 x5 x6 x4 x0 x3 h => K .normal (fs [(79, x79), (7, x7), (5, x5), (6, x6), (4, x4), (0, x0), (3, x3)]) h) := by
  kernel_rfl
noncomputable def c5arrrrrlrborlbrrlr : Code := cR c5arrrrrlrborlbrrl
noncomputable def p5arrrrrlrborlbrrlr (C : CF) (L : Nat) {β : Type} (x79 : Value) (x7 : Value) (x5 : Value) (x6 : Value) (x4 : Value) (x0 : Value) (x3 : Value) (h : H) (kr : Value → H → Option β) (kn : Value → Value → Value → Value → Value → Value → H → Option β) : Option β :=
  condV x79 (
  kr (.bool false) h) (
  kn x7 x5 x6 x4 x0 x3 h)
theorem ep5arrrrrlrborlbrrlr (C : CF) (L : Nat) {β : Type} (x79 : Value) (x7 : Value) (x5 : Value) (x6 : Value) (x4 : Value) (x0 : Value) (x3 : Value) (h : H) (K : Ex → T Value → H → Option β) :
    execK Tryd.prog C L 1 102 [2] c5arrrrrlrborlbrrlr [7, 5, 6, 4, 0, 3] [(1, [6, 4, 0, 3, 5]), (0, [3, 5])] (fs [(79, x79), (7, x7), (5, x5), (6, x6), (4, x4), (0, x0), (3, x3)]) h K =
      p5arrrrrlrborlbrrlr C L x79 x7 x5 x6 x4 x0 x3 h (fun x2 h => K .ret (fs [(2, x2)]) h) (fun x7 x5 x6 x4 x0 x3 h => K .normal (fs [(7, x7), (5, x5), (6, x6), (4, x4), (0, x0), (3, x3)]) h) := by
  kernel_rfl
noncomputable def p5arrrrrlrborlbrrl (C : CF) (L : Nat) {β : Type} (x8 : Value) (x7 : Value) (x5 : Value) (x6 : Value) (x4 : Value) (x0 : Value) (x3 : Value) (h : H) (kr : Value → H → Option β) (kn : Value → Value → Value → Value → Value → Value → H → Option β) : Option β :=
  p5arrrrrlrborlbrrll C L x8 x7 x5 x6 x4 x0 x3 h (fun x79 x7 x5 x6 x4 x0 x3 h => p5arrrrrlrborlbrrlr C L x79 x7 x5 x6 x4 x0 x3 h kr kn)
theorem ep5arrrrrlrborlbrrl (C : CF) (L : Nat) {β : Type} (x8 : Value) (x7 : Value) (x5 : Value) (x6 : Value) (x4 : Value) (x0 : Value) (x3 : Value) (h : H) (K : Ex → T Value → H → Option β) :
    execK Tryd.prog C L 1 102 [2] c5arrrrrlrborlbrrl [7, 5, 6, 4, 0, 3] [(1, [6, 4, 0, 3, 5]), (0, [3, 5])] (fs [(8, x8), (7, x7), (5, x5), (6, x6), (4, x4), (0, x0), (3, x3)]) h K =
      p5arrrrrlrborlbrrl C L x8 x7 x5 x6 x4 x0 x3 h (fun x2 h => K .ret (fs [(2, x2)]) h) (fun x7 x5 x6 x4 x0 x3 h => K .normal (fs [(7, x7), (5, x5), (6, x6), (4, x4), (0, x0), (3, x3)]) h) := by
  rw [execK_seq (a := c5arrrrrlrborlbrrll) (b := c5arrrrrlrborlbrrlr) (by kernel_rfl) (show live [2] c5arrrrrlrborlbrrlr [7, 5, 6, 4, 0, 3] [(1, [6, 4, 0, 3, 5]), (0, [3, 5])] = [79, 7, 5, 6, 4, 0, 3] by kernel_rfl), ep5arrrrrlrborlbrrll]
  unfold p5arrrrrlrborlbrrl
  exact (congrArg (p5arrrrrlrborlbrrll C L x8 x7 x5 x6 x4 x0 x3 h) (funext fun x79 => funext fun x7 => funext fun x5 => funext fun x6 => funext fun x4 => funext fun x0 => funext fun x3 => funext fun h => (seqK_n _ _ _).trans (ep5arrrrrlrborlbrrlr C L x79 x7 x5 x6 x4 x0 x3 h K)))
noncomputable def c5arrrrrlrborlbrrr : Code := cR c5arrrrrlrborlbrr
noncomputable def c5arrrrrlrborlbrrrl : Code := cL c5arrrrrlrborlbrrr
noncomputable def c5arrrrrlrborlbrrrll : Code := cL c5arrrrrlrborlbrrrl
noncomputable def p5arrrrrlrborlbrrrll (C : CF) (L : Nat) {β : Type} (x7 : Value) (x5 : Value) (x6 : Value) (x4 : Value) (x0 : Value) (x3 : Value) (h : H) (kn : Value → Value → Value → Value → Value → Value → Value → H → Option β) : Option β :=
  kn (.int .u16 1) x7 x5 x6 x4 x0 x3 h
theorem ep5arrrrrlrborlbrrrll (C : CF) (L : Nat) {β : Type} (x7 : Value) (x5 : Value) (x6 : Value) (x4 : Value) (x0 : Value) (x3 : Value) (h : H) (K : Ex → T Value → H → Option β) :
    execK Tryd.prog C L 1 102 [2] c5arrrrrlrborlbrrrll [9, 7, 5, 6, 4, 0, 3] [(1, [6, 4, 0, 3, 5]), (0, [3, 5])] (fs [(7, x7), (5, x5), (6, x6), (4, x4), (0, x0), (3, x3)]) h K =
      p5arrrrrlrborlbrrrll C L x7 x5 x6 x4 x0 x3 h (fun x9 x7 x5 x6 x4 x0 x3 h => K .normal (fs [(9, x9), (7, x7), (5, x5), (6, x6), (4, x4), (0, x0), (3, x3)]) h) := by
  kernel_rfl
noncomputable def c5arrrrrlrborlbrrrlr : Code := cR c5arrrrrlrborlbrrrl
noncomputable def c5arrrrrlrborlbrrrlrb : Code := cL c5arrrrrlrborlbrrrlr
noncomputable def c5arrrrrlrborlbrrrlrbo : Code := cL c5arrrrrlrborlbrrrlrb
noncomputable def p5arrrrrlrborlbrrrlrbo (C : CF) (L : Nat) {β : Type} (x9 : Value) (x7 : Value) (x5 : Value) (x6 : Value) (x4 : Value) (x0 : Value) (x3 : Value) (h : H) (kr : Value → H → Option β) (kn : Value → Value → Value → Value → Value → Value → Value → H → Option β) (kx2 : Value → Value → Value → Value → Value → Value → H → Option β) : Option β :=
  bnd (A.bin Tryd.prog .lss 25 x9 x7) fun t82 =>
  toBK t82 fun b =>
  (bif b then
  bnd (A.idxS 1 x4 x9) fun t87 =>
  bnd (A.load false 1 t87 h) fun t88 =>
  toBK t88 fun bq1 =>
  bnd (A.un Tryd.prog .not (.bool bq1)) fun t89 =>
  toBK t89 fun bq2 =>
  (bif bq2 then
  kr (.bool false) h
  else
  bnd (A.bin Tryd.prog .add 25 x9 (.int .u16 1)) fun t84 =>
  kn t84 x7 x5 x6 x4 x0 x3 h)
  else
  kx2 x7 x5 x6 x4 x0 x3 h)
theorem ep5arrrrrlrborlbrrrlrbo (C : CF) (L : Nat) {β : Type} (x9 : Value) (x7 : Value) (x5 : Value) (x6 : Value) (x4 : Value) (x0 : Value) (x3 : Value) (h : H) (K : Ex → T Value → H → Option β) :
    execK Tryd.prog C L 1 102 [2] c5arrrrrlrborlbrrrlrbo [9, 7, 5, 6, 4, 0, 3] [(2, [7, 5, 6, 4, 0, 3]), (1, [6, 4, 0, 3, 5]), (0, [3, 5])] (fs [(9, x9), (7, x7), (5, x5), (6, x6), (4, x4), (0, x0), (3, x3)]) h K =
      p5arrrrrlrborlbrrrlrbo C L x9 x7 x5 x6 x4 x0 x3 h (fun x2 h => K .ret (fs [(2, x2)]) h) (fun x9 x7 x5 x6 x4 x0 x3 h => K .normal (fs [(9, x9), (7, x7), (5, x5), (6, x6), (4, x4), (0, x0), (3, x3)]) h) (fun x7 x5 x6 x4 x0 x3 h => K (.exit 2) (fs [(7, x7), (5, x5), (6, x6), (4, x4), (0, x0), (3, x3)]) h) := by
  kernel_rfl
noncomputable def p5arrrrrlrborlbrrrlrbw (C : CF) (L : Nat) {β : Type} (kr : Value → H → Option β) (kx2 : Value → Value → Value → Value → Value → Value → H → Option β) : Nat → Value → Value → Value → Value → Value → Value → Value → H → Option β
  | 0, _, _, _, _, _, _, _, _ => none
  | n + 1, x9, x7, x5, x6, x4, x0, x3, h => p5arrrrrlrborlbrrrlrbo C L x9 x7 x5 x6 x4 x0 x3 h kr (fun x9 x7 x5 x6 x4 x0 x3 h => p5arrrrrlrborlbrrrlrbw C L kr kx2 n x9 x7 x5 x6 x4 x0 x3 h) kx2
theorem ep5arrrrrlrborlbrrrlrbw (C : CF) (L : Nat) {β : Type} (K : Ex → T Value → H → Option β) : ∀ (n : Nat) (x9 : Value) (x7 : Value) (x5 : Value) (x6 : Value) (x4 : Value) (x0 : Value) (x3 : Value) (h : H),
    loopK (fun fr h K => execK Tryd.prog C L 1 102 [2] c5arrrrrlrborlbrrrlrbo [9, 7, 5, 6, 4, 0, 3] [(2, [7, 5, 6, 4, 0, 3]), (1, [6, 4, 0, 3, 5]), (0, [3, 5])] fr h K) n (fs [(9, x9), (7, x7), (5, x5), (6, x6), (4, x4), (0, x0), (3, x3)]) h K =
      p5arrrrrlrborlbrrrlrbw C L (fun x2 h => K .ret (fs [(2, x2)]) h) (fun x7 x5 x6 x4 x0 x3 h => K (.exit 2) (fs [(7, x7), (5, x5), (6, x6), (4, x4), (0, x0), (3, x3)]) h) n x9 x7 x5 x6 x4 x0 x3 h := by
  intro n
  induction n with
  | zero => intros; rfl
  | succ n ih =>
    intros
    simp only [loopK]
    rw [ep5arrrrrlrborlbrrrlrbo]
    simp only [seqK_n, seqK_x, seqK_r, ih]
    rfl
noncomputable def p5arrrrrlrborlbrrrlrb (C : CF) (L : Nat) {β : Type} (x9 : Value) (x7 : Value) (x5 : Value) (x6 : Value) (x4 : Value) (x0 : Value) (x3 : Value) (h : H) (kr : Value → H → Option β) (kx2 : Value → Value → Value → Value → Value → Value → H → Option β) : Option β :=
  p5arrrrrlrborlbrrrlrbw C L kr kx2 L x9 x7 x5 x6 x4 x0 x3 h
theorem ep5arrrrrlrborlbrrrlrb (C : CF) (L : Nat) {β : Type} (x9 : Value) (x7 : Value) (x5 : Value) (x6 : Value) (x4 : Value) (x0 : Value) (x3 : Value) (h : H) (K : Ex → T Value → H → Option β) :
    execK Tryd.prog C L 1 102 [2] c5arrrrrlrborlbrrrlrb [7, 5, 6, 4, 0, 3] [(2, [7, 5, 6, 4, 0, 3]), (1, [6, 4, 0, 3, 5]), (0, [3, 5])] (fs [(9, x9), (7, x7), (5, x5), (6, x6), (4, x4), (0, x0), (3, x3)]) h K =
      p5arrrrrlrborlbrrrlrb C L x9 x7 x5 x6 x4 x0 x3 h (fun x2 h => K .ret (fs [(2, x2)]) h) (fun x7 x5 x6 x4 x0 x3 h => K (.exit 2) (fs [(7, x7), (5, x5), (6, x6), (4, x4), (0, x0), (3, x3)]) h) := by
  rw [execK_loop (b := c5arrrrrlrborlbrrrlrbo) (fr1 := (fs [(9, x9), (7, x7), (5, x5), (6, x6), (4, x4), (0, x0), (3, x3)])) (by kernel_rfl) (show live [2] c5arrrrrlrborlbrrrlrbo [] [(2, [7, 5, 6, 4, 0, 3]), (1, [6, 4, 0, 3, 5]), (0, [3, 5])] = [9, 7, 5, 6, 4, 0, 3] by kernel_rfl) (by kernel_rfl), ep5arrrrrlrborlbrrrlrbw]
  unfold p5arrrrrlrborlbrrrlrb
  rfl
noncomputable def p5arrrrrlrborlbrrrlr (C : CF) (L : Nat) {β : Type} (x9 : Value) (x7 : Value) (x5 : Value) (x6 : Value) (x4 : Value) (x0 : Value) (x3 : Value) (h : H) (kr : Value → H → Option β) (kn : Value → Value → Value → Value → Value → Value → H → Option β) : Option β :=
  p5arrrrrlrborlbrrrlrb C L x9 x7 x5 x6 x4 x0 x3 h kr kn
theorem ep5arrrrrlrborlbrrrlr (C : CF) (L : Nat) {β : Type} (x9 : Value) (x7 : Value) (x5 : Value) (x6 : Value) (x4 : Value) (x0 : Value) (x3 : Value) (h : H) (K : Ex → T Value → H → Option β) :
    execK Tryd.prog C L 1 102 [2] c5arrrrrlrborlbrrrlr [7, 5, 6, 4, 0, 3] [(1, [6, 4, 0, 3, 5]), (0, [3, 5])] (fs [(9, x9), (7, x7), (5, x5), (6, x6), (4, x4), (0, x0), (3, x3)]) h K =
      p5arrrrrlrborlbrrrlr C L x9 x7 x5 x6 x4 x0 x3 h (fun x2 h => K .ret (fs [(2, x2)]) h) (fun x7 x5 x6 x4 x0 x3 h => K .normal (fs [(7, x7), (5, x5), (6, x6), (4, x4), (0, x0), (3, x3)]) h) := by
  rw [execK_block (b := c5arrrrrlrborlbrrrlrb) (id := 2) (by kernel_rfl), ep5arrrrrlrborlbrrrlrb]
  unfold p5arrrrrlrborlbrrrlr
  rfl
noncomputable def p5arrrrrlrborlbrrrl (C : CF) (L : Nat) {β : Type} (x7 : Value) (x5 : Value) (x6 : Value) (x4 : Value) (x0 : Value) (x3 : Value) (h : H) (kr : Value → H → Option β) (kn : Value → Value → Value → Value → Value → Value → H → Option β) : Option β :=
  p5arrrrrlrborlbrrrll C L x7 x5 x6 x4 x0 x3 h (fun x9 x7 x5 x6 x4 x0 x3 h => p5arrrrrlrborlbrrrlr C L x9 x7 x5 x6 x4 x0 x3 h kr kn)
theorem ep5arrrrrlrborlbrrrl (C : CF) (L : Nat) {β : Type} (x7 : Value) (x5 : Value) (x6 : Value) (x4 : Value) (x0 : Value) (x3 : Value) (h : H) (K : Ex → T Value → H → Option β) :
    execK Tryd.prog C L 1 102 [2] c5arrrrrlrborlbrrrl [7, 5, 6, 4, 0, 3] [(1, [6, 4, 0, 3, 5]), (0, [3, 5])] (fs [(7, x7), (5, x5), (6, x6), (4, x4), (0, x0), (3, x3)]) h K =
      p5arrrrrlrborlbrrrl C L x7 x5 x6 x4 x0 x3 h (fun x2 h => K .ret (fs [(2, x2)]) h) (fun x7 x5 x6 x4 x0 x3 h => K .normal (fs [(7, x7), (5, x5), (6, x6), (4, x4), (0, x0), (3, x3)]) h) := by
  rw [execK_seq (a := c5arrrrrlrborlbrrrll) (b := c5arrrrrlrborlbrrrlr) (by kernel_rfl) (show live [2] c5arrrrrlrborlbrrrlr [7, 5, 6, 4, 0, 3] [(1, [6, 4, 0, 3, 5]), (0, [3, 5])] = [9, 7, 5, 6, 4, 0, 3] by kernel_rfl), ep5arrrrrlrborlbrrrll]
  unfold p5arrrrrlrborlbrrrl
  exact (congrArg (p5arrrrrlrborlbrrrll C L x7 x5 x6 x4 x0 x3 h) (funext fun x9 => funext fun x7 => funext fun x5 => funext fun x6 => funext fun x4 => funext fun x0 => funext fun x3 => funext fun h => (seqK_n _ _ _).trans (ep5arrrrrlrborlbrrrlr C L x9 x7 x5 x6 x4 x0 x3 h K)))
noncomputable def c5arrrrrlrborlbrrrr : Code := cR c5arrrrrlrborlbrrr
noncomputable def p5arrrrrlrborlbrrrr (C : CF) (L : Nat) {β : Type} (x7 : Value) (x5 : Value) (x6 : Value) (x4 : Value) (x0 : Value) (x3 : Value) (h : H) (kn : Value → Value → Value → Value → Value → H → Option β) : Option β :=
  bnd (A.idxS 1 x4 x7) fun t92 =>
  bnd (A.store 1 t92 (.bool true) h) fun hq1 =>
  bnd (A.bin Tryd.prog .add 3 x5 (.int .i64 1)) fun t94 =>
  kn x6 x4 x0 x3 t94 hq1
theorem ep5arrrrrlrborlbrrrr (C : CF) (L : Nat) {β : Type} (x7 : Value) (x5 : Value) (x6 : Value) (x4 : Value) (x0 : Value) (x3 : Value) (h : H) (K : Ex → T Value → H → Option β) :
    execK Tryd.prog C L 1 102 [2] c5arrrrrlrborlbrrrr [6, 4, 0, 3, 5] [(1, [6, 4, 0, 3, 5]), (0, [3, 5])] (fs [(7, x7), (5, x5), (6, x6), (4, x4), (0, x0), (3, x3)]) h K =
      p5arrrrrlrborlbrrrr C L x7 x5 x6 x4 x0 x3 h (fun x6 x4 x0 x3 x5 h => K .normal (fs [(6, x6), (4, x4), (0, x0), (3, x3), (5, x5)]) h) := by
  kernel_rfl
noncomputable def p5arrrrrlrborlbrrr (C : CF) (L : Nat) {β : Type} (x7 : Value) (x5 : Value) (x6 : Value) (x4 : Value) (x0 : Value) (x3 : Value) (h : H) (kn : Value → Value → Value → Value → Value → H → Option β) (kr : Value → H → Option β) : Option β :=
  p5arrrrrlrborlbrrrl C L x7 x5 x6 x4 x0 x3 h kr (fun x7 x5 x6 x4 x0 x3 h => p5arrrrrlrborlbrrrr C L x7 x5 x6 x4 x0 x3 h kn)
theorem ep5arrrrrlrborlbrrr (C : CF) (L : Nat) {β : Type} (x7 : Value) (x5 : Value) (x6 : Value) (x4 : Value) (x0 : Value) (x3 : Value) (h : H) (K : Ex → T Value → H → Option β) :
    execK Tryd.prog C L 1 102 [2] c5arrrrrlrborlbrrr [6, 4, 0, 3, 5] [(1, [6, 4, 0, 3, 5]), (0, [3, 5])] (fs [(7, x7), (5, x5), (6, x6), (4, x4), (0, x0), (3, x3)]) h K =
      p5arrrrrlrborlbrrr C L x7 x5 x6 x4 x0 x3 h (fun x6 x4 x0 x3 x5 h => K .normal (fs [(6, x6), (4, x4), (0, x0), (3, x3), (5, x5)]) h) (fun x2 h => K .ret (fs [(2, x2)]) h) := by
  rw [execK_seq (a := c5arrrrrlrborlbrrrl) (b := c5arrrrrlrborlbrrrr) (by kernel_rfl) (show live [2] c5arrrrrlrborlbrrrr [6, 4, 0, 3, 5] [(1, [6, 4, 0, 3, 5]), (0, [3, 5])] = [7, 5, 6, 4, 0, 3] by kernel_rfl), ep5arrrrrlrborlbrrrl]
  unfold p5arrrrrlrborlbrrr
  exact (congr (congrArg (p5arrrrrlrborlbrrrl C L x7 x5 x6 x4 x0 x3 h) (funext fun x2 => funext fun h => seqK_r _ _ _)) (funext fun x7 => funext fun x5 => funext fun x6 => funext fun x4 => funext fun x0 => funext fun x3 => funext fun h => (seqK_n _ _ _).trans (ep5arrrrrlrborlbrrrr C L x7 x5 x6 x4 x0 x3 h K)))
noncomputable def p5arrrrrlrborlbrr (C : CF) (L : Nat) {β : Type} (x8 : Value) (x7 : Value) (x5 : Value) (x6 : Value) (x4 : Value) (x0 : Value) (x3 : Value) (h : H) (kn : Value → Value → Value → Value → Value → H → Option β) (kr : Value → H → Option β) : Option β :=
  p5arrrrrlrborlbrrl C L x8 x7 x5 x6 x4 x0 x3 h kr (fun x7 x5 x6 x4 x0 x3 h => p5arrrrrlrborlbrrr C L x7 x5 x6 x4 x0 x3 h kn kr)
theorem ep5arrrrrlrborlbrr (C : CF) (L : Nat) {β : Type} (x8 : Value) (x7 : Value) (x5 : Value) (x6 : Value) (x4 : Value) (x0 : Value) (x3 : Value) (h : H) (K : Ex → T Value → H → Option β) :
    execK Tryd.prog C L 1 102 [2] c5arrrrrlrborlbrr [6, 4, 0, 3, 5] [(1, [6, 4, 0, 3, 5]), (0, [3, 5])] (fs [(8, x8), (7, x7), (5, x5), (6, x6), (4, x4), (0, x0), (3, x3)]) h K =
      p5arrrrrlrborlbrr C L x8 x7 x5 x6 x4 x0 x3 h (fun x6 x4 x0 x3 x5 h => K .normal (fs [(6, x6), (4, x4), (0, x0), (3, x3), (5, x5)]) h) (fun x2 h => K .ret (fs [(2, x2)]) h) := by
  rw [execK_seq (a := c5arrrrrlrborlbrrl) (b := c5arrrrrlrborlbrrr) (by kernel_rfl) (show live [2] c5arrrrrlrborlbrrr [6, 4, 0, 3, 5] [(1, [6, 4, 0, 3, 5]), (0, [3, 5])] = [7, 5, 6, 4, 0, 3] by kernel_rfl), ep5arrrrrlrborlbrrl]
  unfold p5arrrrrlrborlbrr
  exact (congr (congrArg (p5arrrrrlrborlbrrl C L x8 x7 x5 x6 x4 x0 x3 h) (funext fun x2 => funext fun h => seqK_r _ _ _)) (funext fun x7 => funext fun x5 => funext fun x6 => funext fun x4 => funext fun x0 => funext fun x3 => funext fun h => (seqK_n _ _ _).trans (ep5arrrrrlrborlbrrr C L x7 x5 x6 x4 x0 x3 h K)))
noncomputable def p5arrrrrlrborlbr (C : CF) (L : Nat) {β : Type} (x5 : Value) (x6 : Value) (x4 : Value) (x0 : Value) (x3 : Value) (h : H) (kn : Value → Value → Value → Value → Value → H → Option β) (kr : Value → H → Option β) : Option β :=
  p5arrrrrlrborlbrl C L x5 x6 x4 x0 x3 h (fun x8 x7 x5 x6 x4 x0 x3 h => p5arrrrrlrborlbrr C L x8 x7 x5 x6 x4 x0 x3 h kn kr)
theorem ep5arrrrrlrborlbr (C : CF) (L : Nat) {β : Type} (x5 : Value) (x6 : Value) (x4 : Value) (x0 : Value) (x3 : Value) (h : H) (K : Ex → T Value → H → Option β) :
    execK Tryd.prog C L 1 102 [2] c5arrrrrlrborlbr [6, 4, 0, 3, 5] [(1, [6, 4, 0, 3, 5]), (0, [3, 5])] (fs [(5, x5), (6, x6), (4, x4), (0, x0), (3, x3)]) h K =
      p5arrrrrlrborlbr C L x5 x6 x4 x0 x3 h (fun x6 x4 x0 x3 x5 h => K .normal (fs [(6, x6), (4, x4), (0, x0), (3, x3), (5, x5)]) h) (fun x2 h => K .ret (fs [(2, x2)]) h) := by
  rw [execK_seq (a := c5arrrrrlrborlbrl) (b := c5arrrrrlrborlbrr) (by kernel_rfl) (show live [2] c5arrrrrlrborlbrr [6, 4, 0, 3, 5] [(1, [6, 4, 0, 3, 5]), (0, [3, 5])] = [8, 7, 5, 6, 4, 0, 3] by kernel_rfl), ep5arrrrrlrborlbrl]
  unfold p5arrrrrlrborlbr
  exact (congrArg (p5arrrrrlrborlbrl C L x5 x6 x4 x0 x3 h) (funext fun x8 => funext fun x7 => funext fun x5 => funext fun x6 => funext fun x4 => funext fun x0 => funext fun x3 => funext fun h => (seqK_n _ _ _).trans (ep5arrrrrlrborlbrr C L x8 x7 x5 x6 x4 x0 x3 h K)))
noncomputable def p5arrrrrlrborlb (C : CF) (L : Nat) {β : Type} (x5 : Value) (x6 : Value) (x4 : Value) (x0 : Value) (x3 : Value) (h : H) (kn : Value → Value → Value → Value → Value → H → Option β) (kr : Value → H → Option β) (kx1 : Value → Value → Value → Value → Value → H → Option β) : Option β :=
  p5arrrrrlrborlbl C L x5 x6 x4 x0 x3 h kx1 kr (fun x5 x6 x4 x0 x3 h => p5arrrrrlrborlbr C L x5 x6 x4 x0 x3 h kn kr)
theorem ep5arrrrrlrborlb (C : CF) (L : Nat) {β : Type} (x5 : Value) (x6 : Value) (x4 : Value) (x0 : Value) (x3 : Value) (h : H) (K : Ex → T Value → H → Option β) :
    execK Tryd.prog C L 1 102 [2] c5arrrrrlrborlb [6, 4, 0, 3, 5] [(1, [6, 4, 0, 3, 5]), (0, [3, 5])] (fs [(5, x5), (6, x6), (4, x4), (0, x0), (3, x3)]) h K =
      p5arrrrrlrborlb C L x5 x6 x4 x0 x3 h (fun x6 x4 x0 x3 x5 h => K .normal (fs [(6, x6), (4, x4), (0, x0), (3, x3), (5, x5)]) h) (fun x2 h => K .ret (fs [(2, x2)]) h) (fun x6 x4 x0 x3 x5 h => K (.exit 1) (fs [(6, x6), (4, x4), (0, x0), (3, x3), (5, x5)]) h) := by
  rw [execK_seq (a := c5arrrrrlrborlbl) (b := c5arrrrrlrborlbr) (by kernel_rfl) (show live [2] c5arrrrrlrborlbr [6, 4, 0, 3, 5] [(1, [6, 4, 0, 3, 5]), (0, [3, 5])] = [5, 6, 4, 0, 3] by kernel_rfl), ep5arrrrrlrborlbl]
  unfold p5arrrrrlrborlb
  exact (congr (congr (congrArg (p5arrrrrlrborlbl C L x5 x6 x4 x0 x3 h) (funext fun x6 => funext fun x4 => funext fun x0 => funext fun x3 => funext fun x5 => funext fun h => seqK_x _ _ _ _)) (funext fun x2 => funext fun h => seqK_r _ _ _)) (funext fun x5 => funext fun x6 => funext fun x4 => funext fun x0 => funext fun x3 => funext fun h => (seqK_n _ _ _).trans (ep5arrrrrlrborlbr C L x5 x6 x4 x0 x3 h K)))
noncomputable def p5arrrrrlrborl (C : CF) (L : Nat) {β : Type} (x5 : Value) (x6 : Value) (x4 : Value) (x0 : Value) (x3 : Value) (h : H) (kn : Value → Value → Value → Value → Value → H → Option β) (kr : Value → H → Option β) : Option β :=
  p5arrrrrlrborlb C L x5 x6 x4 x0 x3 h kn kr kn
theorem ep5arrrrrlrborl (C : CF) (L : Nat) {β : Type} (x5 : Value) (x6 : Value) (x4 : Value) (x0 : Value) (x3 : Value) (h : H) (K : Ex → T Value → H → Option β) :
    execK Tryd.prog C L 1 102 [2] c5arrrrrlrborl [6, 4, 0, 3, 5] [(0, [3, 5])] (fs [(5, x5), (6, x6), (4, x4), (0, x0), (3, x3)]) h K =
      p5arrrrrlrborl C L x5 x6 x4 x0 x3 h (fun x6 x4 x0 x3 x5 h => K .normal (fs [(6, x6), (4, x4), (0, x0), (3, x3), (5, x5)]) h) (fun x2 h => K .ret (fs [(2, x2)]) h) := by
  rw [execK_block (b := c5arrrrrlrborlb) (id := 1) (by kernel_rfl), ep5arrrrrlrborlb]
  unfold p5arrrrrlrborl
  rfl
noncomputable def c5arrrrrlrborr : Code := cR c5arrrrrlrbor
noncomputable def p5arrrrrlrborr (C : CF) (L : Nat) {β : Type} (x6 : Value) (x4 : Value) (x0 : Value) (x3 : Value) (x5 : Value) (h : H) (kn : Value → Value → Value → Value → Value → H → Option β) : Option β :=
  bnd (A.bin Tryd.prog .add 3 x6 (.int .i64 1)) fun t21 =>
  kn t21 x4 x0 x3 x5 h
theorem ep5arrrrrlrborr (C : CF) (L : Nat) {β : Type} (x6 : Value) (x4 : Value) (x0 : Value) (x3 : Value) (x5 : Value) (h : H) (K : Ex → T Value → H → Option β) :
    execK Tryd.prog C L 1 102 [2] c5arrrrrlrborr [6, 4, 0, 3, 5] [(0, [3, 5])] (fs [(6, x6), (4, x4), (0, x0), (3, x3), (5, x5)]) h K =
      p5arrrrrlrborr C L x6 x4 x0 x3 x5 h (fun x6 x4 x0 x3 x5 h => K .normal (fs [(6, x6), (4, x4), (0, x0), (3, x3), (5, x5)]) h) := by
  kernel_rfl
noncomputable def p5arrrrrlrbor (C : CF) (L : Nat) {β : Type} (x5 : Value) (x6 : Value) (x4 : Value) (x0 : Value) (x3 : Value) (h : H) (kn : Value → Value → Value → Value → Value → H → Option β) (kr : Value → H → Option β) : Option β :=
  p5arrrrrlrborl C L x5 x6 x4 x0 x3 h (fun x6 x4 x0 x3 x5 h => p5arrrrrlrborr C L x6 x4 x0 x3 x5 h kn) kr
theorem ep5arrrrrlrbor (C : CF) (L : Nat) {β : Type} (x5 : Value) (x6 : Value) (x4 : Value) (x0 : Value) (x3 : Value) (h : H) (K : Ex → T Value → H → Option β) :
    execK Tryd.prog C L 1 102 [2] c5arrrrrlrbor [6, 4, 0, 3, 5] [(0, [3, 5])] (fs [(5, x5), (6, x6), (4, x4), (0, x0), (3, x3)]) h K =
      p5arrrrrlrbor C L x5 x6 x4 x0 x3 h (fun x6 x4 x0 x3 x5 h => K .normal (fs [(6, x6), (4, x4), (0, x0), (3, x3), (5, x5)]) h) (fun x2 h => K .ret (fs [(2, x2)]) h) := by
  rw [execK_seq (a := c5arrrrrlrborl) (b := c5arrrrrlrborr) (by kernel_rfl) (show live [2] c5arrrrrlrborr [6, 4, 0, 3, 5] [(0, [3, 5])] = [6, 4, 0, 3, 5] by kernel_rfl), ep5arrrrrlrborl]
  unfold p5arrrrrlrbor
  exact (congr (congrArg (p5arrrrrlrborl C L x5 x6 x4 x0 x3 h) (funext fun x6 => funext fun x4 => funext fun x0 => funext fun x3 => funext fun x5 => funext fun h => (seqK_n _ _ _).trans (ep5arrrrrlrborr C L x6 x4 x0 x3 x5 h K))) (funext fun x2 => funext fun h => seqK_r _ _ _))
noncomputable def p5arrrrrlrbo (C : CF) (L : Nat) {β : Type} (x6 : Value) (x4 : Value) (x0 : Value) (x3 : Value) (x5 : Value) (h : H) (kn : Value → Value → Value → Value → Value → H → Option β) (kr : Value → H → Option β) (kx0 : Value → Value → H → Option β) : Option β :=
  p5arrrrrlrbol C L x6 x4 x0 x3 x5 h (fun x5 x6 x4 x0 x3 h => p5arrrrrlrbor C L x5 x6 x4 x0 x3 h kn kr) kx0
theorem ep5arrrrrlrbo (C : CF) (L : Nat) {β : Type} (x6 : Value) (x4 : Value) (x0 : Value) (x3 : Value) (x5 : Value) (h : H) (K : Ex → T Value → H → Option β) :
    execK Tryd.prog C L 1 102 [2] c5arrrrrlrbo [6, 4, 0, 3, 5] [(0, [3, 5])] (fs [(6, x6), (4, x4), (0, x0), (3, x3), (5, x5)]) h K =
      p5arrrrrlrbo C L x6 x4 x0 x3 x5 h (fun x6 x4 x0 x3 x5 h => K .normal (fs [(6, x6), (4, x4), (0, x0), (3, x3), (5, x5)]) h) (fun x2 h => K .ret (fs [(2, x2)]) h) (fun x3 x5 h => K (.exit 0) (fs [(3, x3), (5, x5)]) h) := by
  rw [execK_seq (a := c5arrrrrlrbol) (b := c5arrrrrlrbor) (by kernel_rfl) (show live [2] c5arrrrrlrbor [6, 4, 0, 3, 5] [(0, [3, 5])] = [5, 6, 4, 0, 3] by kernel_rfl), ep5arrrrrlrbol]
  unfold p5arrrrrlrbo
  exact (congr (congrArg (p5arrrrrlrbol C L x6 x4 x0 x3 x5 h) (funext fun x5 => funext fun x6 => funext fun x4 => funext fun x0 => funext fun x3 => funext fun h => (seqK_n _ _ _).trans (ep5arrrrrlrbor C L x5 x6 x4 x0 x3 h K))) (funext fun x3 => funext fun x5 => funext fun h => seqK_x _ _ _ _))
noncomputable def p5arrrrrlrbw (C : CF) (L : Nat) {β : Type} (kr : Value → H → Option β) (kx0 : Value → Value → H → Option β) : Nat → Value → Value → Value → Value → Value → H → Option β
  | 0, _, _, _, _, _, _ => none
  | n + 1, x6, x4, x0, x3, x5, h => p5arrrrrlrbo C L x6 x4 x0 x3 x5 h (fun x6 x4 x0 x3 x5 h => p5arrrrrlrbw C L kr kx0 n x6 x4 x0 x3 x5 h) kr kx0
theorem ep5arrrrrlrbw (C : CF) (L : Nat) {β : Type} (K : Ex → T Value → H → Option β) : ∀ (n : Nat) (x6 : Value) (x4 : Value) (x0 : Value) (x3 : Value) (x5 : Value) (h : H),
    loopK (fun fr h K => execK Tryd.prog C L 1 102 [2] c5arrrrrlrbo [6, 4, 0, 3, 5] [(0, [3, 5])] fr h K) n (fs [(6, x6), (4, x4), (0, x0), (3, x3), (5, x5)]) h K =
      p5arrrrrlrbw C L (fun x2 h => K .ret (fs [(2, x2)]) h) (fun x3 x5 h => K (.exit 0) (fs [(3, x3), (5, x5)]) h) n x6 x4 x0 x3 x5 h := by
  intro n
  induction n with
  | zero => intros; rfl
  | succ n ih =>
    intros
    simp only [loopK]
    rw [ep5arrrrrlrbo]
    simp only [seqK_n, seqK_x, seqK_r, ih]
    rfl
noncomputable def p5arrrrrlrb (C : CF) (L : Nat) {β : Type} (x6 : Value) (x4 : Value) (x0 : Value) (x3 : Value) (x5 : Value) (h : H) (kr : Value → H → Option β) (kx0 : Value → Value → H → Option β) : Option β :=
  p5arrrrrlrbw C L kr kx0 L x6 x4 x0 x3 x5 h
theorem ep5arrrrrlrb (C : CF) (L : Nat) {β : Type} (x6 : Value) (x4 : Value) (x0 : Value) (x3 : Value) (x5 : Value) (h : H) (K : Ex → T Value → H → Option β) :
    execK Tryd.prog C L 1 102 [2] c5arrrrrlrb [3, 5] [(0, [3, 5])] (fs [(6, x6), (4, x4), (0, x0), (3, x3), (5, x5)]) h K =
      p5arrrrrlrb C L x6 x4 x0 x3 x5 h (fun x2 h => K .ret (fs [(2, x2)]) h) (fun x3 x5 h => K (.exit 0) (fs [(3, x3), (5, x5)]) h) := by
  rw [execK_loop (b := c5arrrrrlrbo) (fr1 := (fs [(6, x6), (4, x4), (0, x0), (3, x3), (5, x5)])) (by kernel_rfl) (show live [2] c5arrrrrlrbo [] [(0, [3, 5])] = [6, 4, 0, 3, 5] by kernel_rfl) (by kernel_rfl), ep5arrrrrlrbw]
  unfold p5arrrrrlrb
  rfl
noncomputable def p5arrrrrlr (C : CF) (L : Nat) {β : Type} (x6 : Value) (x4 : Value) (x0 : Value) (x3 : Value) (x5 : Value) (h : H) (kr : Value → H → Option β) (kn : Value → Value → H → Option β) : Option β :=
  p5arrrrrlrb C L x6 x4 x0 x3 x5 h kr kn
theorem ep5arrrrrlr (C : CF) (L : Nat) {β : Type} (x6 : Value) (x4 : Value) (x0 : Value) (x3 : Value) (x5 : Value) (h : H) (K : Ex → T Value → H → Option β) :
    execK Tryd.prog C L 1 102 [2] c5arrrrrlr [3, 5] [] (fs [(6, x6), (4, x4), (0, x0), (3, x3), (5, x5)]) h K =
      p5arrrrrlr C L x6 x4 x0 x3 x5 h (fun x2 h => K .ret (fs [(2, x2)]) h) (fun x3 x5 h => K .normal (fs [(3, x3), (5, x5)]) h) := by
  rw [execK_block (b := c5arrrrrlrb) (id := 0) (by kernel_rfl), ep5arrrrrlrb]
  unfold p5arrrrrlr
  rfl
noncomputable def p5arrrrrl (C : CF) (L : Nat) {β : Type} (x4 : Value) (x0 : Value) (x3 : Value) (x5 : Value) (h : H) (kr : Value → H → Option β) (kn : Value → Value → H → Option β) : Option β :=
  p5arrrrrll C L x4 x0 x3 x5 h (fun x6 x4 x0 x3 x5 h => p5arrrrrlr C L x6 x4 x0 x3 x5 h kr kn)
theorem ep5arrrrrl (C : CF) (L : Nat) {β : Type} (x4 : Value) (x0 : Value) (x3 : Value) (x5 : Value) (h : H) (K : Ex → T Value → H → Option β) :
    execK Tryd.prog C L 1 102 [2] c5arrrrrl [3, 5] [] (fs [(4, x4), (0, x0), (3, x3), (5, x5)]) h K =
      p5arrrrrl C L x4 x0 x3 x5 h (fun x2 h => K .ret (fs [(2, x2)]) h) (fun x3 x5 h => K .normal (fs [(3, x3), (5, x5)]) h) := by
  rw [execK_seq (a := c5arrrrrll) (b := c5arrrrrlr) (by kernel_rfl) (show live [2] c5arrrrrlr [3, 5] [] = [6, 4, 0, 3, 5] by kernel_rfl), ep5arrrrrll]
  unfold p5arrrrrl
  exact (congrArg (p5arrrrrll C L x4 x0 x3 x5 h) (funext fun x6 => funext fun x4 => funext fun x0 => funext fun x3 => funext fun x5 => funext fun h => (seqK_n _ _ _).trans (ep5arrrrrlr C L x6 x4 x0 x3 x5 h K)))
noncomputable def c5arrrrrr : Code := cR c5arrrrr
noncomputable def p5arrrrrr (C : CF) (L : Nat) {β : Type} (x3 : Value) (x5 : Value) (h : H) (kr : Value → H → Option β) : Option β :=
  bnd2 (C 11 [x3] h) fun t96 hq1 =>
  bnd (A.bin Tryd.prog .eql 3 t96 x5) fun t98 =>
  toBK t98 fun b =>
  (bif b then
  bnd2 (C 15 [] hq1) fun t100 hq2 =>
  toBK t100 fun bq1 =>
  kr (.bool bq1) hq2
  else
  kr (.bool false) hq1)
theorem ep5arrrrrr (C : CF) (L : Nat) {β : Type} (x3 : Value) (x5 : Value) (h : H) (K : Ex → T Value → H → Option β) :
    execK Tryd.prog C L 1 102 [2] c5arrrrrr [2] [] (fs [(3, x3), (5, x5)]) h K =
      p5arrrrrr C L x3 x5 h (fun x2 h => K .ret (fs [(2, x2)]) h) := by
  kernel_rfl
noncomputable def p5arrrrr (C : CF) (L : Nat) {β : Type} (x4 : Value) (x0 : Value) (x3 : Value) (x5 : Value) (h : H) (kr : Value → H → Option β) : Option β :=
  p5arrrrrl C L x4 x0 x3 x5 h kr (fun x3 x5 h => p5arrrrrr C L x3 x5 h kr)
theorem ep5arrrrr (C : CF) (L : Nat) {β : Type} (x4 : Value) (x0 : Value) (x3 : Value) (x5 : Value) (h : H) (K : Ex → T Value → H → Option β) :
    execK Tryd.prog C L 1 102 [2] c5arrrrr [2] [] (fs [(4, x4), (0, x0), (3, x3), (5, x5)]) h K =
      p5arrrrr C L x4 x0 x3 x5 h (fun x2 h => K .ret (fs [(2, x2)]) h) := by
  rw [execK_seq (a := c5arrrrrl) (b := c5arrrrrr) (by kernel_rfl) (show live [2] c5arrrrrr [2] [] = [3, 5] by kernel_rfl), ep5arrrrrl]
  unfold p5arrrrr
  exact (congr (congrArg (p5arrrrrl C L x4 x0 x3 x5 h) (funext fun x2 => funext fun h => seqK_r _ _ _)) (funext fun x3 => funext fun x5 => funext fun h => (seqK_n _ _ _).trans (ep5arrrrrr C L x3 x5 h K)))
noncomputable def p5arrrr (C : CF) (L : Nat) {β : Type} (x4 : Value) (x0 : Value) (x3 : Value) (h : H) (kr : Value → H → Option β) : Option β :=
  p5arrrrl C L x4 x0 x3 h (fun x4 x0 x3 x5 h => p5arrrrr C L x4 x0 x3 x5 h kr)
theorem ep5arrrr (C : CF) (L : Nat) {β : Type} (x4 : Value) (x0 : Value) (x3 : Value) (h : H) (K : Ex → T Value → H → Option β) :
    execK Tryd.prog C L 1 102 [2] c5arrrr [2] [] (fs [(4, x4), (0, x0), (3, x3)]) h K =
      p5arrrr C L x4 x0 x3 h (fun x2 h => K .ret (fs [(2, x2)]) h) := by
  rw [execK_seq (a := c5arrrrl) (b := c5arrrrr) (by kernel_rfl) (show live [2] c5arrrrr [2] [] = [4, 0, 3, 5] by kernel_rfl), ep5arrrrl]
  unfold p5arrrr
  exact (congrArg (p5arrrrl C L x4 x0 x3 h) (funext fun x4 => funext fun x0 => funext fun x3 => funext fun x5 => funext fun h => (seqK_n _ _ _).trans (ep5arrrrr C L x4 x0 x3 x5 h K)))
noncomputable def p5arrr (C : CF) (L : Nat) {β : Type} (x0 : Value) (x3 : Value) (h : H) (kr : Value → H → Option β) : Option β :=
  p5arrrl C L x0 x3 h (fun x4 x0 x3 h => p5arrrr C L x4 x0 x3 h kr)
theorem ep5arrr (C : CF) (L : Nat) {β : Type} (x0 : Value) (x3 : Value) (h : H) (K : Ex → T Value → H → Option β) :
    execK Tryd.prog C L 1 102 [2] c5arrr [2] [] (fs [(0, x0), (3, x3)]) h K =
      p5arrr C L x0 x3 h (fun x2 h => K .ret (fs [(2, x2)]) h) := by
  rw [execK_seq (a := c5arrrl) (b := c5arrrr) (by kernel_rfl) (show live [2] c5arrrr [2] [] = [4, 0, 3] by kernel_rfl), ep5arrrl]
  unfold p5arrr
  exact (congrArg (p5arrrl C L x0 x3 h) (funext fun x4 => funext fun x0 => funext fun x3 => funext fun h => (seqK_n _ _ _).trans (ep5arrrr C L x4 x0 x3 h K)))
noncomputable def p5arr (C : CF) (L : Nat) {β : Type} (x0 : Value) (h : H) (kr : Value → H → Option β) : Option β :=
  p5arrl C L x0 h (fun x0 x3 h => p5arrr C L x0 x3 h kr)
theorem ep5arr (C : CF) (L : Nat) {β : Type} (x0 : Value) (h : H) (K : Ex → T Value → H → Option β) :
    execK Tryd.prog C L 1 102 [2] c5arr [2] [] (fs [(0, x0)]) h K =
      p5arr C L x0 h (fun x2 h => K .ret (fs [(2, x2)]) h) := by
  rw [execK_seq (a := c5arrl) (b := c5arrr) (by kernel_rfl) (show live [2] c5arrr [2] [] = [0, 3] by kernel_rfl), ep5arrl]
  unfold p5arr
  exact (congrArg (p5arrl C L x0 h) (funext fun x0 => funext fun x3 => funext fun h => (seqK_n _ _ _).trans (ep5arrr C L x0 x3 h K)))
noncomputable def p5ar (C : CF) (L : Nat) {β : Type} (x0 : Value) (h : H) (kr : Value → H → Option β) : Option β :=
  p5arl C L x0 h kr (fun x0 h => p5arr C L x0 h kr)
theorem ep5ar (C : CF) (L : Nat) {β : Type} (x0 : Value) (h : H) (K : Ex → T Value → H → Option β) :
    execK Tryd.prog C L 1 102 [2] c5ar [2] [] (fs [(0, x0)]) h K =
      p5ar C L x0 h (fun x2 h => K .ret (fs [(2, x2)]) h) := by
  rw [execK_seq (a := c5arl) (b := c5arr) (by kernel_rfl) (show live [2] c5arr [2] [] = [0] by kernel_rfl), ep5arl]
  unfold p5ar
  exact (congr (congrArg (p5arl C L x0 h) (funext fun x2 => funext fun h => seqK_r _ _ _)) (funext fun x0 => funext fun h => (seqK_n _ _ _).trans (ep5arr C L x0 h K)))
noncomputable def p5a (C : CF) (L : Nat) {β : Type} (x0 : Value) (h : H) (kr : Value → H → Option β) : Option β :=
  p5al C L x0 h (fun x0 h => p5ar C L x0 h kr)
theorem ep5a (C : CF) (L : Nat) {β : Type} (x0 : Value) (h : H) (K : Ex → T Value → H → Option β) :
    execK Tryd.prog C L 1 102 [2] c5a [2] [] (fs [(0, x0)]) h K =
      p5a C L x0 h (fun x2 h => K .ret (fs [(2, x2)]) h) := by
  rw [execK_seq (a := c5al) (b := c5ar) (by kernel_rfl) (show live [2] c5ar [2] [] = [0] by kernel_rfl), ep5al]
  unfold p5a
  exact (congrArg (p5al C L x0 h) (funext fun x0 => funext fun h => (seqK_n _ _ _).trans (ep5ar C L x0 h K)))
noncomputable def F5 (C : CF) (L : Nat) (x0 : Value) (h : H) : Option (Value × H) :=
  p5a C L x0 h
    (fun x2 h => some (x2, h))
theorem F5eq (O : List FuncId) (hO : O.any (Nat.beq 5) = false) (n : Nat) (x0 : Value) (h : H) : callB Tryd.prog 1 O (n + 1) 5 [x0] h = F5 (callB Tryd.prog 1 O n) n x0 h := by
  rw [callB_eq hO (c := c5a) (nt := 102) (RR := [2]) (fr := (fs [(0, x0)])) Tryd.func5 (by kernel_rfl) (by kernel_rfl) (by kernel_rfl) (by kernel_rfl) (by kernel_rfl), ep5a]
  kernel_rfl

end Go.Proofs.YtlhppeikbgolbaaDoor.IdsF5
