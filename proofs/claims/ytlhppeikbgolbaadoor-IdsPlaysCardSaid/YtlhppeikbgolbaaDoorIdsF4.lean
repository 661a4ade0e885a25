/-
  Functions of the program over the abstract machine: printed by a program of mine (wip/tools/Dec.lean), each with its equation to the machine's call.
-/
import Derived.Test.YtlhppeikbgolbaaDoorProg
import Derived.Test.YtlhppeikbgolbaaDoorAmDec
set_option linter.unusedVariables false
set_option maxRecDepth 100000
namespace Go.Proofs.YtlhppeikbgolbaaDoor.IdsF4
open Go Go.AM


/-! F4: relayhouse/relayhouselaw11.IdsPlays -/
noncomputable def c4a : Code := (Tryd.f4.body).getD .skip
noncomputable def c4al : Code := cL c4a
noncomputable def p4al (C : CF) (L : Nat) {β : Type} (x0 : Value) (h : H) (kn : Value → H → Option β) : Option β :=
  kn x0 h
theorem ep4al (C : CF) (L : Nat) {β : Type} (x0 : Value) (h : H) (K : Ex → T Value → H → Option β) :
    execK Tryd.prog C L 1 108 [2] c4al [0] [] (fs [(0, x0)]) h K =
      p4al C L x0 h (fun x0 h => K .normal (fs [(0, x0)]) h) := by
  kernel_rfl
noncomputable def c4ar : Code := cR c4a
noncomputable def c4arl : Code := cL c4ar
noncomputable def p4arl (C : CF) (L : Nat) {β : Type} (x0 : Value) (h : H) (kr : Value → H → Option β) (kn : Value → H → Option β) : Option β :=
  bnd (A.lenS x0) fun t13 =>
  bnd (A.bin Tryd.prog .gtr 3 t13 (.int .i64 400)) fun t14 =>
  toBK t14 fun b =>
  (bif b then
  bnd2 (C 15 [] h) fun t15 hq1 =>
  toBK t15 fun bq1 =>
  kr (.bool bq1) hq1
  else
  kn x0 h)
theorem ep4arl (C : CF) (L : Nat) {β : Type} (x0 : Value) (h : H) (K : Ex → T Value → H → Option β) :
    execK Tryd.prog C L 1 108 [2] c4arl [0] [] (fs [(0, x0)]) h K =
      p4arl C L x0 h (fun x2 h => K .ret (fs [(2, x2)]) h) (fun x0 h => K .normal (fs [(0, x0)]) h) := by
  kernel_rfl
noncomputable def c4arr : Code := cR c4ar
noncomputable def c4arrl : Code := cL c4arr
noncomputable def p4arrl (C : CF) (L : Nat) {β : Type} (x0 : Value) (h : H) (kn : Value → Value → Value → H → Option β) : Option β :=
  bnd2 (C 8 [] h) fun t16 hq1 =>
  bnd2 (C 16 [] hq1) fun t17 hq2 =>
  kn x0 t16 t17 hq2
theorem ep4arrl (C : CF) (L : Nat) {β : Type} (x0 : Value) (h : H) (K : Ex → T Value → H → Option β) :
    execK Tryd.prog C L 1 108 [2] c4arrl [0, 3, 4] [] (fs [(0, x0)]) h K =
      p4arrl C L x0 h (fun x0 x3 x4 h => K .normal (fs [(0, x0), (3, x3), (4, x4)]) h) := by
  kernel_rfl
noncomputable def c4arrr : Code := cR c4arr
noncomputable def c4arrrl : Code := cL c4arrr
noncomputable def c4arrrll : Code := cL c4arrrl
noncomputable def p4arrrll (C : CF) (L : Nat) {β : Type} (x0 : Value) (x3 : Value) (x4 : Value) (h : H) (kn : Value → Value → Value → Value → H → Option β) : Option β :=
  kn (.int .i64 0) x0 x3 x4 h
theorem ep4arrrll (C : CF) (L : Nat) {β : Type} (x0 : Value) (x3 : Value) (x4 : Value) (h : H) (K : Ex → T Value → H → Option β) :
    execK Tryd.prog C L 1 108 [2] c4arrrll [5, 0, 3, 4] [] (fs [(0, x0), (3, x3), (4, x4)]) h K =
      p4arrrll C L x0 x3 x4 h (fun x5 x0 x3 x4 h => K .normal (fs [(5, x5), (0, x0), (3, x3), (4, x4)]) h) := by
  kernel_rfl
noncomputable def c4arrrlr : Code := cR c4arrrl
noncomputable def c4arrrlrb : Code := cL c4arrrlr
noncomputable def c4arrrlrbo : Code := cL c4arrrlrb
noncomputable def c4arrrlrbol : Code := cL c4arrrlrbo
noncomputable def p4arrrlrbol (C : CF) (L : Nat) {β : Type} (x5 : Value) (x0 : Value) (x3 : Value) (x4 : Value) (h : H) (kn : Value → Value → Value → Value → H → Option β) (kx0 : Value → Value → H → Option β) : Option β :=
  bnd (A.lenS x0) fun t20 =>
  bnd (A.bin Tryd.prog .lss 3 x5 t20) fun t21 =>
  toBK t21 fun b =>
  (bif b then
  kn x5 x0 x3 x4 h
  else
  kx0 x3 x4 h)
theorem ep4arrrlrbol (C : CF) (L : Nat) {β : Type} (x5 : Value) (x0 : Value) (x3 : Value) (x4 : Value) (h : H) (K : Ex → T Value → H → Option β) :
    execK Tryd.prog C L 1 108 [2] c4arrrlrbol [5, 0, 3, 4] [(0, [3, 4])] (fs [(5, x5), (0, x0), (3, x3), (4, x4)]) h K =
      p4arrrlrbol C L x5 x0 x3 x4 h (fun x5 x0 x3 x4 h => K .normal (fs [(5, x5), (0, x0), (3, x3), (4, x4)]) h) (fun x3 x4 h => K (.exit 0) (fs [(3, x3), (4, x4)]) h) := by
  kernel_rfl
noncomputable def c4arrrlrbor : Code := cR c4arrrlrbo
noncomputable def c4arrrlrborl : Code := cL c4arrrlrbor
noncomputable def c4arrrlrborlb : Code := cL c4arrrlrborl
noncomputable def c4arrrlrborlbl : Code := cL c4arrrlrborlb
noncomputable def c4arrrlrborlbll : Code := cL c4arrrlrborlbl
noncomputable def p4arrrlrborlbll (C : CF) (L : Nat) {β : Type} (x5 : Value) (x0 : Value) (x3 : Value) (x4 : Value) (h : H) (kn : Value → Value → Value → Value → Value → H → Option β) : Option β :=
  bnd (A.idxS 1 x0 x5) fun t26 =>
  bnd (A.load false 1 t26 h) fun t27 =>
  bnd (A.bin Tryd.prog .eql 25 t27 (.int .u16 0)) fun t28 =>
  toBK t28 fun b =>
  kn (.bool b) x5 x0 x3 x4 h
theorem ep4arrrlrborlbll (C : CF) (L : Nat) {β : Type} (x5 : Value) (x0 : Value) (x3 : Value) (x4 : Value) (h : H) (K : Ex → T Value → H → Option β) :
    execK Tryd.prog C L 1 108 [2] c4arrrlrborlbll [28, 5, 0, 3, 4] [(1, [5, 0, 3, 4]), (0, [3, 4])] (fs [(5, x5), (0, x0), (3, x3), (4, x4)]) h K =
      p4arrrlrborlbll C L x5 x0 x3 x4 h (fun x28 x5 x0 x3 x4 h => K .normal (fs [(28, x28), (5, x5), (0, x0), (3, x3), (4, x4)]) h) := by
  kernel_rfl
noncomputable def c4arrrlrborlblr : Code := cR c4arrrlrborlbl
noncomputable def c4arrrlrborlblrt : Code := cL c4arrrlrborlblr
noncomputable def p4arrrlrborlblrt (C : CF) (L : Nat) {β : Type} (x28 : Value) (x5 : Value) (x0 : Value) (x3 : Value) (x4 : Value) (h : H) (kr : Value → H → Option β) (kn : Value → Value → Value → Value → H → Option β) : Option β :=
  bnd2 (C 10 [x3] h) fun t31 hq1 =>
  bnd (A.extract 0 t31) fun t32 =>
  bnd (A.extract 1 t31) fun t33 =>
  bnd2 (C 17 [x4] hq1) fun t36 hq2 =>
  bnd (A.extract 0 t36) fun t37 =>
  bnd (A.extract 1 t36) fun t38 =>
  bnd (A.bin Tryd.prog .neq 25 t32 t37) fun t41 =>
  toBK t41 fun b =>
  (bif b then
  kr (.bool false) hq2
  else
  bnd (A.bin Tryd.prog .neq 26 t33 t38) fun t45 =>
  toBK t45 fun bq1 =>
  (bif bq1 then
  kr (.bool false) hq2
  else
  kn x5 x0 x3 x4 hq2))
theorem ep4arrrlrborlblrt (C : CF) (L : Nat) {β : Type} (x28 : Value) (x5 : Value) (x0 : Value) (x3 : Value) (x4 : Value) (h : H) (K : Ex → T Value → H → Option β) :
    execK Tryd.prog C L 1 108 [2] c4arrrlrborlblrt [5, 0, 3, 4] [(1, [5, 0, 3, 4]), (0, [3, 4])] (fs [(28, x28), (5, x5), (0, x0), (3, x3), (4, x4)]) h K =
      p4arrrlrborlblrt C L x28 x5 x0 x3 x4 h (fun x2 h => K .ret (fs [(2, x2)]) h) (fun x5 x0 x3 x4 h => K .normal (fs [(5, x5), (0, x0), (3, x3), (4, x4)]) h) := by
  kernel_rfl
noncomputable def c4arrrlrborlblrf : Code := cR c4arrrlrborlblr
noncomputable def c4arrrlrborlblrfl : Code := cL c4arrrlrborlblrf
noncomputable def p4arrrlrborlblrfl (C : CF) (L : Nat) {β : Type} (x28 : Value) (x5 : Value) (x0 : Value) (x3 : Value) (x4 : Value) (h : H) (kn : Value → Value → Value → Value → Value → H → Option β) : Option β :=
  bnd (A.idxS 1 x0 x5) fun t50 =>
  bnd (A.load false 1 t50 h) fun t51 =>
  bnd2 (C 13 [x3, t51] h) fun t52 hq1 =>
  toBK t52 fun b =>
  bnd (A.idxS 1 x0 x5) fun t56 =>
  bnd (A.load false 1 t56 hq1) fun t57 =>
  bif (chk (bnd (A.load false 1 t56 h) fun v => some v) t57 && true) then
  bnd2 (C 18 [x4, t57] hq1) fun t58 hq2 =>
  toBK t58 fun bq1 =>
  bnd (A.bin Tryd.prog .neq 4 (.bool b) (.bool bq1)) fun t59 =>
  toBK t59 fun bq2 =>
  (bif bq2 then
  kn (.bool true) x5 x0 x3 x4 hq2
  else
  bnd (A.idxS 1 x0 x5) fun t64 =>
  bnd (A.load false 1 t64 hq2) fun t65 =>
  bnd2 (C 12 [x3, t65] hq2) fun t66 hq3 =>
  toBK t66 fun bq3 =>
  bnd (A.idxS 1 x0 x5) fun t70 =>
  bnd (A.load false 1 t70 hq3) fun t71 =>
  bif (chk (bnd (A.load false 1 t70 hq2) fun v => some v) t71 && true) then
  bnd2 (C 19 [x4, t71] hq3) fun t72 hq4 =>
  toBK t72 fun bq4 =>
  bnd (A.bin Tryd.prog .neq 4 (.bool bq3) (.bool bq4)) fun t73 =>
  toBK t73 fun bq5 =>
  (bif bq5 then
  kn (.bool true) x5 x0 x3 x4 hq4
  else
  bnd (A.idxS 1 x0 x5) fun t79 =>
  bnd (A.load false 1 t79 hq4) fun t80 =>
  bnd2 (C 13 [x3, t80] hq4) fun t81 hq5 =>
  toBK t81 fun bq6 =>
  kn (.bool bq6) x5 x0 x3 x4 hq5)
  else none)
  else none
theorem ep4arrrlrborlblrfl (C : CF) (L : Nat) {β : Type} (x28 : Value) (x5 : Value) (x0 : Value) (x3 : Value) (x4 : Value) (h : H) (K : Ex → T Value → H → Option β) :
    execK Tryd.prog C L 1 108 [2] c4arrrlrborlblrfl [82, 5, 0, 3, 4] [(1, [5, 0, 3, 4]), (0, [3, 4])] (fs [(28, x28), (5, x5), (0, x0), (3, x3), (4, x4)]) h K =
      p4arrrlrborlblrfl C L x28 x5 x0 x3 x4 h (fun x82 x5 x0 x3 x4 h => K .normal (fs [(82, x82), (5, x5), (0, x0), (3, x3), (4, x4)]) h) := by
  kernel_rfl
noncomputable def c4arrrlrborlblrfr : Code := cR c4arrrlrborlblrf
noncomputable def p4arrrlrborlblrfr (C : CF) (L : Nat) {β : Type} (x82 : Value) (x5 : Value) (x0 : Value) (x3 : Value) (x4 : Value) (h : H) (kr : Value → H → Option β) (kn : Value → Value → Value → Value → H → Option β) : Option β :=
  condV x82 (
  kr (.bool false) h) (
  kn x5 x0 x3 x4 h)
theorem ep4arrrlrborlblrfr (C : CF) (L : Nat) {β : Type} (x82 : Value) (x5 : Value) (x0 : Value) (x3 : Value) (x4 : Value) (h : H) (K : Ex → T Value → H → Option β) :
    execK Tryd.prog C L 1 108 [2] c4arrrlrborlblrfr [5, 0, 3, 4] [(1, [5, 0, 3, 4]), (0, [3, 4])] (fs [(82, x82), (5, x5), (0, x0), (3, x3), (4, x4)]) h K =
      p4arrrlrborlblrfr C L x82 x5 x0 x3 x4 h (fun x2 h => K .ret (fs [(2, x2)]) h) (fun x5 x0 x3 x4 h => K .normal (fs [(5, x5), (0, x0), (3, x3), (4, x4)]) h) := by
  kernel_rfl
noncomputable def p4arrrlrborlblrf (C : CF) (L : Nat) {β : Type} (x28 : Value) (x5 : Value) (x0 : Value) (x3 : Value) (x4 : Value) (h : H) (kr : Value → H → Option β) (kn : Value → Value → Value → Value → H → Option β) : Option β :=
  p4arrrlrborlblrfl C L x28 x5 x0 x3 x4 h (fun x82 x5 x0 x3 x4 h => p4arrrlrborlblrfr C L x82 x5 x0 x3 x4 h kr kn)
theorem ep4arrrlrborlblrf (C : CF) (L : Nat) {β : Type} (x28 : Value) (x5 : Value) (x0 : Value) (x3 : Value) (x4 : Value) (h : H) (K : Ex → T Value → H → Option β) :
    execK Tryd.prog C L 1 108 [2] c4arrrlrborlblrf [5, 0, 3, 4] [(1, [5, 0, 3, 4]), (0, [3, 4])] (fs [(28, x28), (5, x5), (0, x0), (3, x3), (4, x4)]) h K =
      p4arrrlrborlblrf C L x28 x5 x0 x3 x4 h (fun x2 h => K .ret (fs [(2, x2)]) h) (fun x5 x0 x3 x4 h => K .normal (fs [(5, x5), (0, x0), (3, x3), (4, x4)]) h) := by
  rw [execK_seq (a := c4arrrlrborlblrfl) (b := c4arrrlrborlblrfr) (by kernel_rfl) (show live [2] c4arrrlrborlblrfr [5, 0, 3, 4] [(1, [5, 0, 3, 4]), (0, [3, 4])] = [82, 5, 0, 3, 4] by kernel_rfl), ep4arrrlrborlblrfl]
  unfold p4arrrlrborlblrf
  exact (congrArg (p4arrrlrborlblrfl C L x28 x5 x0 x3 x4 h) (funext fun x82 => funext fun x5 => funext fun x0 => funext fun x3 => funext fun x4 => funext fun h => (seqK_n _ _ _).trans (ep4arrrlrborlblrfr C L x82 x5 x0 x3 x4 h K)))
noncomputable def p4arrrlrborlblr (C : CF) (L : Nat) {β : Type} (x28 : Value) (x5 : Value) (x0 : Value) (x3 : Value) (x4 : Value) (h : H) (kr : Value → H → Option β) (kn : Value → Value → Value → Value → H → Option β) : Option β :=
  condV x28 (p4arrrlrborlblrt C L x28 x5 x0 x3 x4 h kr kn) (p4arrrlrborlblrf C L x28 x5 x0 x3 x4 h kr kn)
theorem ep4arrrlrborlblr (C : CF) (L : Nat) {β : Type} (x28 : Value) (x5 : Value) (x0 : Value) (x3 : Value) (x4 : Value) (h : H) (K : Ex → T Value → H → Option β) :
    execK Tryd.prog C L 1 108 [2] c4arrrlrborlblr [5, 0, 3, 4] [(1, [5, 0, 3, 4]), (0, [3, 4])] (fs [(28, x28), (5, x5), (0, x0), (3, x3), (4, x4)]) h K =
      p4arrrlrborlblr C L x28 x5 x0 x3 x4 h (fun x2 h => K .ret (fs [(2, x2)]) h) (fun x5 x0 x3 x4 h => K .normal (fs [(5, x5), (0, x0), (3, x3), (4, x4)]) h) := by
  rw [execK_cond (a := c4arrrlrborlblrt) (b := c4arrrlrborlblrf) (x := (.tmp 28)) (v := x28) (by kernel_rfl) (by kernel_rfl), ep4arrrlrborlblrt, ep4arrrlrborlblrf]
  unfold p4arrrlrborlblr
  rfl
noncomputable def p4arrrlrborlbl (C : CF) (L : Nat) {β : Type} (x5 : Value) (x0 : Value) (x3 : Value) (x4 : Value) (h : H) (kr : Value → H → Option β) (kn : Value → Value → Value → Value → H → Option β) : Option β :=
  p4arrrlrborlbll C L x5 x0 x3 x4 h (fun x28 x5 x0 x3 x4 h => p4arrrlrborlblr C L x28 x5 x0 x3 x4 h kr kn)
theorem ep4arrrlrborlbl (C : CF) (L : Nat) {β : Type} (x5 : Value) (x0 : Value) (x3 : Value) (x4 : Value) (h : H) (K : Ex → T Value → H → Option β) :
    execK Tryd.prog C L 1 108 [2] c4arrrlrborlbl [5, 0, 3, 4] [(1, [5, 0, 3, 4]), (0, [3, 4])] (fs [(5, x5), (0, x0), (3, x3), (4, x4)]) h K =
      p4arrrlrborlbl C L x5 x0 x3 x4 h (fun x2 h => K .ret (fs [(2, x2)]) h) (fun x5 x0 x3 x4 h => K .normal (fs [(5, x5), (0, x0), (3, x3), (4, x4)]) h) := by
  rw [execK_seq (a := c4arrrlrborlbll) (b := c4arrrlrborlblr) (by kernel_rfl) (show live [2] c4arrrlrborlblr [5, 0, 3, 4] [(1, [5, 0, 3, 4]), (0, [3, 4])] = [28, 5, 0, 3, 4] by kernel_rfl), ep4arrrlrborlbll]
  unfold p4arrrlrborlbl
  exact (congrArg (p4arrrlrborlbll C L x5 x0 x3 x4 h) (funext fun x28 => funext fun x5 => funext fun x0 => funext fun x3 => funext fun x4 => funext fun h => (seqK_n _ _ _).trans (ep4arrrlrborlblr C L x28 x5 x0 x3 x4 h K)))
noncomputable def c4arrrlrborlbr : Code := cR c4arrrlrborlb
noncomputable def p4arrrlrborlbr (C : CF) (L : Nat) {β : Type} (x5 : Value) (x0 : Value) (x3 : Value) (x4 : Value) (h : H) (kr : Value → H → Option β) (kn : Value → Value → Value → Value → H → Option β) : Option β :=
  bnd2 (C 11 [x3] h) fun t84 hq1 =>
  bnd (A.nilCheck x4) fun t86 =>
  bnd (A.fieldAddr 0 t86) fun t87 =>
  bnd (A.load false 1 t87 hq1) fun t88 =>
  bif (chk (bnd (A.load false 1 t87 h) fun v => some v) t88 && true) then
  bnd (A.lenS t88) fun t89 =>
  bnd (A.bin Tryd.prog .neq 3 t84 t89) fun t90 =>
  toBK t90 fun b =>
  (bif b then
  kr (.bool false) hq1
  else
  kn x5 x0 x3 x4 hq1)
  else none
theorem ep4arrrlrborlbr (C : CF) (L : Nat) {β : Type} (x5 : Value) (x0 : Value) (x3 : Value) (x4 : Value) (h : H) (K : Ex → T Value → H → Option β) :
    execK Tryd.prog C L 1 108 [2] c4arrrlrborlbr [5, 0, 3, 4] [(1, [5, 0, 3, 4]), (0, [3, 4])] (fs [(5, x5), (0, x0), (3, x3), (4, x4)]) h K =
      p4arrrlrborlbr C L x5 x0 x3 x4 h (fun x2 h => K .ret (fs [(2, x2)]) h) (fun x5 x0 x3 x4 h => K .normal (fs [(5, x5), (0, x0), (3, x3), (4, x4)]) h) := by
  kernel_rfl
noncomputable def p4arrrlrborlb (C : CF) (L : Nat) {β : Type} (x5 : Value) (x0 : Value) (x3 : Value) (x4 : Value) (h : H) (kr : Value → H → Option β) (kn : Value → Value → Value → Value → H → Option β) : Option β :=
  p4arrrlrborlbl C L x5 x0 x3 x4 h kr (fun x5 x0 x3 x4 h => p4arrrlrborlbr C L x5 x0 x3 x4 h kr kn)
theorem ep4arrrlrborlb (C : CF) (L : Nat) {β : Type} (x5 : Value) (x0 : Value) (x3 : Value) (x4 : Value) (h : H) (K : Ex → T Value → H → Option β) :
    execK Tryd.prog C L 1 108 [2] c4arrrlrborlb [5, 0, 3, 4] [(1, [5, 0, 3, 4]), (0, [3, 4])] (fs [(5, x5), (0, x0), (3, x3), (4, x4)]) h K =
      p4arrrlrborlb C L x5 x0 x3 x4 h (fun x2 h => K .ret (fs [(2, x2)]) h) (fun x5 x0 x3 x4 h => K .normal (fs [(5, x5), (0, x0), (3, x3), (4, x4)]) h) := by
  rw [execK_seq (a := c4arrrlrborlbl) (b := c4arrrlrborlbr) (by kernel_rfl) (show live [2] c4arrrlrborlbr [5, 0, 3, 4] [(1, [5, 0, 3, 4]), (0, [3, 4])] = [5, 0, 3, 4] by kernel_rfl), ep4arrrlrborlbl]
  unfold p4arrrlrborlb
  exact (congr (congrArg (p4arrrlrborlbl C L x5 x0 x3 x4 h) (funext fun x2 => funext fun h => seqK_r _ _ _)) (funext fun x5 => funext fun x0 => funext fun x3 => funext fun x4 => funext fun h => (seqK_n _ _ _).trans (ep4arrrlrborlbr C L x5 x0 x3 x4 h K)))
noncomputable def p4arrrlrborl (C : CF) (L : Nat) {β : Type} (x5 : Value) (x0 : Value) (x3 : Value) (x4 : Value) (h : H) (kr : Value → H → Option β) (kn : Value → Value → Value → Value → H → Option β) : Option β :=
  p4arrrlrborlb C L x5 x0 x3 x4 h kr kn
theorem ep4arrrlrborl (C : CF) (L : Nat) {β : Type} (x5 : Value) (x0 : Value) (x3 : Value) (x4 : Value) (h : H) (K : Ex → T Value → H → Option β) :
    execK Tryd.prog C L 1 108 [2] c4arrrlrborl [5, 0, 3, 4] [(0, [3, 4])] (fs [(5, x5), (0, x0), (3, x3), (4, x4)]) h K =
      p4arrrlrborl C L x5 x0 x3 x4 h (fun x2 h => K .ret (fs [(2, x2)]) h) (fun x5 x0 x3 x4 h => K .normal (fs [(5, x5), (0, x0), (3, x3), (4, x4)]) h) := by
  rw [execK_block (b := c4arrrlrborlb) (id := 1) (by kernel_rfl), ep4arrrlrborlb]
  unfold p4arrrlrborl
  rfl
noncomputable def c4arrrlrborr : Code := cR c4arrrlrbor
noncomputable def p4arrrlrborr (C : CF) (L : Nat) {β : Type} (x5 : Value) (x0 : Value) (x3 : Value) (x4 : Value) (h : H) (kn : Value → Value → Value → Value → H → Option β) : Option β :=
  bnd (A.bin Tryd.prog .add 3 x5 (.int .i64 1)) fun t23 =>
  kn t23 x0 x3 x4 h
theorem ep4arrrlrborr (C : CF) (L : Nat) {β : Type} (x5 : Value) (x0 : Value) (x3 : Value) (x4 : Value) (h : H) (K : Ex → T Value → H → Option β) :
    execK Tryd.prog C L 1 108 [2] c4arrrlrborr [5, 0, 3, 4] [(0, [3, 4])] (fs [(5, x5), (0, x0), (3, x3), (4, x4)]) h K =
      p4arrrlrborr C L x5 x0 x3 x4 h (fun x5 x0 x3 x4 h => K .normal (fs [(5, x5), (0, x0), (3, x3), (4, x4)]) h) := by
  kernel_rfl
noncomputable def p4arrrlrbor (C : CF) (L : Nat) {β : Type} (x5 : Value) (x0 : Value) (x3 : Value) (x4 : Value) (h : H) (kn : Value → Value → Value → Value → H → Option β) (kr : Value → H → Option β) : Option β :=
  p4arrrlrborl C L x5 x0 x3 x4 h kr (fun x5 x0 x3 x4 h => p4arrrlrborr C L x5 x0 x3 x4 h kn)
theorem ep4arrrlrbor (C : CF) (L : Nat) {β : Type} (x5 : Value) (x0 : Value) (x3 : Value) (x4 : Value) (h : H) (K : Ex → T Value → H → Option β) :
    execK Tryd.prog C L 1 108 [2] c4arrrlrbor [5, 0, 3, 4] [(0, [3, 4])] (fs [(5, x5), (0, x0), (3, x3), (4, x4)]) h K =
      p4arrrlrbor C L x5 x0 x3 x4 h (fun x5 x0 x3 x4 h => K .normal (fs [(5, x5), (0, x0), (3, x3), (4, x4)]) h) (fun x2 h => K .ret (fs [(2, x2)]) h) := by
  rw [execK_seq (a := c4arrrlrborl) (b := c4arrrlrborr) (by kernel_rfl) (show live [2] c4arrrlrborr [5, 0, 3, 4] [(0, [3, 4])] = [5, 0, 3, 4] by kernel_rfl), ep4arrrlrborl]
  unfold p4arrrlrbor
  exact (congr (congrArg (p4arrrlrborl C L x5 x0 x3 x4 h) (funext fun x2 => funext fun h => seqK_r _ _ _)) (funext fun x5 => funext fun x0 => funext fun x3 => funext fun x4 => funext fun h => (seqK_n _ _ _).trans (ep4arrrlrborr C L x5 x0 x3 x4 h K)))
noncomputable def p4arrrlrbo (C : CF) (L : Nat) {β : Type} (x5 : Value) (x0 : Value) (x3 : Value) (x4 : Value) (h : H) (kn : Value → Value → Value → Value → H → Option β) (kr : Value → H → Option β) (kx0 : Value → Value → H → Option β) : Option β :=
  p4arrrlrbol C L x5 x0 x3 x4 h (fun x5 x0 x3 x4 h => p4arrrlrbor C L x5 x0 x3 x4 h kn kr) kx0
theorem ep4arrrlrbo (C : CF) (L : Nat) {β : Type} (x5 : Value) (x0 : Value) (x3 : Value) (x4 : Value) (h : H) (K : Ex → T Value → H → Option β) :
    execK Tryd.prog C L 1 108 [2] c4arrrlrbo [5, 0, 3, 4] [(0, [3, 4])] (fs [(5, x5), (0, x0), (3, x3), (4, x4)]) h K =
      p4arrrlrbo C L x5 x0 x3 x4 h (fun x5 x0 x3 x4 h => K .normal (fs [(5, x5), (0, x0), (3, x3), (4, x4)]) h) (fun x2 h => K .ret (fs [(2, x2)]) h) (fun x3 x4 h => K (.exit 0) (fs [(3, x3), (4, x4)]) h) := by
  rw [execK_seq (a := c4arrrlrbol) (b := c4arrrlrbor) (by kernel_rfl) (show live [2] c4arrrlrbor [5, 0, 3, 4] [(0, [3, 4])] = [5, 0, 3, 4] by kernel_rfl), ep4arrrlrbol]
  unfold p4arrrlrbo
  exact (congr (congrArg (p4arrrlrbol C L x5 x0 x3 x4 h) (funext fun x5 => funext fun x0 => funext fun x3 => funext fun x4 => funext fun h => (seqK_n _ _ _).trans (ep4arrrlrbor C L x5 x0 x3 x4 h K))) (funext fun x3 => funext fun x4 => funext fun h => seqK_x _ _ _ _))
noncomputable def p4arrrlrbw (C : CF) (L : Nat) {β : Type} (kr : Value → H → Option β) (kx0 : Value → Value → H → Option β) : Nat → Value → Value → Value → Value → H → Option β
  | 0, _, _, _, _, _ => none
  | n + 1, x5, x0, x3, x4, h => p4arrrlrbo C L x5 x0 x3 x4 h (fun x5 x0 x3 x4 h => p4arrrlrbw C L kr kx0 n x5 x0 x3 x4 h) kr kx0
theorem ep4arrrlrbw (C : CF) (L : Nat) {β : Type} (K : Ex → T Value → H → Option β) : ∀ (n : Nat) (x5 : Value) (x0 : Value) (x3 : Value) (x4 : Value) (h : H),
    loopK (fun fr h K => execK Tryd.prog C L 1 108 [2] c4arrrlrbo [5, 0, 3, 4] [(0, [3, 4])] fr h K) n (fs [(5, x5), (0, x0), (3, x3), (4, x4)]) h K =
      p4arrrlrbw C L (fun x2 h => K .ret (fs [(2, x2)]) h) (fun x3 x4 h => K (.exit 0) (fs [(3, x3), (4, x4)]) h) n x5 x0 x3 x4 h := by
  intro n
  induction n with
  | zero => intros; rfl
  | succ n ih =>
    intros
    simp only [loopK]
    rw [ep4arrrlrbo]
    simp only [seqK_n, seqK_x, seqK_r, ih]
    rfl
noncomputable def p4arrrlrb (C : CF) (L : Nat) {β : Type} (x5 : Value) (x0 : Value) (x3 : Value) (x4 : Value) (h : H) (kr : Value → H → Option β) (kx0 : Value → Value → H → Option β) : Option β :=
  p4arrrlrbw C L kr kx0 L x5 x0 x3 x4 h
theorem ep4arrrlrb (C : CF) (L : Nat) {β : Type} (x5 : Value) (x0 : Value) (x3 : Value) (x4 : Value) (h : H) (K : Ex → T Value → H → Option β) :
    execK Tryd.prog C L 1 108 [2] c4arrrlrb [3, 4] [(0, [3, 4])] (fs [(5, x5), (0, x0), (3, x3), (4, x4)]) h K =
      p4arrrlrb C L x5 x0 x3 x4 h (fun x2 h => K .ret (fs [(2, x2)]) h) (fun x3 x4 h => K (.exit 0) (fs [(3, x3), (4, x4)]) h) := by
  rw [execK_loop (b := c4arrrlrbo) (fr1 := (fs [(5, x5), (0, x0), (3, x3), (4, x4)])) (by kernel_rfl) (show live [2] c4arrrlrbo [] [(0, [3, 4])] = [5, 0, 3, 4] by kernel_rfl) (by kernel_rfl), ep4arrrlrbw]
  unfold p4arrrlrb
  rfl
noncomputable def p4arrrlr (C : CF) (L : Nat) {β : Type} (x5 : Value) (x0 : Value) (x3 : Value) (x4 : Value) (h : H) (kr : Value → H → Option β) (kn : Value → Value → H → Option β) : Option β :=
  p4arrrlrb C L x5 x0 x3 x4 h kr kn
theorem ep4arrrlr (C : CF) (L : Nat) {β : Type} (x5 : Value) (x0 : Value) (x3 : Value) (x4 : Value) (h : H) (K : Ex → T Value → H → Option β) :
    execK Tryd.prog C L 1 108 [2] c4arrrlr [3, 4] [] (fs [(5, x5), (0, x0), (3, x3), (4, x4)]) h K =
      p4arrrlr C L x5 x0 x3 x4 h (fun x2 h => K .ret (fs [(2, x2)]) h) (fun x3 x4 h => K .normal (fs [(3, x3), (4, x4)]) h) := by
  rw [execK_block (b := c4arrrlrb) (id := 0) (by kernel_rfl), ep4arrrlrb]
  unfold p4arrrlr
  rfl
noncomputable def p4arrrl (C : CF) (L : Nat) {β : Type} (x0 : Value) (x3 : Value) (x4 : Value) (h : H) (kr : Value → H → Option β) (kn : Value → Value → H → Option β) : Option β :=
  p4arrrll C L x0 x3 x4 h (fun x5 x0 x3 x4 h => p4arrrlr C L x5 x0 x3 x4 h kr kn)
theorem ep4arrrl (C : CF) (L : Nat) {β : Type} (x0 : Value) (x3 : Value) (x4 : Value) (h : H) (K : Ex → T Value → H → Option β) :
    execK Tryd.prog C L 1 108 [2] c4arrrl [3, 4] [] (fs [(0, x0), (3, x3), (4, x4)]) h K =
      p4arrrl C L x0 x3 x4 h (fun x2 h => K .ret (fs [(2, x2)]) h) (fun x3 x4 h => K .normal (fs [(3, x3), (4, x4)]) h) := by
  rw [execK_seq (a := c4arrrll) (b := c4arrrlr) (by kernel_rfl) (show live [2] c4arrrlr [3, 4] [] = [5, 0, 3, 4] by kernel_rfl), ep4arrrll]
  unfold p4arrrl
  exact (congrArg (p4arrrll C L x0 x3 x4 h) (funext fun x5 => funext fun x0 => funext fun x3 => funext fun x4 => funext fun h => (seqK_n _ _ _).trans (ep4arrrlr C L x5 x0 x3 x4 h K)))
noncomputable def c4arrrr : Code := cR c4arrr
noncomputable def p4arrrr (C : CF) (L : Nat) {β : Type} (x3 : Value) (x4 : Value) (h : H) (kr : Value → H → Option β) : Option β :=
  bnd2 (C 14 [x3] h) fun t93 hq1 =>
  bnd (A.extract 0 t93) fun t94 =>
  bnd (A.extract 1 t93) fun t95 =>
  toBK t95 fun b =>
  (bif b then
  bnd (A.nilCheck x4) fun t100 =>
  bnd (A.fieldAddr 0 t100) fun t101 =>
  bnd (A.load false 1 t101 hq1) fun t102 =>
  bnd2 (C 20 [t94, t102] hq1) fun t103 hq2 =>
  toBK t103 fun bq1 =>
  (bif bq1 then
  bnd2 (C 15 [] hq2) fun t106 hq3 =>
  toBK t106 fun bq2 =>
  kr (.bool bq2) hq3
  else
  kr (.bool false) hq2)
  else
  kr (.bool false) hq1)
theorem ep4arrrr (C : CF) (L : Nat) {β : Type} (x3 : Value) (x4 : Value) (h : H) (K : Ex → T Value → H → Option β) :
    execK Tryd.prog C L 1 108 [2] c4arrrr [2] [] (fs [(3, x3), (4, x4)]) h K =
      p4arrrr C L x3 x4 h (fun x2 h => K .ret (fs [(2, x2)]) h) := by
  kernel_rfl
noncomputable def p4arrr (C : CF) (L : Nat) {β : Type} (x0 : Value) (x3 : Value) (x4 : Value) (h : H) (kr : Value → H → Option β) : Option β :=
  p4arrrl C L x0 x3 x4 h kr (fun x3 x4 h => p4arrrr C L x3 x4 h kr)
theorem ep4arrr (C : CF) (L : Nat) {β : Type} (x0 : Value) (x3 : Value) (x4 : Value) (h : H) (K : Ex → T Value → H → Option β) :
    execK Tryd.prog C L 1 108 [2] c4arrr [2] [] (fs [(0, x0), (3, x3), (4, x4)]) h K =
      p4arrr C L x0 x3 x4 h (fun x2 h => K .ret (fs [(2, x2)]) h) := by
  rw [execK_seq (a := c4arrrl) (b := c4arrrr) (by kernel_rfl) (show live [2] c4arrrr [2] [] = [3, 4] by kernel_rfl), ep4arrrl]
  unfold p4arrr
  exact (congr (congrArg (p4arrrl C L x0 x3 x4 h) (funext fun x2 => funext fun h => seqK_r _ _ _)) (funext fun x3 => funext fun x4 => funext fun h => (seqK_n _ _ _).trans (ep4arrrr C L x3 x4 h K)))
noncomputable def p4arr (C : CF) (L : Nat) {β : Type} (x0 : Value) (h : H) (kr : Value → H → Option β) : Option β :=
  p4arrl C L x0 h (fun x0 x3 x4 h => p4arrr C L x0 x3 x4 h kr)
theorem ep4arr (C : CF) (L : Nat) {β : Type} (x0 : Value) (h : H) (K : Ex → T Value → H → Option β) :
    execK Tryd.prog C L 1 108 [2] c4arr [2] [] (fs [(0, x0)]) h K =
      p4arr C L x0 h (fun x2 h => K .ret (fs [(2, x2)]) h) := by
  rw [execK_seq (a := c4arrl) (b := c4arrr) (by kernel_rfl) (show live [2] c4arrr [2] [] = [0, 3, 4] by kernel_rfl), ep4arrl]
  unfold p4arr
  exact (congrArg (p4arrl C L x0 h) (funext fun x0 => funext fun x3 => funext fun x4 => funext fun h => (seqK_n _ _ _).trans (ep4arrr C L x0 x3 x4 h K)))
noncomputable def p4ar (C : CF) (L : Nat) {β : Type} (x0 : Value) (h : H) (kr : Value → H → Option β) : Option β :=
  p4arl C L x0 h kr (fun x0 h => p4arr C L x0 h kr)
theorem ep4ar (C : CF) (L : Nat) {β : Type} (x0 : Value) (h : H) (K : Ex → T Value → H → Option β) :
    execK Tryd.prog C L 1 108 [2] c4ar [2] [] (fs [(0, x0)]) h K =
      p4ar C L x0 h (fun x2 h => K .ret (fs [(2, x2)]) h) := by
  rw [execK_seq (a := c4arl) (b := c4arr) (by kernel_rfl) (show live [2] c4arr [2] [] = [0] by kernel_rfl), ep4arl]
  unfold p4ar
  exact (congr (congrArg (p4arl C L x0 h) (funext fun x2 => funext fun h => seqK_r _ _ _)) (funext fun x0 => funext fun h => (seqK_n _ _ _).trans (ep4arr C L x0 h K)))
noncomputable def p4a (C : CF) (L : Nat) {β : Type} (x0 : Value) (h : H) (kr : Value → H → Option β) : Option β :=
  p4al C L x0 h (fun x0 h => p4ar C L x0 h kr)
theorem ep4a (C : CF) (L : Nat) {β : Type} (x0 : Value) (h : H) (K : Ex → T Value → H → Option β) :
    execK Tryd.prog C L 1 108 [2] c4a [2] [] (fs [(0, x0)]) h K =
      p4a C L x0 h (fun x2 h => K .ret (fs [(2, x2)]) h) := by
  rw [execK_seq (a := c4al) (b := c4ar) (by kernel_rfl) (show live [2] c4ar [2] [] = [0] by kernel_rfl), ep4al]
  unfold p4a
  exact (congrArg (p4al C L x0 h) (funext fun x0 => funext fun h => (seqK_n _ _ _).trans (ep4ar C L x0 h K)))
noncomputable def F4 (C : CF) (L : Nat) (x0 : Value) (h : H) : Option (Value × H) :=
  p4a C L x0 h
    (fun x2 h => some (x2, h))
theorem F4eq (O : List FuncId) (hO : O.any (Nat.beq 4) = false) (n : Nat) (x0 : Value) (h : H) : callB Tryd.prog 1 O (n + 1) 4 [x0] h = F4 (callB Tryd.prog 1 O n) n x0 h := by
  rw [callB_eq hO (c := c4a) (nt := 108) (RR := [2]) (fr := (fs [(0, x0)])) Tryd.func4 (by kernel_rfl) (by kernel_rfl) (by kernel_rfl) (by kernel_rfl) (by kernel_rfl), ep4a]
  kernel_rfl

end Go.Proofs.YtlhppeikbgolbaaDoor.IdsF4
