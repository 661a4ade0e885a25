/-
  Functions of the program over the abstract machine: printed by a program of mine (wip/tools/Dec.lean), each with its equation to the machine's call.
-/
import Derived.Test.YtlhppeikbgolbaaDoorProg
import Derived.Test.YtlhppeikbgolbaaDoorAmDec
set_option linter.unusedVariables false
set_option maxRecDepth 100000
namespace Go.Proofs.YtlhppeikbgolbaaDoor.IdsF6
open Go Go.AM

noncomputable def Z4 : Value := (.bool false)
noncomputable def Z4L : List Value := [(.bool false)]
noncomputable def Z3 : Value := (.int .i64 0)
noncomputable def Z3L : List Value := [(.int .i64 0)]
noncomputable def Z30 : Value := (.slice none 0 0)
noncomputable def Z30L : List Value := [(.slice none 0 0)]
noncomputable def Z25 : Value := (.int .u16 0)
noncomputable def Z25L : List Value := [(.int .u16 0)]

/-! F6: relayhouse/relayhouselaw11.IdsRange -/
noncomputable def c6a : Code := (Tryd.f6.body).getD .skip
noncomputable def c6al : Code := cL c6a
noncomputable def p6al (C : CF) (L : Nat) {β : Type} (x0 : Value) (x1 : Value) (x2 : Value) (h : H) (kn : Value → Value → Value → Value → H → Option β) : Option β :=
  bnd2 (A.box 1 x1 h) fun t4 hq1 =>
  bnd2 (A.box 1 x2 hq1) fun t5 hq2 =>
  bnd2 (A.box 1 Z4 hq2) fun t6 hq3 =>
  kn x0 t4 t5 t6 hq3
theorem ep6al (C : CF) (L : Nat) {β : Type} (x0 : Value) (x1 : Value) (x2 : Value) (h : H) (K : Ex → T Value → H → Option β) :
    execK Tryd.prog C L 1 121 [6] c6al [0, 61, 4, 5, 6, 73] [] (fs [(0, x0), (1, x1), (2, x2)]) h K =
      p6al C L x0 x1 x2 h (fun x0 x4 x5 x6 h => K .normal (fs [(0, x0), (4, x4), (5, x5), (6, x6)]) h) := by
  kernel_rfl
noncomputable def c6ar : Code := cR c6a
noncomputable def c6arl : Code := cL c6ar
noncomputable def p6arl (C : CF) (L : Nat) {β : Type} (x0 : Value) (x4 : Value) (x5 : Value) (x6 : Value) (h : H) (kr : Value → H → Option β) (kn : Value → Value → Value → Value → H → Option β) : Option β :=
  bnd (A.lenS x0) fun t18 =>
  bnd (A.bin Tryd.prog .gtr 3 t18 (.int .i64 400)) fun t19 =>
  toBK t19 fun b =>
  (bif b then
  bnd2 (C 15 [] h) fun t20 hq1 =>
  toBK t20 fun bq1 =>
  bnd (A.store 1 x6 (.bool bq1) hq1) fun hq2 =>
  kr x6 hq2
  else
  kn x0 x4 x5 x6 h)
theorem ep6arl (C : CF) (L : Nat) {β : Type} (x0 : Value) (x4 : Value) (x5 : Value) (x6 : Value) (h : H) (K : Ex → T Value → H → Option β) :
    execK Tryd.prog C L 1 121 [6] c6arl [0, 61, 4, 5, 6, 73] [] (fs [(0, x0), (4, x4), (5, x5), (6, x6)]) h K =
      p6arl C L x0 x4 x5 x6 h (fun x6 h => K .ret (fs [(6, x6)]) h) (fun x0 x4 x5 x6 h => K .normal (fs [(0, x0), (4, x4), (5, x5), (6, x6)]) h) := by
  kernel_rfl
noncomputable def c6arr : Code := cR c6ar
noncomputable def c6arrl : Code := cL c6arr
noncomputable def p6arrl (C : CF) (L : Nat) {β : Type} (x0 : Value) (x4 : Value) (x5 : Value) (x6 : Value) (h : H) (kn : Value → Value → Value → Value → Value → H → Option β) : Option β :=
  bnd2 (C 8 [] h) fun t21 hq1 =>
  kn x0 t21 x4 x5 x6 hq1
theorem ep6arrl (C : CF) (L : Nat) {β : Type} (x0 : Value) (x4 : Value) (x5 : Value) (x6 : Value) (h : H) (K : Ex → T Value → H → Option β) :
    execK Tryd.prog C L 1 121 [6] c6arrl [0, 7, 61, 4, 5, 6, 73] [] (fs [(0, x0), (4, x4), (5, x5), (6, x6)]) h K =
      p6arrl C L x0 x4 x5 x6 h (fun x0 x7 x4 x5 x6 h => K .normal (fs [(0, x0), (7, x7), (4, x4), (5, x5), (6, x6)]) h) := by
  kernel_rfl
noncomputable def c6arrr : Code := cR c6arr
noncomputable def c6arrrl : Code := cL c6arrr
noncomputable def c6arrrll : Code := cL c6arrrl
noncomputable def p6arrrll (C : CF) (L : Nat) {β : Type} (x0 : Value) (x7 : Value) (x4 : Value) (x5 : Value) (x6 : Value) (h : H) (kn : Value → Value → Value → Value → Value → Value → H → Option β) : Option β :=
  kn (.int .i64 0) x0 x7 x4 x5 x6 h
theorem ep6arrrll (C : CF) (L : Nat) {β : Type} (x0 : Value) (x7 : Value) (x4 : Value) (x5 : Value) (x6 : Value) (h : H) (K : Ex → T Value → H → Option β) :
    execK Tryd.prog C L 1 121 [6] c6arrrll [8, 0, 7, 61, 4, 5, 6, 73] [] (fs [(0, x0), (7, x7), (4, x4), (5, x5), (6, x6)]) h K =
      p6arrrll C L x0 x7 x4 x5 x6 h (fun x8 x0 x7 x4 x5 x6 h => K .normal (fs [(8, x8), (0, x0), (7, x7), (4, x4), (5, x5), (6, x6)]) h) := by
  kernel_rfl
noncomputable def c6arrrlr : Code := cR c6arrrl
noncomputable def c6arrrlrb : Code := cL c6arrrlr
noncomputable def c6arrrlrbo : Code := cL c6arrrlrb
noncomputable def p6arrrlrbo (C : CF) (L : Nat) {β : Type} (x8 : Value) (x0 : Value) (x7 : Value) (x4 : Value) (x5 : Value) (x6 : Value) (h : H) (kn : Value → Value → Value → Value → Value → Value → H → Option β) (kx0 : Value → Value → Value → Value → H → Option β) : Option β :=
  bnd (A.lenS x0) fun t24 =>
  bnd (A.bin Tryd.prog .lss 3 x8 t24) fun t25 =>
  toBK t25 fun b =>
  (bif b then
  bnd (A.idxS 1 x0 x8) fun t30 =>
  bnd (A.load false 1 t30 h) fun t31 =>
  bnd (A.bin Tryd.prog .eql 25 t31 (.int .u16 0)) fun t32 =>
  toBK t32 fun bq1 =>
  (bif bq1 then
  bnd2 (C 10 [x7] h) fun t34 hq1 =>
  bnd (A.bin Tryd.prog .add 3 x8 (.int .i64 1)) fun t27 =>
  kn t27 x0 x7 x4 x5 x6 hq1
  else
  bnd (A.idxS 1 x0 x8) fun t38 =>
  bnd (A.load false 1 t38 h) fun t39 =>
  bnd2 (C 12 [x7, t39] h) fun t40 hq2 =>
  toBK t40 fun bq2 =>
  bnd (A.bin Tryd.prog .add 3 x8 (.int .i64 1)) fun t27q1 =>
  kn t27q1 x0 x7 x4 x5 x6 hq2)
  else
  kx0 x7 x4 x5 x6 h)
theorem ep6arrrlrbo (C : CF) (L : Nat) {β : Type} (x8 : Value) (x0 : Value) (x7 : Value) (x4 : Value) (x5 : Value) (x6 : Value) (h : H) (K : Ex → T Value → H → Option β) :
    execK Tryd.prog C L 1 121 [6] c6arrrlrbo [8, 0, 7, 61, 4, 5, 6, 73] [(0, [7, 61, 4, 5, 6, 73])] (fs [(8, x8), (0, x0), (7, x7), (4, x4), (5, x5), (6, x6)]) h K =
      p6arrrlrbo C L x8 x0 x7 x4 x5 x6 h (fun x8 x0 x7 x4 x5 x6 h => K .normal (fs [(8, x8), (0, x0), (7, x7), (4, x4), (5, x5), (6, x6)]) h) (fun x7 x4 x5 x6 h => K (.exit 0) (fs [(7, x7), (4, x4), (5, x5), (6, x6)]) h) := by
  kernel_rfl
noncomputable def p6arrrlrbw (C : CF) (L : Nat) {β : Type} (kx0 : Value → Value → Value → Value → H → Option β) : Nat → Value → Value → Value → Value → Value → Value → H → Option β
  | 0, _, _, _, _, _, _, _ => none
  | n + 1, x8, x0, x7, x4, x5, x6, h => p6arrrlrbo C L x8 x0 x7 x4 x5 x6 h (fun x8 x0 x7 x4 x5 x6 h => p6arrrlrbw C L kx0 n x8 x0 x7 x4 x5 x6 h) kx0
theorem ep6arrrlrbw (C : CF) (L : Nat) {β : Type} (K : Ex → T Value → H → Option β) : ∀ (n : Nat) (x8 : Value) (x0 : Value) (x7 : Value) (x4 : Value) (x5 : Value) (x6 : Value) (h : H),
    loopK (fun fr h K => execK Tryd.prog C L 1 121 [6] c6arrrlrbo [8, 0, 7, 61, 4, 5, 6, 73] [(0, [7, 61, 4, 5, 6, 73])] fr h K) n (fs [(8, x8), (0, x0), (7, x7), (4, x4), (5, x5), (6, x6)]) h K =
      p6arrrlrbw C L (fun x7 x4 x5 x6 h => K (.exit 0) (fs [(7, x7), (4, x4), (5, x5), (6, x6)]) h) n x8 x0 x7 x4 x5 x6 h := by
  intro n
  induction n with
  | zero => intros; rfl
  | succ n ih =>
    intros
    simp only [loopK]
    rw [ep6arrrlrbo]
    simp only [seqK_n, seqK_x, seqK_r, ih]
    rfl
noncomputable def p6arrrlrb (C : CF) (L : Nat) {β : Type} (x8 : Value) (x0 : Value) (x7 : Value) (x4 : Value) (x5 : Value) (x6 : Value) (h : H) (kx0 : Value → Value → Value → Value → H → Option β) : Option β :=
  p6arrrlrbw C L kx0 L x8 x0 x7 x4 x5 x6 h
theorem ep6arrrlrb (C : CF) (L : Nat) {β : Type} (x8 : Value) (x0 : Value) (x7 : Value) (x4 : Value) (x5 : Value) (x6 : Value) (h : H) (K : Ex → T Value → H → Option β) :
    execK Tryd.prog C L 1 121 [6] c6arrrlrb [7, 61, 4, 5, 6, 73] [(0, [7, 61, 4, 5, 6, 73])] (fs [(8, x8), (0, x0), (7, x7), (4, x4), (5, x5), (6, x6)]) h K =
      p6arrrlrb C L x8 x0 x7 x4 x5 x6 h (fun x7 x4 x5 x6 h => K (.exit 0) (fs [(7, x7), (4, x4), (5, x5), (6, x6)]) h) := by
  rw [execK_loop (b := c6arrrlrbo) (fr1 := (fs [(8, x8), (0, x0), (7, x7), (4, x4), (5, x5), (6, x6)])) (by kernel_rfl) (show live [6] c6arrrlrbo [] [(0, [7, 61, 4, 5, 6, 73])] = [8, 0, 7, 61, 4, 5, 6, 73] by kernel_rfl) (by kernel_rfl), ep6arrrlrbw]
  unfold p6arrrlrb
  rfl
noncomputable def p6arrrlr (C : CF) (L : Nat) {β : Type} (x8 : Value) (x0 : Value) (x7 : Value) (x4 : Value) (x5 : Value) (x6 : Value) (h : H) (kn : Value → Value → Value → Value → H → Option β) : Option β :=
  p6arrrlrb C L x8 x0 x7 x4 x5 x6 h kn
theorem ep6arrrlr (C : CF) (L : Nat) {β : Type} (x8 : Value) (x0 : Value) (x7 : Value) (x4 : Value) (x5 : Value) (x6 : Value) (h : H) (K : Ex → T Value → H → Option β) :
    execK Tryd.prog C L 1 121 [6] c6arrrlr [7, 61, 4, 5, 6, 73] [] (fs [(8, x8), (0, x0), (7, x7), (4, x4), (5, x5), (6, x6)]) h K =
      p6arrrlr C L x8 x0 x7 x4 x5 x6 h (fun x7 x4 x5 x6 h => K .normal (fs [(7, x7), (4, x4), (5, x5), (6, x6)]) h) := by
  rw [execK_block (b := c6arrrlrb) (id := 0) (by kernel_rfl), ep6arrrlrb]
  unfold p6arrrlr
  rfl
noncomputable def p6arrrl (C : CF) (L : Nat) {β : Type} (x0 : Value) (x7 : Value) (x4 : Value) (x5 : Value) (x6 : Value) (h : H) (kn : Value → Value → Value → Value → H → Option β) : Option β :=
  p6arrrll C L x0 x7 x4 x5 x6 h (fun x8 x0 x7 x4 x5 x6 h => p6arrrlr C L x8 x0 x7 x4 x5 x6 h kn)
theorem ep6arrrl (C : CF) (L : Nat) {β : Type} (x0 : Value) (x7 : Value) (x4 : Value) (x5 : Value) (x6 : Value) (h : H) (K : Ex → T Value → H → Option β) :
    execK Tryd.prog C L 1 121 [6] c6arrrl [7, 61, 4, 5, 6, 73] [] (fs [(0, x0), (7, x7), (4, x4), (5, x5), (6, x6)]) h K =
      p6arrrl C L x0 x7 x4 x5 x6 h (fun x7 x4 x5 x6 h => K .normal (fs [(7, x7), (4, x4), (5, x5), (6, x6)]) h) := by
  rw [execK_seq (a := c6arrrll) (b := c6arrrlr) (by kernel_rfl) (show live [6] c6arrrlr [7, 61, 4, 5, 6, 73] [] = [8, 0, 7, 61, 4, 5, 6, 73] by kernel_rfl), ep6arrrll]
  unfold p6arrrl
  exact (congrArg (p6arrrll C L x0 x7 x4 x5 x6 h) (funext fun x8 => funext fun x0 => funext fun x7 => funext fun x4 => funext fun x5 => funext fun x6 => funext fun h => (seqK_n _ _ _).trans (ep6arrrlr C L x8 x0 x7 x4 x5 x6 h K)))
noncomputable def c6arrrr : Code := cR c6arrr
noncomputable def c6arrrrl : Code := cL c6arrrr
noncomputable def p6arrrrl (C : CF) (L : Nat) {β : Type} (x7 : Value) (x4 : Value) (x5 : Value) (x6 : Value) (h : H) (kn : Value → Value → Value → Value → Value → H → Option β) : Option β :=
  bnd2 (C 21 [x7] h) fun t42 hq1 =>
  kn x7 x4 x5 x6 t42 hq1
theorem ep6arrrrl (C : CF) (L : Nat) {β : Type} (x7 : Value) (x4 : Value) (x5 : Value) (x6 : Value) (h : H) (K : Ex → T Value → H → Option β) :
    execK Tryd.prog C L 1 121 [6] c6arrrrl [7, 61, 4, 5, 6, 73, 9] [] (fs [(7, x7), (4, x4), (5, x5), (6, x6)]) h K =
      p6arrrrl C L x7 x4 x5 x6 h (fun x7 x4 x5 x6 x9 h => K .normal (fs [(7, x7), (4, x4), (5, x5), (6, x6), (9, x9)]) h) := by
  kernel_rfl
noncomputable def c6arrrrr : Code := cR c6arrrr
noncomputable def c6arrrrrl : Code := cL c6arrrrr
noncomputable def p6arrrrrl (C : CF) (L : Nat) {β : Type} (x7 : Value) (x4 : Value) (x5 : Value) (x6 : Value) (x9 : Value) (h : H) (kr : Value → H → Option β) (kn : Value → Value → Value → Value → Value → H → Option β) : Option β :=
  bnd (A.bin Tryd.prog .eql 47 x9 .nilFunc) fun t44 =>
  toBK t44 fun b =>
  (bif b then
  bnd (A.store 1 x6 (.bool false) h) fun hq1 =>
  kr x6 hq1
  else
  kn x7 x4 x5 x6 x9 h)
theorem ep6arrrrrl (C : CF) (L : Nat) {β : Type} (x7 : Value) (x4 : Value) (x5 : Value) (x6 : Value) (x9 : Value) (h : H) (K : Ex → T Value → H → Option β) :
    execK Tryd.prog C L 1 121 [6] c6arrrrrl [7, 61, 4, 5, 6, 73, 9] [] (fs [(7, x7), (4, x4), (5, x5), (6, x6), (9, x9)]) h K =
      p6arrrrrl C L x7 x4 x5 x6 x9 h (fun x6 h => K .ret (fs [(6, x6)]) h) (fun x7 x4 x5 x6 x9 h => K .normal (fs [(7, x7), (4, x4), (5, x5), (6, x6), (9, x9)]) h) := by
  kernel_rfl
noncomputable def c6arrrrrr : Code := cR c6arrrrr
noncomputable def c6arrrrrrl : Code := cL c6arrrrrr
noncomputable def p6arrrrrrl (C : CF) (L : Nat) {β : Type} (x7 : Value) (x4 : Value) (x5 : Value) (x6 : Value) (x9 : Value) (h : H) (kn : Value → Value → Value → Value → Value → Value → H → Option β) : Option β :=
  bnd2 (C 11 [x7] h) fun t46 hq1 =>
  kn x7 x4 x5 x6 t46 x9 hq1
theorem ep6arrrrrrl (C : CF) (L : Nat) {β : Type} (x7 : Value) (x4 : Value) (x5 : Value) (x6 : Value) (x9 : Value) (h : H) (K : Ex → T Value → H → Option β) :
    execK Tryd.prog C L 1 121 [6] c6arrrrrrl [7, 61, 4, 5, 6, 73, 10, 9] [] (fs [(7, x7), (4, x4), (5, x5), (6, x6), (9, x9)]) h K =
      p6arrrrrrl C L x7 x4 x5 x6 x9 h (fun x7 x4 x5 x6 x10 x9 h => K .normal (fs [(7, x7), (4, x4), (5, x5), (6, x6), (10, x10), (9, x9)]) h) := by
  kernel_rfl
noncomputable def c6arrrrrrr : Code := cR c6arrrrrr
noncomputable def c6arrrrrrrl : Code := cL c6arrrrrrr
noncomputable def p6arrrrrrrl (C : CF) (L : Nat) {β : Type} (x7 : Value) (x4 : Value) (x5 : Value) (x6 : Value) (x10 : Value) (x9 : Value) (h : H) (kn : Value → Value → Value → Value → Value → Value → Value → H → Option β) : Option β :=
  kn (.slice none 0 0) x7 x4 x5 x6 x10 x9 h
theorem ep6arrrrrrrl (C : CF) (L : Nat) {β : Type} (x7 : Value) (x4 : Value) (x5 : Value) (x6 : Value) (x10 : Value) (x9 : Value) (h : H) (K : Ex → T Value → H → Option β) :
    execK Tryd.prog C L 1 121 [6] c6arrrrrrrl [11, 7, 61, 4, 5, 6, 73, 10, 9] [] (fs [(7, x7), (4, x4), (5, x5), (6, x6), (10, x10), (9, x9)]) h K =
      p6arrrrrrrl C L x7 x4 x5 x6 x10 x9 h (fun x11 x7 x4 x5 x6 x10 x9 h => K .normal (fs [(11, x11), (7, x7), (4, x4), (5, x5), (6, x6), (10, x10), (9, x9)]) h) := by
  kernel_rfl
noncomputable def c6arrrrrrrr : Code := cR c6arrrrrrr
noncomputable def c6arrrrrrrrl : Code := cL c6arrrrrrrr
noncomputable def p6arrrrrrrrl (C : CF) (L : Nat) {β : Type} (x11 : Value) (x7 : Value) (x4 : Value) (x5 : Value) (x6 : Value) (x10 : Value) (x9 : Value) (h : H) (kn : Value → Value → Value → Value → Value → Value → Value → H → Option β) : Option β :=
  bnd (A.load false 1 x5 h) fun t49 =>
  bnd2 (C 13 [x7, t49] h) fun t50 hq1 =>
  toBK t50 fun b =>
  bnd2 (A.buildSlice 1 1 Z4L [(0, 1, (.bool b))] hq1) fun t51 hq2 =>
  bnd2 (A.append 1 1 x11 t51 hq2) fun t52 hq3 =>
  kn x7 x4 x5 x6 x10 t52 x9 hq3
theorem ep6arrrrrrrrl (C : CF) (L : Nat) {β : Type} (x11 : Value) (x7 : Value) (x4 : Value) (x5 : Value) (x6 : Value) (x10 : Value) (x9 : Value) (h : H) (K : Ex → T Value → H → Option β) :
    execK Tryd.prog C L 1 121 [6] c6arrrrrrrrl [7, 61, 4, 5, 6, 73, 10, 11, 9] [] (fs [(11, x11), (7, x7), (4, x4), (5, x5), (6, x6), (10, x10), (9, x9)]) h K =
      p6arrrrrrrrl C L x11 x7 x4 x5 x6 x10 x9 h (fun x7 x4 x5 x6 x10 x11 x9 h => K .normal (fs [(7, x7), (4, x4), (5, x5), (6, x6), (10, x10), (11, x11), (9, x9)]) h) := by
  kernel_rfl
noncomputable def c6arrrrrrrrr : Code := cR c6arrrrrrrr
noncomputable def c6arrrrrrrrrl : Code := cL c6arrrrrrrrr
noncomputable def p6arrrrrrrrrl (C : CF) (L : Nat) {β : Type} (x7 : Value) (x4 : Value) (x5 : Value) (x6 : Value) (x10 : Value) (x11 : Value) (x9 : Value) (h : H) (kn : Value → Value → Value → Value → Value → Value → Value → H → Option β) : Option β :=
  bnd (A.load false 1 x5 h) fun t54 =>
  bnd2 (C 12 [x7, t54] h) fun t55 hq1 =>
  toBK t55 fun b =>
  kn x7 x4 x5 x6 x10 x11 x9 hq1
theorem ep6arrrrrrrrrl (C : CF) (L : Nat) {β : Type} (x7 : Value) (x4 : Value) (x5 : Value) (x6 : Value) (x10 : Value) (x11 : Value) (x9 : Value) (h : H) (K : Ex → T Value → H → Option β) :
    execK Tryd.prog C L 1 121 [6] c6arrrrrrrrrl [7, 61, 4, 5, 6, 73, 10, 11, 9] [] (fs [(7, x7), (4, x4), (5, x5), (6, x6), (10, x10), (11, x11), (9, x9)]) h K =
      p6arrrrrrrrrl C L x7 x4 x5 x6 x10 x11 x9 h (fun x7 x4 x5 x6 x10 x11 x9 h => K .normal (fs [(7, x7), (4, x4), (5, x5), (6, x6), (10, x10), (11, x11), (9, x9)]) h) := by
  kernel_rfl
noncomputable def c6arrrrrrrrrr : Code := cR c6arrrrrrrrr
noncomputable def c6arrrrrrrrrrl : Code := cL c6arrrrrrrrrr
noncomputable def p6arrrrrrrrrrl (C : CF) (L : Nat) {β : Type} (x7 : Value) (x4 : Value) (x5 : Value) (x6 : Value) (x10 : Value) (x11 : Value) (x9 : Value) (h : H) (kn : Value → Value → Value → Value → Value → Value → Value → H → Option β) : Option β :=
  bnd2 (C 10 [x7] h) fun t57 hq1 =>
  kn x7 x4 x5 x6 x10 x11 x9 hq1
theorem ep6arrrrrrrrrrl (C : CF) (L : Nat) {β : Type} (x7 : Value) (x4 : Value) (x5 : Value) (x6 : Value) (x10 : Value) (x11 : Value) (x9 : Value) (h : H) (K : Ex → T Value → H → Option β) :
    execK Tryd.prog C L 1 121 [6] c6arrrrrrrrrrl [7, 61, 4, 5, 6, 73, 10, 11, 9] [] (fs [(7, x7), (4, x4), (5, x5), (6, x6), (10, x10), (11, x11), (9, x9)]) h K =
      p6arrrrrrrrrrl C L x7 x4 x5 x6 x10 x11 x9 h (fun x7 x4 x5 x6 x10 x11 x9 h => K .normal (fs [(7, x7), (4, x4), (5, x5), (6, x6), (10, x10), (11, x11), (9, x9)]) h) := by
  kernel_rfl
noncomputable def c6arrrrrrrrrrr : Code := cR c6arrrrrrrrrr
noncomputable def c6arrrrrrrrrrrl : Code := cL c6arrrrrrrrrrr
noncomputable def p6arrrrrrrrrrrl (C : CF) (L : Nat) {β : Type} (x7 : Value) (x4 : Value) (x5 : Value) (x6 : Value) (x10 : Value) (x11 : Value) (x9 : Value) (h : H) (kn : Value → Value → Value → Value → Value → Value → H → Option β) : Option β :=
  bnd2 (C 10 [x7] h) fun t59 hq1 =>
  kn x4 x5 x6 x10 x11 x9 hq1
theorem ep6arrrrrrrrrrrl (C : CF) (L : Nat) {β : Type} (x7 : Value) (x4 : Value) (x5 : Value) (x6 : Value) (x10 : Value) (x11 : Value) (x9 : Value) (h : H) (K : Ex → T Value → H → Option β) :
    execK Tryd.prog C L 1 121 [6] c6arrrrrrrrrrrl [61, 4, 5, 6, 73, 10, 11, 9] [] (fs [(7, x7), (4, x4), (5, x5), (6, x6), (10, x10), (11, x11), (9, x9)]) h K =
      p6arrrrrrrrrrrl C L x7 x4 x5 x6 x10 x11 x9 h (fun x4 x5 x6 x10 x11 x9 h => K .normal (fs [(4, x4), (5, x5), (6, x6), (10, x10), (11, x11), (9, x9)]) h) := by
  kernel_rfl
noncomputable def c6arrrrrrrrrrrr : Code := cR c6arrrrrrrrrrr
noncomputable def c6arrrrrrrrrrrrl : Code := cL c6arrrrrrrrrrrr
noncomputable def p6arrrrrrrrrrrrl (C : CF) (L : Nat) {β : Type} (x4 : Value) (x5 : Value) (x6 : Value) (x10 : Value) (x11 : Value) (x9 : Value) (h : H) (kn : Value → Value → Value → Value → Value → Value → Value → H → Option β) : Option β :=
  bnd2 (A.box 1 Z3 h) fun t12 hq1 =>
  bnd (A.store 1 t12 (.int .i64 0) hq1) fun hq2 =>
  kn x4 x5 x6 x10 x11 t12 x9 hq2
theorem ep6arrrrrrrrrrrrl (C : CF) (L : Nat) {β : Type} (x4 : Value) (x5 : Value) (x6 : Value) (x10 : Value) (x11 : Value) (x9 : Value) (h : H) (K : Ex → T Value → H → Option β) :
    execK Tryd.prog C L 1 121 [6] c6arrrrrrrrrrrrl [61, 4, 5, 6, 73, 10, 11, 12, 9] [] (fs [(4, x4), (5, x5), (6, x6), (10, x10), (11, x11), (9, x9)]) h K =
      p6arrrrrrrrrrrrl C L x4 x5 x6 x10 x11 x9 h (fun x4 x5 x6 x10 x11 x12 x9 h => K .normal (fs [(4, x4), (5, x5), (6, x6), (10, x10), (11, x11), (12, x12), (9, x9)]) h) := by
  kernel_rfl
noncomputable def c6arrrrrrrrrrrrr : Code := cR c6arrrrrrrrrrrr
noncomputable def c6arrrrrrrrrrrrrl : Code := cL c6arrrrrrrrrrrrr
noncomputable def c6arrrrrrrrrrrrrll : Code := cL c6arrrrrrrrrrrrrl
noncomputable def p6arrrrrrrrrrrrrll (C : CF) (L : Nat) {β : Type} (x4 : Value) (x5 : Value) (x6 : Value) (x10 : Value) (x11 : Value) (x12 : Value) (x9 : Value) (h : H) (kn : Value → Value → Value → Value → Value → Value → Value → Value → H → Option β) : Option β :=
  kn x9 x4 x5 x6 x10 x11 x12 x9 h
theorem ep6arrrrrrrrrrrrrll (C : CF) (L : Nat) {β : Type} (x4 : Value) (x5 : Value) (x6 : Value) (x10 : Value) (x11 : Value) (x12 : Value) (x9 : Value) (h : H) (K : Ex → T Value → H → Option β) :
    execK Tryd.prog C L 1 121 [6] c6arrrrrrrrrrrrrll [60, 61, 4, 5, 6, 73, 10, 11, 12, 9] [] (fs [(4, x4), (5, x5), (6, x6), (10, x10), (11, x11), (12, x12), (9, x9)]) h K =
      p6arrrrrrrrrrrrrll C L x4 x5 x6 x10 x11 x12 x9 h (fun x60 x4 x5 x6 x10 x11 x12 x9 h => K .normal (fs [(60, x60), (4, x4), (5, x5), (6, x6), (10, x10), (11, x11), (12, x12), (9, x9)]) h) := by
  kernel_rfl
noncomputable def c6arrrrrrrrrrrrrlr : Code := cR c6arrrrrrrrrrrrrl
noncomputable def c6arrrrrrrrrrrrrlrb : Code := cL c6arrrrrrrrrrrrrlr
noncomputable def c6arrrrrrrrrrrrrlrby : Code := cL c6arrrrrrrrrrrrrlrb
noncomputable def p6arrrrrrrrrrrrrlrby (C : CF) (L : Nat) {β : Type} (x60 : Value) (x4 : Value) (x5 : Value) (x6 : Value) (x10 : Value) (x11 : Value) (x12 : Value) (x9 : Value) (x61 : Value) (h : H) (kn : Value → Value → Value → H → Option β) : Option β :=
  kn x61 x12 x4 h
theorem ep6arrrrrrrrrrrrrlrby (C : CF) (L : Nat) {β : Type} (x60 : Value) (x4 : Value) (x5 : Value) (x6 : Value) (x10 : Value) (x11 : Value) (x12 : Value) (x9 : Value) (x61 : Value) (h : H) (K : Ex → T Value → H → Option β) :
    execK Tryd.prog C L 1 121 [] c6arrrrrrrrrrrrrlrby [13, 12, 4] [] (fs [(60, x60), (4, x4), (5, x5), (6, x6), (10, x10), (11, x11), (12, x12), (9, x9), (61, x61)]) h K =
      p6arrrrrrrrrrrrrlrby C L x60 x4 x5 x6 x10 x11 x12 x9 x61 h (fun x13 x12 x4 h => K .normal (fs [(13, x13), (12, x12), (4, x4)]) h) := by
  kernel_rfl
noncomputable def c6arrrrrrrrrrrrrlrbz : Code := cR c6arrrrrrrrrrrrrlrb
noncomputable def c6arrrrrrrrrrrrrlrbzb : Code := cL c6arrrrrrrrrrrrrlrbz
noncomputable def p6arrrrrrrrrrrrrlrbzb (C : CF) (L : Nat) {β : Type} (x13 : Value) (x12 : Value) (x4 : Value) (h : H) (kx2 : H → Option β) (kn : H → Option β) : Option β :=
  bnd (A.load false 1 x12 h) fun t62 =>
  bnd (A.bin Tryd.prog .add 3 t62 (.int .i64 1)) fun t63 =>
  bnd (A.store 1 x12 t63 h) fun hq1 =>
  bnd (A.bin Tryd.prog .eql 25 x13 (.int .u16 0)) fun t65 =>
  toBK t65 fun b =>
  (bif b then
  kx2 hq1
  else
  bnd (A.load false 1 x12 hq1) fun t67 =>
  bnd (A.load false 1 x4 hq1) fun t68 =>
  bnd (A.conv Tryd.prog 5 3 t68) fun t69 =>
  bnd (A.bin Tryd.prog .geq 3 t67 t69) fun t70 =>
  toBK t70 fun bq1 =>
  (bif bq1 then
  kx2 hq1
  else
  kn hq1))
theorem ep6arrrrrrrrrrrrrlrbzb (C : CF) (L : Nat) {β : Type} (x13 : Value) (x12 : Value) (x4 : Value) (h : H) (K : Ex → T Value → H → Option β) :
    execK Tryd.prog C L 1 121 [] c6arrrrrrrrrrrrrlrbzb [] [(3, [])] (fs [(13, x13), (12, x12), (4, x4)]) h K =
      p6arrrrrrrrrrrrrlrbzb C L x13 x12 x4 h (fun h => K (.exit 2) (fs []) h) (fun h => K .normal (fs []) h) := by
  kernel_rfl
noncomputable def p6arrrrrrrrrrrrrlrbz (C : CF) (L : Nat) {β : Type} (x13 : Value) (x12 : Value) (x4 : Value) (h : H) (kx2 : H → Option β) (kn : H → Option β) : Option β :=
  p6arrrrrrrrrrrrrlrbzb C L x13 x12 x4 h kx2 kn
theorem ep6arrrrrrrrrrrrrlrbz (C : CF) (L : Nat) {β : Type} (x13 : Value) (x12 : Value) (x4 : Value) (h : H) (K : Ex → T Value → H → Option β) :
    execK Tryd.prog C L 1 121 [] c6arrrrrrrrrrrrrlrbz [] [] (fs [(13, x13), (12, x12), (4, x4)]) h K =
      p6arrrrrrrrrrrrrlrbz C L x13 x12 x4 h (fun h => K (.exit 2) (fs []) h) (fun h => K .normal (fs []) h) := by
  rw [execK_block (b := c6arrrrrrrrrrrrrlrbzb) (id := 3) (by kernel_rfl), ep6arrrrrrrrrrrrrlrbzb]
  unfold p6arrrrrrrrrrrrrlrbz
  rfl
noncomputable def p6arrrrrrrrrrrrrlrb (C : CF) (L : Nat) {β : Type} (x60 : Value) (x4 : Value) (x5 : Value) (x6 : Value) (x10 : Value) (x11 : Value) (x12 : Value) (x9 : Value) (h : H) (kn : Value → Value → Value → Value → Value → Value → H → Option β) (kr : Value → H → Option β) (kx2 : Value → Value → Value → Value → Value → Value → H → Option β) : Option β :=
  bif isFn Tryd.prog x60 then (callV C x60 [.func (.yield h.next) #[] #[]] (h.push (.loop 121 (fs [(60, x60), (4, x4), (5, x5), (6, x6), (10, x10), (11, x11), (12, x12), (9, x9)]) [61] c6arrrrrrrrrrrrrlrby c6arrrrrrrrrrrrrlrbz .ready))).bind fun (_, h2) => rangeK h.next h2 (fun h => kn x9 x12 x11 x10 x6 x5 h) (fun h => kr x6 h) (exL [(2, fun h => kx2 x9 x12 x11 x10 x6 x5 h)])
  else none
theorem ep6arrrrrrrrrrrrrlrb (C : CF) (L : Nat) {β : Type} (x60 : Value) (x4 : Value) (x5 : Value) (x6 : Value) (x10 : Value) (x11 : Value) (x12 : Value) (x9 : Value) (h : H) (K : Ex → T Value → H → Option β) :
    execK Tryd.prog C L 1 121 [6] c6arrrrrrrrrrrrrlrb [9, 12, 11, 10, 73, 6, 5] [(2, [9, 12, 11, 10, 73, 6, 5])] (fs [(60, x60), (4, x4), (5, x5), (6, x6), (10, x10), (11, x11), (12, x12), (9, x9)]) h K =
      p6arrrrrrrrrrrrrlrb C L x60 x4 x5 x6 x10 x11 x12 x9 h (fun x9 x12 x11 x10 x6 x5 h => K .normal (fs [(9, x9), (12, x12), (11, x11), (10, x10), (6, x6), (5, x5)]) h) (fun x6 h => K .ret (fs [(6, x6)]) h) (fun x9 x12 x11 x10 x6 x5 h => K (.exit 2) (fs [(9, x9), (12, x12), (11, x11), (10, x10), (6, x6), (5, x5)]) h) := by
  rw [execK_range (g := (.tmp 60)) (gv := x60) (ps := [61]) (assign := c6arrrrrrrrrrrrrlrby) (body := c6arrrrrrrrrrrrrlrbz) (by kernel_rfl) (by kernel_rfl)]
  unfold p6arrrrrrrrrrrrrlrb
  rfl
noncomputable def p6arrrrrrrrrrrrrlr (C : CF) (L : Nat) {β : Type} (x60 : Value) (x4 : Value) (x5 : Value) (x6 : Value) (x10 : Value) (x11 : Value) (x12 : Value) (x9 : Value) (h : H) (kn : Value → Value → Value → Value → Value → Value → H → Option β) (kr : Value → H → Option β) : Option β :=
  p6arrrrrrrrrrrrrlrb C L x60 x4 x5 x6 x10 x11 x12 x9 h kn kr kn
theorem ep6arrrrrrrrrrrrrlr (C : CF) (L : Nat) {β : Type} (x60 : Value) (x4 : Value) (x5 : Value) (x6 : Value) (x10 : Value) (x11 : Value) (x12 : Value) (x9 : Value) (h : H) (K : Ex → T Value → H → Option β) :
    execK Tryd.prog C L 1 121 [6] c6arrrrrrrrrrrrrlr [9, 12, 11, 10, 73, 6, 5] [] (fs [(60, x60), (4, x4), (5, x5), (6, x6), (10, x10), (11, x11), (12, x12), (9, x9)]) h K =
      p6arrrrrrrrrrrrrlr C L x60 x4 x5 x6 x10 x11 x12 x9 h (fun x9 x12 x11 x10 x6 x5 h => K .normal (fs [(9, x9), (12, x12), (11, x11), (10, x10), (6, x6), (5, x5)]) h) (fun x6 h => K .ret (fs [(6, x6)]) h) := by
  rw [execK_block (b := c6arrrrrrrrrrrrrlrb) (id := 2) (by kernel_rfl), ep6arrrrrrrrrrrrrlrb]
  unfold p6arrrrrrrrrrrrrlr
  rfl
noncomputable def p6arrrrrrrrrrrrrl (C : CF) (L : Nat) {β : Type} (x4 : Value) (x5 : Value) (x6 : Value) (x10 : Value) (x11 : Value) (x12 : Value) (x9 : Value) (h : H) (kn : Value → Value → Value → Value → Value → Value → H → Option β) (kr : Value → H → Option β) : Option β :=
  p6arrrrrrrrrrrrrll C L x4 x5 x6 x10 x11 x12 x9 h (fun x60 x4 x5 x6 x10 x11 x12 x9 h => p6arrrrrrrrrrrrrlr C L x60 x4 x5 x6 x10 x11 x12 x9 h kn kr)
theorem ep6arrrrrrrrrrrrrl (C : CF) (L : Nat) {β : Type} (x4 : Value) (x5 : Value) (x6 : Value) (x10 : Value) (x11 : Value) (x12 : Value) (x9 : Value) (h : H) (K : Ex → T Value → H → Option β) :
    execK Tryd.prog C L 1 121 [6] c6arrrrrrrrrrrrrl [9, 12, 11, 10, 73, 6, 5] [] (fs [(4, x4), (5, x5), (6, x6), (10, x10), (11, x11), (12, x12), (9, x9)]) h K =
      p6arrrrrrrrrrrrrl C L x4 x5 x6 x10 x11 x12 x9 h (fun x9 x12 x11 x10 x6 x5 h => K .normal (fs [(9, x9), (12, x12), (11, x11), (10, x10), (6, x6), (5, x5)]) h) (fun x6 h => K .ret (fs [(6, x6)]) h) := by
  rw [execK_seq (a := c6arrrrrrrrrrrrrll) (b := c6arrrrrrrrrrrrrlr) (by kernel_rfl) (show live [6] c6arrrrrrrrrrrrrlr [9, 12, 11, 10, 73, 6, 5] [] = [60, 61, 4, 5, 6, 73, 10, 11, 12, 9] by kernel_rfl), ep6arrrrrrrrrrrrrll]
  unfold p6arrrrrrrrrrrrrl
  exact (congrArg (p6arrrrrrrrrrrrrll C L x4 x5 x6 x10 x11 x12 x9 h) (funext fun x60 => funext fun x4 => funext fun x5 => funext fun x6 => funext fun x10 => funext fun x11 => funext fun x12 => funext fun x9 => funext fun h => (seqK_n _ _ _).trans (ep6arrrrrrrrrrrrrlr C L x60 x4 x5 x6 x10 x11 x12 x9 h K)))
noncomputable def c6arrrrrrrrrrrrrr : Code := cR c6arrrrrrrrrrrrr
noncomputable def c6arrrrrrrrrrrrrrl : Code := cL c6arrrrrrrrrrrrrr
noncomputable def p6arrrrrrrrrrrrrrl (C : CF) (L : Nat) {β : Type} (x9 : Value) (x12 : Value) (x11 : Value) (x10 : Value) (x6 : Value) (x5 : Value) (h : H) (kn : Value → Value → Value → Value → Value → Value → Value → H → Option β) : Option β :=
  bnd2 (A.box 1 Z30 h) fun t14 hq1 =>
  kn x9 x12 x11 x10 x6 x5 t14 hq1
theorem ep6arrrrrrrrrrrrrrl (C : CF) (L : Nat) {β : Type} (x9 : Value) (x12 : Value) (x11 : Value) (x10 : Value) (x6 : Value) (x5 : Value) (h : H) (K : Ex → T Value → H → Option β) :
    execK Tryd.prog C L 1 121 [6] c6arrrrrrrrrrrrrrl [9, 12, 11, 10, 73, 6, 5, 14] [] (fs [(9, x9), (12, x12), (11, x11), (10, x10), (6, x6), (5, x5)]) h K =
      p6arrrrrrrrrrrrrrl C L x9 x12 x11 x10 x6 x5 h (fun x9 x12 x11 x10 x6 x5 x14 h => K .normal (fs [(9, x9), (12, x12), (11, x11), (10, x10), (6, x6), (5, x5), (14, x14)]) h) := by
  kernel_rfl
noncomputable def c6arrrrrrrrrrrrrrr : Code := cR c6arrrrrrrrrrrrrr
noncomputable def c6arrrrrrrrrrrrrrrl : Code := cL c6arrrrrrrrrrrrrrr
noncomputable def p6arrrrrrrrrrrrrrrl (C : CF) (L : Nat) {β : Type} (x9 : Value) (x12 : Value) (x11 : Value) (x10 : Value) (x6 : Value) (x5 : Value) (x14 : Value) (h : H) (kn : Value → Value → Value → Value → Value → Value → Value → Value → H → Option β) : Option β :=
  bnd2 (A.box 1 Z4 h) fun t15 hq1 =>
  bnd (A.store 1 t15 (.bool false) hq1) fun hq2 =>
  kn x9 x12 x11 x10 x6 x5 t15 x14 hq2
theorem ep6arrrrrrrrrrrrrrrl (C : CF) (L : Nat) {β : Type} (x9 : Value) (x12 : Value) (x11 : Value) (x10 : Value) (x6 : Value) (x5 : Value) (x14 : Value) (h : H) (K : Ex → T Value → H → Option β) :
    execK Tryd.prog C L 1 121 [6] c6arrrrrrrrrrrrrrrl [9, 12, 11, 10, 73, 6, 5, 15, 14] [] (fs [(9, x9), (12, x12), (11, x11), (10, x10), (6, x6), (5, x5), (14, x14)]) h K =
      p6arrrrrrrrrrrrrrrl C L x9 x12 x11 x10 x6 x5 x14 h (fun x9 x12 x11 x10 x6 x5 x15 x14 h => K .normal (fs [(9, x9), (12, x12), (11, x11), (10, x10), (6, x6), (5, x5), (15, x15), (14, x14)]) h) := by
  kernel_rfl
noncomputable def c6arrrrrrrrrrrrrrrr : Code := cR c6arrrrrrrrrrrrrrr
noncomputable def c6arrrrrrrrrrrrrrrrl : Code := cL c6arrrrrrrrrrrrrrrr
noncomputable def c6arrrrrrrrrrrrrrrrll : Code := cL c6arrrrrrrrrrrrrrrrl
noncomputable def p6arrrrrrrrrrrrrrrrll (C : CF) (L : Nat) {β : Type} (x9 : Value) (x12 : Value) (x11 : Value) (x10 : Value) (x6 : Value) (x5 : Value) (x15 : Value) (x14 : Value) (h : H) (kn : Value → Value → Value → Value → Value → Value → Value → Value → H → Option β) : Option β :=
  kn x9 x12 x11 x10 x6 x5 x15 x14 h
theorem ep6arrrrrrrrrrrrrrrrll (C : CF) (L : Nat) {β : Type} (x9 : Value) (x12 : Value) (x11 : Value) (x10 : Value) (x6 : Value) (x5 : Value) (x15 : Value) (x14 : Value) (h : H) (K : Ex → T Value → H → Option β) :
    execK Tryd.prog C L 1 121 [6] c6arrrrrrrrrrrrrrrrll [72, 12, 11, 10, 73, 6, 5, 15, 14] [] (fs [(9, x9), (12, x12), (11, x11), (10, x10), (6, x6), (5, x5), (15, x15), (14, x14)]) h K =
      p6arrrrrrrrrrrrrrrrll C L x9 x12 x11 x10 x6 x5 x15 x14 h (fun x72 x12 x11 x10 x6 x5 x15 x14 h => K .normal (fs [(72, x72), (12, x12), (11, x11), (10, x10), (6, x6), (5, x5), (15, x15), (14, x14)]) h) := by
  kernel_rfl
noncomputable def c6arrrrrrrrrrrrrrrrlr : Code := cR c6arrrrrrrrrrrrrrrrl
noncomputable def c6arrrrrrrrrrrrrrrrlrb : Code := cL c6arrrrrrrrrrrrrrrrlr
noncomputable def c6arrrrrrrrrrrrrrrrlrby : Code := cL c6arrrrrrrrrrrrrrrrlrb
noncomputable def p6arrrrrrrrrrrrrrrrlrby (C : CF) (L : Nat) {β : Type} (x72 : Value) (x12 : Value) (x11 : Value) (x10 : Value) (x6 : Value) (x5 : Value) (x15 : Value) (x14 : Value) (x73 : Value) (h : H) (kn : Value → Value → Value → Value → Value → H → Option β) : Option β :=
  kn x6 x5 x15 x73 x14 h
theorem ep6arrrrrrrrrrrrrrrrlrby (C : CF) (L : Nat) {β : Type} (x72 : Value) (x12 : Value) (x11 : Value) (x10 : Value) (x6 : Value) (x5 : Value) (x15 : Value) (x14 : Value) (x73 : Value) (h : H) (K : Ex → T Value → H → Option β) :
    execK Tryd.prog C L 1 121 [] c6arrrrrrrrrrrrrrrrlrby [6, 5, 15, 16, 14] [] (fs [(72, x72), (12, x12), (11, x11), (10, x10), (6, x6), (5, x5), (15, x15), (14, x14), (73, x73)]) h K =
      p6arrrrrrrrrrrrrrrrlrby C L x72 x12 x11 x10 x6 x5 x15 x14 x73 h (fun x6 x5 x15 x16 x14 h => K .normal (fs [(6, x6), (5, x5), (15, x15), (16, x16), (14, x14)]) h) := by
  kernel_rfl
noncomputable def c6arrrrrrrrrrrrrrrrlrbz : Code := cR c6arrrrrrrrrrrrrrrrlrb
noncomputable def c6arrrrrrrrrrrrrrrrlrbzb : Code := cL c6arrrrrrrrrrrrrrrrlrbz
noncomputable def c6arrrrrrrrrrrrrrrrlrbzbl : Code := cL c6arrrrrrrrrrrrrrrrlrbzb
noncomputable def c6arrrrrrrrrrrrrrrrlrbzbll : Code := cL c6arrrrrrrrrrrrrrrrlrbzbl
noncomputable def p6arrrrrrrrrrrrrrrrlrbzbll (C : CF) (L : Nat) {β : Type} (x6 : Value) (x5 : Value) (x15 : Value) (x16 : Value) (x14 : Value) (h : H) (kn : Value → Value → Value → Value → Value → Value → H → Option β) : Option β :=
  bnd (A.bin Tryd.prog .eql 25 x16 (.int .u16 0)) fun t75 =>
  toBK t75 fun b =>
  (bif b then
  kn (.bool true) x6 x5 x15 x16 x14 h
  else
  bnd (A.load false 1 x14 h) fun t77 =>
  bnd (A.lenS t77) fun t78 =>
  bnd (A.bin Tryd.prog .gtr 3 t78 (.int .i64 0)) fun t79 =>
  toBK t79 fun bq1 =>
  (bif bq1 then
  bnd (A.load false 1 x14 h) fun t81 =>
  bnd (A.load false 1 x14 h) fun t82 =>
  bnd (A.lenS t82) fun t83 =>
  bnd (A.bin Tryd.prog .sub 3 t83 (.int .i64 1)) fun t84 =>
  bnd (A.idxS 1 t81 t84) fun t85 =>
  bnd (A.load false 1 t85 h) fun t86 =>
  bnd (A.bin Tryd.prog .geq 25 t86 x16) fun t88 =>
  toBK t88 fun bq2 =>
  kn (.bool bq2) x6 x5 x15 x16 x14 h
  else
  kn (.bool false) x6 x5 x15 x16 x14 h))
theorem ep6arrrrrrrrrrrrrrrrlrbzbll (C : CF) (L : Nat) {β : Type} (x6 : Value) (x5 : Value) (x15 : Value) (x16 : Value) (x14 : Value) (h : H) (K : Ex → T Value → H → Option β) :
    execK Tryd.prog C L 1 121 [] c6arrrrrrrrrrrrrrrrlrbzbll [90, 6, 5, 15, 16, 14] [(5, [])] (fs [(6, x6), (5, x5), (15, x15), (16, x16), (14, x14)]) h K =
      p6arrrrrrrrrrrrrrrrlrbzbll C L x6 x5 x15 x16 x14 h (fun x90 x6 x5 x15 x16 x14 h => K .normal (fs [(90, x90), (6, x6), (5, x5), (15, x15), (16, x16), (14, x14)]) h) := by
  kernel_rfl
noncomputable def c6arrrrrrrrrrrrrrrrlrbzblr : Code := cR c6arrrrrrrrrrrrrrrrlrbzbl
noncomputable def p6arrrrrrrrrrrrrrrrlrbzblr (C : CF) (L : Nat) {β : Type} (x90 : Value) (x6 : Value) (x5 : Value) (x15 : Value) (x16 : Value) (x14 : Value) (h : H) (kr : H → Option β) (kn : Value → Value → Value → Value → H → Option β) : Option β :=
  condV x90 (
  bnd (A.store 1 x6 (.bool false) h) fun hq1 =>
  kr hq1) (
  kn x5 x15 x16 x14 h)
theorem ep6arrrrrrrrrrrrrrrrlrbzblr (C : CF) (L : Nat) {β : Type} (x90 : Value) (x6 : Value) (x5 : Value) (x15 : Value) (x16 : Value) (x14 : Value) (h : H) (K : Ex → T Value → H → Option β) :
    execK Tryd.prog C L 1 121 [] c6arrrrrrrrrrrrrrrrlrbzblr [5, 15, 16, 14] [(5, [])] (fs [(90, x90), (6, x6), (5, x5), (15, x15), (16, x16), (14, x14)]) h K =
      p6arrrrrrrrrrrrrrrrlrbzblr C L x90 x6 x5 x15 x16 x14 h (fun h => K .ret (fs []) h) (fun x5 x15 x16 x14 h => K .normal (fs [(5, x5), (15, x15), (16, x16), (14, x14)]) h) := by
  kernel_rfl
noncomputable def p6arrrrrrrrrrrrrrrrlrbzbl (C : CF) (L : Nat) {β : Type} (x6 : Value) (x5 : Value) (x15 : Value) (x16 : Value) (x14 : Value) (h : H) (kr : H → Option β) (kn : Value → Value → Value → Value → H → Option β) : Option β :=
  p6arrrrrrrrrrrrrrrrlrbzbll C L x6 x5 x15 x16 x14 h (fun x90 x6 x5 x15 x16 x14 h => p6arrrrrrrrrrrrrrrrlrbzblr C L x90 x6 x5 x15 x16 x14 h kr kn)
theorem ep6arrrrrrrrrrrrrrrrlrbzbl (C : CF) (L : Nat) {β : Type} (x6 : Value) (x5 : Value) (x15 : Value) (x16 : Value) (x14 : Value) (h : H) (K : Ex → T Value → H → Option β) :
    execK Tryd.prog C L 1 121 [] c6arrrrrrrrrrrrrrrrlrbzbl [5, 15, 16, 14] [(5, [])] (fs [(6, x6), (5, x5), (15, x15), (16, x16), (14, x14)]) h K =
      p6arrrrrrrrrrrrrrrrlrbzbl C L x6 x5 x15 x16 x14 h (fun h => K .ret (fs []) h) (fun x5 x15 x16 x14 h => K .normal (fs [(5, x5), (15, x15), (16, x16), (14, x14)]) h) := by
  rw [execK_seq (a := c6arrrrrrrrrrrrrrrrlrbzbll) (b := c6arrrrrrrrrrrrrrrrlrbzblr) (by kernel_rfl) (show live [] c6arrrrrrrrrrrrrrrrlrbzblr [5, 15, 16, 14] [(5, [])] = [90, 6, 5, 15, 16, 14] by kernel_rfl), ep6arrrrrrrrrrrrrrrrlrbzbll]
  unfold p6arrrrrrrrrrrrrrrrlrbzbl
  exact (congrArg (p6arrrrrrrrrrrrrrrrlrbzbll C L x6 x5 x15 x16 x14 h) (funext fun x90 => funext fun x6 => funext fun x5 => funext fun x15 => funext fun x16 => funext fun x14 => funext fun h => (seqK_n _ _ _).trans (ep6arrrrrrrrrrrrrrrrlrbzblr C L x90 x6 x5 x15 x16 x14 h K)))
noncomputable def c6arrrrrrrrrrrrrrrrlrbzbr : Code := cR c6arrrrrrrrrrrrrrrrlrbzb
noncomputable def p6arrrrrrrrrrrrrrrrlrbzbr (C : CF) (L : Nat) {β : Type} (x5 : Value) (x15 : Value) (x16 : Value) (x14 : Value) (h : H) (kn : H → Option β) : Option β :=
  bnd (A.load false 1 x15 h) fun t91 =>
  toBK t91 fun b =>
  (bif b then
  bnd (A.store 1 x15 (.bool true) h) fun hq1 =>
  bnd (A.load false 1 x14 hq1) fun t97 =>
  bnd2 (A.buildSlice 1 1 Z25L [(0, 1, x16)] hq1) fun t99 hq2 =>
  bnd2 (A.append 1 2 t97 t99 hq2) fun t100 hq3 =>
  bnd (A.store 1 x14 t100 hq3) fun hq4 =>
  kn hq4
  else
  bnd (A.load false 1 x5 h) fun t94 =>
  bnd (A.bin Tryd.prog .eql 25 x16 t94) fun t95 =>
  toBK t95 fun bq1 =>
  bnd (A.store 1 x15 (.bool bq1) h) fun hq5 =>
  bnd (A.load false 1 x14 hq5) fun t97q1 =>
  bnd2 (A.buildSlice 1 1 Z25L [(0, 1, x16)] hq5) fun t99q1 hq6 =>
  bnd2 (A.append 1 2 t97q1 t99q1 hq6) fun t100q1 hq7 =>
  bnd (A.store 1 x14 t100q1 hq7) fun hq8 =>
  kn hq8)
theorem ep6arrrrrrrrrrrrrrrrlrbzbr (C : CF) (L : Nat) {β : Type} (x5 : Value) (x15 : Value) (x16 : Value) (x14 : Value) (h : H) (K : Ex → T Value → H → Option β) :
    execK Tryd.prog C L 1 121 [] c6arrrrrrrrrrrrrrrrlrbzbr [] [(5, [])] (fs [(5, x5), (15, x15), (16, x16), (14, x14)]) h K =
      p6arrrrrrrrrrrrrrrrlrbzbr C L x5 x15 x16 x14 h (fun h => K .normal (fs []) h) := by
  kernel_rfl
noncomputable def p6arrrrrrrrrrrrrrrrlrbzb (C : CF) (L : Nat) {β : Type} (x6 : Value) (x5 : Value) (x15 : Value) (x16 : Value) (x14 : Value) (h : H) (kn : H → Option β) (kr : H → Option β) : Option β :=
  p6arrrrrrrrrrrrrrrrlrbzbl C L x6 x5 x15 x16 x14 h kr (fun x5 x15 x16 x14 h => p6arrrrrrrrrrrrrrrrlrbzbr C L x5 x15 x16 x14 h kn)
theorem ep6arrrrrrrrrrrrrrrrlrbzb (C : CF) (L : Nat) {β : Type} (x6 : Value) (x5 : Value) (x15 : Value) (x16 : Value) (x14 : Value) (h : H) (K : Ex → T Value → H → Option β) :
    execK Tryd.prog C L 1 121 [] c6arrrrrrrrrrrrrrrrlrbzb [] [(5, [])] (fs [(6, x6), (5, x5), (15, x15), (16, x16), (14, x14)]) h K =
      p6arrrrrrrrrrrrrrrrlrbzb C L x6 x5 x15 x16 x14 h (fun h => K .normal (fs []) h) (fun h => K .ret (fs []) h) := by
  rw [execK_seq (a := c6arrrrrrrrrrrrrrrrlrbzbl) (b := c6arrrrrrrrrrrrrrrrlrbzbr) (by kernel_rfl) (show live [] c6arrrrrrrrrrrrrrrrlrbzbr [] [(5, [])] = [5, 15, 16, 14] by kernel_rfl), ep6arrrrrrrrrrrrrrrrlrbzbl]
  unfold p6arrrrrrrrrrrrrrrrlrbzb
  exact (congr (congrArg (p6arrrrrrrrrrrrrrrrlrbzbl C L x6 x5 x15 x16 x14 h) (funext fun h => seqK_r _ _ _)) (funext fun x5 => funext fun x15 => funext fun x16 => funext fun x14 => funext fun h => (seqK_n _ _ _).trans (ep6arrrrrrrrrrrrrrrrlrbzbr C L x5 x15 x16 x14 h K)))
noncomputable def p6arrrrrrrrrrrrrrrrlrbz (C : CF) (L : Nat) {β : Type} (x6 : Value) (x5 : Value) (x15 : Value) (x16 : Value) (x14 : Value) (h : H) (kn : H → Option β) (kr : H → Option β) : Option β :=
  p6arrrrrrrrrrrrrrrrlrbzb C L x6 x5 x15 x16 x14 h kn kr
theorem ep6arrrrrrrrrrrrrrrrlrbz (C : CF) (L : Nat) {β : Type} (x6 : Value) (x5 : Value) (x15 : Value) (x16 : Value) (x14 : Value) (h : H) (K : Ex → T Value → H → Option β) :
    execK Tryd.prog C L 1 121 [] c6arrrrrrrrrrrrrrrrlrbz [] [] (fs [(6, x6), (5, x5), (15, x15), (16, x16), (14, x14)]) h K =
      p6arrrrrrrrrrrrrrrrlrbz C L x6 x5 x15 x16 x14 h (fun h => K .normal (fs []) h) (fun h => K .ret (fs []) h) := by
  rw [execK_block (b := c6arrrrrrrrrrrrrrrrlrbzb) (id := 5) (by kernel_rfl), ep6arrrrrrrrrrrrrrrrlrbzb]
  unfold p6arrrrrrrrrrrrrrrrlrbz
  rfl
noncomputable def p6arrrrrrrrrrrrrrrrlrb (C : CF) (L : Nat) {β : Type} (x72 : Value) (x12 : Value) (x11 : Value) (x10 : Value) (x6 : Value) (x5 : Value) (x15 : Value) (x14 : Value) (h : H) (kn : Value → Value → Value → Value → Value → Value → H → Option β) (kr : Value → H → Option β) (kx4 : Value → Value → Value → Value → Value → Value → H → Option β) : Option β :=
  bif isFn Tryd.prog x72 then (callV C x72 [.func (.yield h.next) #[] #[]] (h.push (.loop 121 (fs [(72, x72), (12, x12), (11, x11), (10, x10), (6, x6), (5, x5), (15, x15), (14, x14)]) [73] c6arrrrrrrrrrrrrrrrlrby c6arrrrrrrrrrrrrrrrlrbz .ready))).bind fun (_, h2) => rangeK h.next h2 (fun h => kn x10 x15 x11 x12 x14 x6 h) (fun h => kr x6 h) (exL [(4, fun h => kx4 x10 x15 x11 x12 x14 x6 h)])
  else none
theorem ep6arrrrrrrrrrrrrrrrlrb (C : CF) (L : Nat) {β : Type} (x72 : Value) (x12 : Value) (x11 : Value) (x10 : Value) (x6 : Value) (x5 : Value) (x15 : Value) (x14 : Value) (h : H) (K : Ex → T Value → H → Option β) :
    execK Tryd.prog C L 1 121 [6] c6arrrrrrrrrrrrrrrrlrb [10, 15, 11, 12, 14, 6] [(4, [10, 15, 11, 12, 14, 6])] (fs [(72, x72), (12, x12), (11, x11), (10, x10), (6, x6), (5, x5), (15, x15), (14, x14)]) h K =
      p6arrrrrrrrrrrrrrrrlrb C L x72 x12 x11 x10 x6 x5 x15 x14 h (fun x10 x15 x11 x12 x14 x6 h => K .normal (fs [(10, x10), (15, x15), (11, x11), (12, x12), (14, x14), (6, x6)]) h) (fun x6 h => K .ret (fs [(6, x6)]) h) (fun x10 x15 x11 x12 x14 x6 h => K (.exit 4) (fs [(10, x10), (15, x15), (11, x11), (12, x12), (14, x14), (6, x6)]) h) := by
  rw [execK_range (g := (.tmp 72)) (gv := x72) (ps := [73]) (assign := c6arrrrrrrrrrrrrrrrlrby) (body := c6arrrrrrrrrrrrrrrrlrbz) (by kernel_rfl) (by kernel_rfl)]
  unfold p6arrrrrrrrrrrrrrrrlrb
  rfl
noncomputable def p6arrrrrrrrrrrrrrrrlr (C : CF) (L : Nat) {β : Type} (x72 : Value) (x12 : Value) (x11 : Value) (x10 : Value) (x6 : Value) (x5 : Value) (x15 : Value) (x14 : Value) (h : H) (kn : Value → Value → Value → Value → Value → Value → H → Option β) (kr : Value → H → Option β) : Option β :=
  p6arrrrrrrrrrrrrrrrlrb C L x72 x12 x11 x10 x6 x5 x15 x14 h kn kr kn
theorem ep6arrrrrrrrrrrrrrrrlr (C : CF) (L : Nat) {β : Type} (x72 : Value) (x12 : Value) (x11 : Value) (x10 : Value) (x6 : Value) (x5 : Value) (x15 : Value) (x14 : Value) (h : H) (K : Ex → T Value → H → Option β) :
    execK Tryd.prog C L 1 121 [6] c6arrrrrrrrrrrrrrrrlr [10, 15, 11, 12, 14, 6] [] (fs [(72, x72), (12, x12), (11, x11), (10, x10), (6, x6), (5, x5), (15, x15), (14, x14)]) h K =
      p6arrrrrrrrrrrrrrrrlr C L x72 x12 x11 x10 x6 x5 x15 x14 h (fun x10 x15 x11 x12 x14 x6 h => K .normal (fs [(10, x10), (15, x15), (11, x11), (12, x12), (14, x14), (6, x6)]) h) (fun x6 h => K .ret (fs [(6, x6)]) h) := by
  rw [execK_block (b := c6arrrrrrrrrrrrrrrrlrb) (id := 4) (by kernel_rfl), ep6arrrrrrrrrrrrrrrrlrb]
  unfold p6arrrrrrrrrrrrrrrrlr
  rfl
noncomputable def p6arrrrrrrrrrrrrrrrl (C : CF) (L : Nat) {β : Type} (x9 : Value) (x12 : Value) (x11 : Value) (x10 : Value) (x6 : Value) (x5 : Value) (x15 : Value) (x14 : Value) (h : H) (kn : Value → Value → Value → Value → Value → Value → H → Option β) (kr : Value → H → Option β) : Option β :=
  p6arrrrrrrrrrrrrrrrll C L x9 x12 x11 x10 x6 x5 x15 x14 h (fun x72 x12 x11 x10 x6 x5 x15 x14 h => p6arrrrrrrrrrrrrrrrlr C L x72 x12 x11 x10 x6 x5 x15 x14 h kn kr)
theorem ep6arrrrrrrrrrrrrrrrl (C : CF) (L : Nat) {β : Type} (x9 : Value) (x12 : Value) (x11 : Value) (x10 : Value) (x6 : Value) (x5 : Value) (x15 : Value) (x14 : Value) (h : H) (K : Ex → T Value → H → Option β) :
    execK Tryd.prog C L 1 121 [6] c6arrrrrrrrrrrrrrrrl [10, 15, 11, 12, 14, 6] [] (fs [(9, x9), (12, x12), (11, x11), (10, x10), (6, x6), (5, x5), (15, x15), (14, x14)]) h K =
      p6arrrrrrrrrrrrrrrrl C L x9 x12 x11 x10 x6 x5 x15 x14 h (fun x10 x15 x11 x12 x14 x6 h => K .normal (fs [(10, x10), (15, x15), (11, x11), (12, x12), (14, x14), (6, x6)]) h) (fun x6 h => K .ret (fs [(6, x6)]) h) := by
  rw [execK_seq (a := c6arrrrrrrrrrrrrrrrll) (b := c6arrrrrrrrrrrrrrrrlr) (by kernel_rfl) (show live [6] c6arrrrrrrrrrrrrrrrlr [10, 15, 11, 12, 14, 6] [] = [72, 12, 11, 10, 73, 6, 5, 15, 14] by kernel_rfl), ep6arrrrrrrrrrrrrrrrll]
  unfold p6arrrrrrrrrrrrrrrrl
  exact (congrArg (p6arrrrrrrrrrrrrrrrll C L x9 x12 x11 x10 x6 x5 x15 x14 h) (funext fun x72 => funext fun x12 => funext fun x11 => funext fun x10 => funext fun x6 => funext fun x5 => funext fun x15 => funext fun x14 => funext fun h => (seqK_n _ _ _).trans (ep6arrrrrrrrrrrrrrrrlr C L x72 x12 x11 x10 x6 x5 x15 x14 h K)))
noncomputable def c6arrrrrrrrrrrrrrrrr : Code := cR c6arrrrrrrrrrrrrrrr
noncomputable def c6arrrrrrrrrrrrrrrrrl : Code := cL c6arrrrrrrrrrrrrrrrr
noncomputable def p6arrrrrrrrrrrrrrrrrl (C : CF) (L : Nat) {β : Type} (x10 : Value) (x15 : Value) (x11 : Value) (x12 : Value) (x14 : Value) (x6 : Value) (h : H) (kn : Value → H → Option β) : Option β :=
  bnd (A.load false 1 x14 h) fun t101 =>
  bnd (A.lenS t101) fun t102 =>
  bnd (A.bin Tryd.prog .eql 3 t102 x10) fun t104 =>
  toBK t104 fun b =>
  (bif b then
  bnd (A.load false 1 x15 h) fun t106 =>
  toBK t106 fun bq1 =>
  bnd (A.idxS 1 x11 (.int .i64 0)) fun t108 =>
  bnd (A.load false 1 t108 h) fun t109 =>
  toBK t109 fun bq2 =>
  bnd (A.bin Tryd.prog .eql 4 (.bool bq1) (.bool bq2)) fun t110 =>
  toBK t110 fun bq3 =>
  (bif bq3 then
  bnd (A.load false 1 x12 h) fun t113 =>
  bnd (A.load false 1 x14 h) fun t114 =>
  bnd (A.lenS t114) fun t115 =>
  bnd (A.bin Tryd.prog .leq 3 t113 t115) fun t116 =>
  toBK t116 fun bq4 =>
  (bif bq4 then
  bnd2 (C 15 [] h) fun t119 hq1 =>
  toBK t119 fun bq5 =>
  bnd (A.store 1 x6 (.bool bq5) hq1) fun hq2 =>
  kn x6 hq2
  else
  bnd (A.store 1 x6 (.bool false) h) fun hq3 =>
  kn x6 hq3)
  else
  bnd (A.store 1 x6 (.bool false) h) fun hq4 =>
  kn x6 hq4)
  else
  bnd (A.store 1 x6 (.bool false) h) fun hq5 =>
  kn x6 hq5)
theorem ep6arrrrrrrrrrrrrrrrrl (C : CF) (L : Nat) {β : Type} (x10 : Value) (x15 : Value) (x11 : Value) (x12 : Value) (x14 : Value) (x6 : Value) (h : H) (K : Ex → T Value → H → Option β) :
    execK Tryd.prog C L 1 121 [6] c6arrrrrrrrrrrrrrrrrl [6] [] (fs [(10, x10), (15, x15), (11, x11), (12, x12), (14, x14), (6, x6)]) h K =
      p6arrrrrrrrrrrrrrrrrl C L x10 x15 x11 x12 x14 x6 h (fun x6 h => K .normal (fs [(6, x6)]) h) := by
  kernel_rfl
noncomputable def c6arrrrrrrrrrrrrrrrrr : Code := cR c6arrrrrrrrrrrrrrrrr
noncomputable def p6arrrrrrrrrrrrrrrrrr (C : CF) (L : Nat) {β : Type} (x6 : Value) (h : H) (kr : Value → H → Option β) : Option β :=
  kr x6 h
theorem ep6arrrrrrrrrrrrrrrrrr (C : CF) (L : Nat) {β : Type} (x6 : Value) (h : H) (K : Ex → T Value → H → Option β) :
    execK Tryd.prog C L 1 121 [6] c6arrrrrrrrrrrrrrrrrr [6] [] (fs [(6, x6)]) h K =
      p6arrrrrrrrrrrrrrrrrr C L x6 h (fun x6 h => K .ret (fs [(6, x6)]) h) := by
  kernel_rfl
noncomputable def p6arrrrrrrrrrrrrrrrr (C : CF) (L : Nat) {β : Type} (x10 : Value) (x15 : Value) (x11 : Value) (x12 : Value) (x14 : Value) (x6 : Value) (h : H) (kr : Value → H → Option β) : Option β :=
  p6arrrrrrrrrrrrrrrrrl C L x10 x15 x11 x12 x14 x6 h (fun x6 h => p6arrrrrrrrrrrrrrrrrr C L x6 h kr)
theorem ep6arrrrrrrrrrrrrrrrr (C : CF) (L : Nat) {β : Type} (x10 : Value) (x15 : Value) (x11 : Value) (x12 : Value) (x14 : Value) (x6 : Value) (h : H) (K : Ex → T Value → H → Option β) :
    execK Tryd.prog C L 1 121 [6] c6arrrrrrrrrrrrrrrrr [6] [] (fs [(10, x10), (15, x15), (11, x11), (12, x12), (14, x14), (6, x6)]) h K =
      p6arrrrrrrrrrrrrrrrr C L x10 x15 x11 x12 x14 x6 h (fun x6 h => K .ret (fs [(6, x6)]) h) := by
  rw [execK_seq (a := c6arrrrrrrrrrrrrrrrrl) (b := c6arrrrrrrrrrrrrrrrrr) (by kernel_rfl) (show live [6] c6arrrrrrrrrrrrrrrrrr [6] [] = [6] by kernel_rfl), ep6arrrrrrrrrrrrrrrrrl]
  unfold p6arrrrrrrrrrrrrrrrr
  exact (congrArg (p6arrrrrrrrrrrrrrrrrl C L x10 x15 x11 x12 x14 x6 h) (funext fun x6 => funext fun h => (seqK_n _ _ _).trans (ep6arrrrrrrrrrrrrrrrrr C L x6 h K)))
noncomputable def p6arrrrrrrrrrrrrrrr (C : CF) (L : Nat) {β : Type} (x9 : Value) (x12 : Value) (x11 : Value) (x10 : Value) (x6 : Value) (x5 : Value) (x15 : Value) (x14 : Value) (h : H) (kr : Value → H → Option β) : Option β :=
  p6arrrrrrrrrrrrrrrrl C L x9 x12 x11 x10 x6 x5 x15 x14 h (fun x10 x15 x11 x12 x14 x6 h => p6arrrrrrrrrrrrrrrrr C L x10 x15 x11 x12 x14 x6 h kr) kr
theorem ep6arrrrrrrrrrrrrrrr (C : CF) (L : Nat) {β : Type} (x9 : Value) (x12 : Value) (x11 : Value) (x10 : Value) (x6 : Value) (x5 : Value) (x15 : Value) (x14 : Value) (h : H) (K : Ex → T Value → H → Option β) :
    execK Tryd.prog C L 1 121 [6] c6arrrrrrrrrrrrrrrr [6] [] (fs [(9, x9), (12, x12), (11, x11), (10, x10), (6, x6), (5, x5), (15, x15), (14, x14)]) h K =
      p6arrrrrrrrrrrrrrrr C L x9 x12 x11 x10 x6 x5 x15 x14 h (fun x6 h => K .ret (fs [(6, x6)]) h) := by
  rw [execK_seq (a := c6arrrrrrrrrrrrrrrrl) (b := c6arrrrrrrrrrrrrrrrr) (by kernel_rfl) (show live [6] c6arrrrrrrrrrrrrrrrr [6] [] = [10, 15, 11, 12, 14, 6] by kernel_rfl), ep6arrrrrrrrrrrrrrrrl]
  unfold p6arrrrrrrrrrrrrrrr
  exact (congr (congrArg (p6arrrrrrrrrrrrrrrrl C L x9 x12 x11 x10 x6 x5 x15 x14 h) (funext fun x10 => funext fun x15 => funext fun x11 => funext fun x12 => funext fun x14 => funext fun x6 => funext fun h => (seqK_n _ _ _).trans (ep6arrrrrrrrrrrrrrrrr C L x10 x15 x11 x12 x14 x6 h K))) (funext fun x6 => funext fun h => seqK_r _ _ _))
noncomputable def p6arrrrrrrrrrrrrrr (C : CF) (L : Nat) {β : Type} (x9 : Value) (x12 : Value) (x11 : Value) (x10 : Value) (x6 : Value) (x5 : Value) (x14 : Value) (h : H) (kr : Value → H → Option β) : Option β :=
  p6arrrrrrrrrrrrrrrl C L x9 x12 x11 x10 x6 x5 x14 h (fun x9 x12 x11 x10 x6 x5 x15 x14 h => p6arrrrrrrrrrrrrrrr C L x9 x12 x11 x10 x6 x5 x15 x14 h kr)
theorem ep6arrrrrrrrrrrrrrr (C : CF) (L : Nat) {β : Type} (x9 : Value) (x12 : Value) (x11 : Value) (x10 : Value) (x6 : Value) (x5 : Value) (x14 : Value) (h : H) (K : Ex → T Value → H → Option β) :
    execK Tryd.prog C L 1 121 [6] c6arrrrrrrrrrrrrrr [6] [] (fs [(9, x9), (12, x12), (11, x11), (10, x10), (6, x6), (5, x5), (14, x14)]) h K =
      p6arrrrrrrrrrrrrrr C L x9 x12 x11 x10 x6 x5 x14 h (fun x6 h => K .ret (fs [(6, x6)]) h) := by
  rw [execK_seq (a := c6arrrrrrrrrrrrrrrl) (b := c6arrrrrrrrrrrrrrrr) (by kernel_rfl) (show live [6] c6arrrrrrrrrrrrrrrr [6] [] = [9, 12, 11, 10, 73, 6, 5, 15, 14] by kernel_rfl), ep6arrrrrrrrrrrrrrrl]
  unfold p6arrrrrrrrrrrrrrr
  exact (congrArg (p6arrrrrrrrrrrrrrrl C L x9 x12 x11 x10 x6 x5 x14 h) (funext fun x9 => funext fun x12 => funext fun x11 => funext fun x10 => funext fun x6 => funext fun x5 => funext fun x15 => funext fun x14 => funext fun h => (seqK_n _ _ _).trans (ep6arrrrrrrrrrrrrrrr C L x9 x12 x11 x10 x6 x5 x15 x14 h K)))
noncomputable def p6arrrrrrrrrrrrrr (C : CF) (L : Nat) {β : Type} (x9 : Value) (x12 : Value) (x11 : Value) (x10 : Value) (x6 : Value) (x5 : Value) (h : H) (kr : Value → H → Option β) : Option β :=
  p6arrrrrrrrrrrrrrl C L x9 x12 x11 x10 x6 x5 h (fun x9 x12 x11 x10 x6 x5 x14 h => p6arrrrrrrrrrrrrrr C L x9 x12 x11 x10 x6 x5 x14 h kr)
theorem ep6arrrrrrrrrrrrrr (C : CF) (L : Nat) {β : Type} (x9 : Value) (x12 : Value) (x11 : Value) (x10 : Value) (x6 : Value) (x5 : Value) (h : H) (K : Ex → T Value → H → Option β) :
    execK Tryd.prog C L 1 121 [6] c6arrrrrrrrrrrrrr [6] [] (fs [(9, x9), (12, x12), (11, x11), (10, x10), (6, x6), (5, x5)]) h K =
      p6arrrrrrrrrrrrrr C L x9 x12 x11 x10 x6 x5 h (fun x6 h => K .ret (fs [(6, x6)]) h) := by
  rw [execK_seq (a := c6arrrrrrrrrrrrrrl) (b := c6arrrrrrrrrrrrrrr) (by kernel_rfl) (show live [6] c6arrrrrrrrrrrrrrr [6] [] = [9, 12, 11, 10, 73, 6, 5, 14] by kernel_rfl), ep6arrrrrrrrrrrrrrl]
  unfold p6arrrrrrrrrrrrrr
  exact (congrArg (p6arrrrrrrrrrrrrrl C L x9 x12 x11 x10 x6 x5 h) (funext fun x9 => funext fun x12 => funext fun x11 => funext fun x10 => funext fun x6 => funext fun x5 => funext fun x14 => funext fun h => (seqK_n _ _ _).trans (ep6arrrrrrrrrrrrrrr C L x9 x12 x11 x10 x6 x5 x14 h K)))
noncomputable def p6arrrrrrrrrrrrr (C : CF) (L : Nat) {β : Type} (x4 : Value) (x5 : Value) (x6 : Value) (x10 : Value) (x11 : Value) (x12 : Value) (x9 : Value) (h : H) (kr : Value → H → Option β) : Option β :=
  p6arrrrrrrrrrrrrl C L x4 x5 x6 x10 x11 x12 x9 h (fun x9 x12 x11 x10 x6 x5 h => p6arrrrrrrrrrrrrr C L x9 x12 x11 x10 x6 x5 h kr) kr
theorem ep6arrrrrrrrrrrrr (C : CF) (L : Nat) {β : Type} (x4 : Value) (x5 : Value) (x6 : Value) (x10 : Value) (x11 : Value) (x12 : Value) (x9 : Value) (h : H) (K : Ex → T Value → H → Option β) :
    execK Tryd.prog C L 1 121 [6] c6arrrrrrrrrrrrr [6] [] (fs [(4, x4), (5, x5), (6, x6), (10, x10), (11, x11), (12, x12), (9, x9)]) h K =
      p6arrrrrrrrrrrrr C L x4 x5 x6 x10 x11 x12 x9 h (fun x6 h => K .ret (fs [(6, x6)]) h) := by
  rw [execK_seq (a := c6arrrrrrrrrrrrrl) (b := c6arrrrrrrrrrrrrr) (by kernel_rfl) (show live [6] c6arrrrrrrrrrrrrr [6] [] = [9, 12, 11, 10, 73, 6, 5] by kernel_rfl), ep6arrrrrrrrrrrrrl]
  unfold p6arrrrrrrrrrrrr
  exact (congr (congrArg (p6arrrrrrrrrrrrrl C L x4 x5 x6 x10 x11 x12 x9 h) (funext fun x9 => funext fun x12 => funext fun x11 => funext fun x10 => funext fun x6 => funext fun x5 => funext fun h => (seqK_n _ _ _).trans (ep6arrrrrrrrrrrrrr C L x9 x12 x11 x10 x6 x5 h K))) (funext fun x6 => funext fun h => seqK_r _ _ _))
noncomputable def p6arrrrrrrrrrrr (C : CF) (L : Nat) {β : Type} (x4 : Value) (x5 : Value) (x6 : Value) (x10 : Value) (x11 : Value) (x9 : Value) (h : H) (kr : Value → H → Option β) : Option β :=
  p6arrrrrrrrrrrrl C L x4 x5 x6 x10 x11 x9 h (fun x4 x5 x6 x10 x11 x12 x9 h => p6arrrrrrrrrrrrr C L x4 x5 x6 x10 x11 x12 x9 h kr)
theorem ep6arrrrrrrrrrrr (C : CF) (L : Nat) {β : Type} (x4 : Value) (x5 : Value) (x6 : Value) (x10 : Value) (x11 : Value) (x9 : Value) (h : H) (K : Ex → T Value → H → Option β) :
    execK Tryd.prog C L 1 121 [6] c6arrrrrrrrrrrr [6] [] (fs [(4, x4), (5, x5), (6, x6), (10, x10), (11, x11), (9, x9)]) h K =
      p6arrrrrrrrrrrr C L x4 x5 x6 x10 x11 x9 h (fun x6 h => K .ret (fs [(6, x6)]) h) := by
  rw [execK_seq (a := c6arrrrrrrrrrrrl) (b := c6arrrrrrrrrrrrr) (by kernel_rfl) (show live [6] c6arrrrrrrrrrrrr [6] [] = [61, 4, 5, 6, 73, 10, 11, 12, 9] by kernel_rfl), ep6arrrrrrrrrrrrl]
  unfold p6arrrrrrrrrrrr
  exact (congrArg (p6arrrrrrrrrrrrl C L x4 x5 x6 x10 x11 x9 h) (funext fun x4 => funext fun x5 => funext fun x6 => funext fun x10 => funext fun x11 => funext fun x12 => funext fun x9 => funext fun h => (seqK_n _ _ _).trans (ep6arrrrrrrrrrrrr C L x4 x5 x6 x10 x11 x12 x9 h K)))
noncomputable def p6arrrrrrrrrrr (C : CF) (L : Nat) {β : Type} (x7 : Value) (x4 : Value) (x5 : Value) (x6 : Value) (x10 : Value) (x11 : Value) (x9 : Value) (h : H) (kr : Value → H → Option β) : Option β :=
  p6arrrrrrrrrrrl C L x7 x4 x5 x6 x10 x11 x9 h (fun x4 x5 x6 x10 x11 x9 h => p6arrrrrrrrrrrr C L x4 x5 x6 x10 x11 x9 h kr)
theorem ep6arrrrrrrrrrr (C : CF) (L : Nat) {β : Type} (x7 : Value) (x4 : Value) (x5 : Value) (x6 : Value) (x10 : Value) (x11 : Value) (x9 : Value) (h : H) (K : Ex → T Value → H → Option β) :
    execK Tryd.prog C L 1 121 [6] c6arrrrrrrrrrr [6] [] (fs [(7, x7), (4, x4), (5, x5), (6, x6), (10, x10), (11, x11), (9, x9)]) h K =
      p6arrrrrrrrrrr C L x7 x4 x5 x6 x10 x11 x9 h (fun x6 h => K .ret (fs [(6, x6)]) h) := by
  rw [execK_seq (a := c6arrrrrrrrrrrl) (b := c6arrrrrrrrrrrr) (by kernel_rfl) (show live [6] c6arrrrrrrrrrrr [6] [] = [61, 4, 5, 6, 73, 10, 11, 9] by kernel_rfl), ep6arrrrrrrrrrrl]
  unfold p6arrrrrrrrrrr
  exact (congrArg (p6arrrrrrrrrrrl C L x7 x4 x5 x6 x10 x11 x9 h) (funext fun x4 => funext fun x5 => funext fun x6 => funext fun x10 => funext fun x11 => funext fun x9 => funext fun h => (seqK_n _ _ _).trans (ep6arrrrrrrrrrrr C L x4 x5 x6 x10 x11 x9 h K)))
noncomputable def p6arrrrrrrrrr (C : CF) (L : Nat) {β : Type} (x7 : Value) (x4 : Value) (x5 : Value) (x6 : Value) (x10 : Value) (x11 : Value) (x9 : Value) (h : H) (kr : Value → H → Option β) : Option β :=
  p6arrrrrrrrrrl C L x7 x4 x5 x6 x10 x11 x9 h (fun x7 x4 x5 x6 x10 x11 x9 h => p6arrrrrrrrrrr C L x7 x4 x5 x6 x10 x11 x9 h kr)
theorem ep6arrrrrrrrrr (C : CF) (L : Nat) {β : Type} (x7 : Value) (x4 : Value) (x5 : Value) (x6 : Value) (x10 : Value) (x11 : Value) (x9 : Value) (h : H) (K : Ex → T Value → H → Option β) :
    execK Tryd.prog C L 1 121 [6] c6arrrrrrrrrr [6] [] (fs [(7, x7), (4, x4), (5, x5), (6, x6), (10, x10), (11, x11), (9, x9)]) h K =
      p6arrrrrrrrrr C L x7 x4 x5 x6 x10 x11 x9 h (fun x6 h => K .ret (fs [(6, x6)]) h) := by
  rw [execK_seq (a := c6arrrrrrrrrrl) (b := c6arrrrrrrrrrr) (by kernel_rfl) (show live [6] c6arrrrrrrrrrr [6] [] = [7, 61, 4, 5, 6, 73, 10, 11, 9] by kernel_rfl), ep6arrrrrrrrrrl]
  unfold p6arrrrrrrrrr
  exact (congrArg (p6arrrrrrrrrrl C L x7 x4 x5 x6 x10 x11 x9 h) (funext fun x7 => funext fun x4 => funext fun x5 => funext fun x6 => funext fun x10 => funext fun x11 => funext fun x9 => funext fun h => (seqK_n _ _ _).trans (ep6arrrrrrrrrrr C L x7 x4 x5 x6 x10 x11 x9 h K)))
noncomputable def p6arrrrrrrrr (C : CF) (L : Nat) {β : Type} (x7 : Value) (x4 : Value) (x5 : Value) (x6 : Value) (x10 : Value) (x11 : Value) (x9 : Value) (h : H) (kr : Value → H → Option β) : Option β :=
  p6arrrrrrrrrl C L x7 x4 x5 x6 x10 x11 x9 h (fun x7 x4 x5 x6 x10 x11 x9 h => p6arrrrrrrrrr C L x7 x4 x5 x6 x10 x11 x9 h kr)
theorem ep6arrrrrrrrr (C : CF) (L : Nat) {β : Type} (x7 : Value) (x4 : Value) (x5 : Value) (x6 : Value) (x10 : Value) (x11 : Value) (x9 : Value) (h : H) (K : Ex → T Value → H → Option β) :
    execK Tryd.prog C L 1 121 [6] c6arrrrrrrrr [6] [] (fs [(7, x7), (4, x4), (5, x5), (6, x6), (10, x10), (11, x11), (9, x9)]) h K =
      p6arrrrrrrrr C L x7 x4 x5 x6 x10 x11 x9 h (fun x6 h => K .ret (fs [(6, x6)]) h) := by
  rw [execK_seq (a := c6arrrrrrrrrl) (b := c6arrrrrrrrrr) (by kernel_rfl) (show live [6] c6arrrrrrrrrr [6] [] = [7, 61, 4, 5, 6, 73, 10, 11, 9] by kernel_rfl), ep6arrrrrrrrrl]
  unfold p6arrrrrrrrr
  exact (congrArg (p6arrrrrrrrrl C L x7 x4 x5 x6 x10 x11 x9 h) (funext fun x7 => funext fun x4 => funext fun x5 => funext fun x6 => funext fun x10 => funext fun x11 => funext fun x9 => funext fun h => (seqK_n _ _ _).trans (ep6arrrrrrrrrr C L x7 x4 x5 x6 x10 x11 x9 h K)))
noncomputable def p6arrrrrrrr (C : CF) (L : Nat) {β : Type} (x11 : Value) (x7 : Value) (x4 : Value) (x5 : Value) (x6 : Value) (x10 : Value) (x9 : Value) (h : H) (kr : Value → H → Option β) : Option β :=
  p6arrrrrrrrl C L x11 x7 x4 x5 x6 x10 x9 h (fun x7 x4 x5 x6 x10 x11 x9 h => p6arrrrrrrrr C L x7 x4 x5 x6 x10 x11 x9 h kr)
theorem ep6arrrrrrrr (C : CF) (L : Nat) {β : Type} (x11 : Value) (x7 : Value) (x4 : Value) (x5 : Value) (x6 : Value) (x10 : Value) (x9 : Value) (h : H) (K : Ex → T Value → H → Option β) :
    execK Tryd.prog C L 1 121 [6] c6arrrrrrrr [6] [] (fs [(11, x11), (7, x7), (4, x4), (5, x5), (6, x6), (10, x10), (9, x9)]) h K =
      p6arrrrrrrr C L x11 x7 x4 x5 x6 x10 x9 h (fun x6 h => K .ret (fs [(6, x6)]) h) := by
  rw [execK_seq (a := c6arrrrrrrrl) (b := c6arrrrrrrrr) (by kernel_rfl) (show live [6] c6arrrrrrrrr [6] [] = [7, 61, 4, 5, 6, 73, 10, 11, 9] by kernel_rfl), ep6arrrrrrrrl]
  unfold p6arrrrrrrr
  exact (congrArg (p6arrrrrrrrl C L x11 x7 x4 x5 x6 x10 x9 h) (funext fun x7 => funext fun x4 => funext fun x5 => funext fun x6 => funext fun x10 => funext fun x11 => funext fun x9 => funext fun h => (seqK_n _ _ _).trans (ep6arrrrrrrrr C L x7 x4 x5 x6 x10 x11 x9 h K)))
noncomputable def p6arrrrrrr (C : CF) (L : Nat) {β : Type} (x7 : Value) (x4 : Value) (x5 : Value) (x6 : Value) (x10 : Value) (x9 : Value) (h : H) (kr : Value → H → Option β) : Option β :=
  p6arrrrrrrl C L x7 x4 x5 x6 x10 x9 h (fun x11 x7 x4 x5 x6 x10 x9 h => p6arrrrrrrr C L x11 x7 x4 x5 x6 x10 x9 h kr)
theorem ep6arrrrrrr (C : CF) (L : Nat) {β : Type} (x7 : Value) (x4 : Value) (x5 : Value) (x6 : Value) (x10 : Value) (x9 : Value) (h : H) (K : Ex → T Value → H → Option β) :
    execK Tryd.prog C L 1 121 [6] c6arrrrrrr [6] [] (fs [(7, x7), (4, x4), (5, x5), (6, x6), (10, x10), (9, x9)]) h K =
      p6arrrrrrr C L x7 x4 x5 x6 x10 x9 h (fun x6 h => K .ret (fs [(6, x6)]) h) := by
  rw [execK_seq (a := c6arrrrrrrl) (b := c6arrrrrrrr) (by kernel_rfl) (show live [6] c6arrrrrrrr [6] [] = [11, 7, 61, 4, 5, 6, 73, 10, 9] by kernel_rfl), ep6arrrrrrrl]
  unfold p6arrrrrrr
  exact (congrArg (p6arrrrrrrl C L x7 x4 x5 x6 x10 x9 h) (funext fun x11 => funext fun x7 => funext fun x4 => funext fun x5 => funext fun x6 => funext fun x10 => funext fun x9 => funext fun h => (seqK_n _ _ _).trans (ep6arrrrrrrr C L x11 x7 x4 x5 x6 x10 x9 h K)))
noncomputable def p6arrrrrr (C : CF) (L : Nat) {β : Type} (x7 : Value) (x4 : Value) (x5 : Value) (x6 : Value) (x9 : Value) (h : H) (kr : Value → H → Option β) : Option β :=
  p6arrrrrrl C L x7 x4 x5 x6 x9 h (fun x7 x4 x5 x6 x10 x9 h => p6arrrrrrr C L x7 x4 x5 x6 x10 x9 h kr)
theorem ep6arrrrrr (C : CF) (L : Nat) {β : Type} (x7 : Value) (x4 : Value) (x5 : Value) (x6 : Value) (x9 : Value) (h : H) (K : Ex → T Value → H → Option β) :
    execK Tryd.prog C L 1 121 [6] c6arrrrrr [6] [] (fs [(7, x7), (4, x4), (5, x5), (6, x6), (9, x9)]) h K =
      p6arrrrrr C L x7 x4 x5 x6 x9 h (fun x6 h => K .ret (fs [(6, x6)]) h) := by
  rw [execK_seq (a := c6arrrrrrl) (b := c6arrrrrrr) (by kernel_rfl) (show live [6] c6arrrrrrr [6] [] = [7, 61, 4, 5, 6, 73, 10, 9] by kernel_rfl), ep6arrrrrrl]
  unfold p6arrrrrr
  exact (congrArg (p6arrrrrrl C L x7 x4 x5 x6 x9 h) (funext fun x7 => funext fun x4 => funext fun x5 => funext fun x6 => funext fun x10 => funext fun x9 => funext fun h => (seqK_n _ _ _).trans (ep6arrrrrrr C L x7 x4 x5 x6 x10 x9 h K)))
noncomputable def p6arrrrr (C : CF) (L : Nat) {β : Type} (x7 : Value) (x4 : Value) (x5 : Value) (x6 : Value) (x9 : Value) (h : H) (kr : Value → H → Option β) : Option β :=
  p6arrrrrl C L x7 x4 x5 x6 x9 h kr (fun x7 x4 x5 x6 x9 h => p6arrrrrr C L x7 x4 x5 x6 x9 h kr)
theorem ep6arrrrr (C : CF) (L : Nat) {β : Type} (x7 : Value) (x4 : Value) (x5 : Value) (x6 : Value) (x9 : Value) (h : H) (K : Ex → T Value → H → Option β) :
    execK Tryd.prog C L 1 121 [6] c6arrrrr [6] [] (fs [(7, x7), (4, x4), (5, x5), (6, x6), (9, x9)]) h K =
      p6arrrrr C L x7 x4 x5 x6 x9 h (fun x6 h => K .ret (fs [(6, x6)]) h) := by
  rw [execK_seq (a := c6arrrrrl) (b := c6arrrrrr) (by kernel_rfl) (show live [6] c6arrrrrr [6] [] = [7, 61, 4, 5, 6, 73, 9] by kernel_rfl), ep6arrrrrl]
  unfold p6arrrrr
  exact (congr (congrArg (p6arrrrrl C L x7 x4 x5 x6 x9 h) (funext fun x6 => funext fun h => seqK_r _ _ _)) (funext fun x7 => funext fun x4 => funext fun x5 => funext fun x6 => funext fun x9 => funext fun h => (seqK_n _ _ _).trans (ep6arrrrrr C L x7 x4 x5 x6 x9 h K)))
noncomputable def p6arrrr (C : CF) (L : Nat) {β : Type} (x7 : Value) (x4 : Value) (x5 : Value) (x6 : Value) (h : H) (kr : Value → H → Option β) : Option β :=
  p6arrrrl C L x7 x4 x5 x6 h (fun x7 x4 x5 x6 x9 h => p6arrrrr C L x7 x4 x5 x6 x9 h kr)
theorem ep6arrrr (C : CF) (L : Nat) {β : Type} (x7 : Value) (x4 : Value) (x5 : Value) (x6 : Value) (h : H) (K : Ex → T Value → H → Option β) :
    execK Tryd.prog C L 1 121 [6] c6arrrr [6] [] (fs [(7, x7), (4, x4), (5, x5), (6, x6)]) h K =
      p6arrrr C L x7 x4 x5 x6 h (fun x6 h => K .ret (fs [(6, x6)]) h) := by
  rw [execK_seq (a := c6arrrrl) (b := c6arrrrr) (by kernel_rfl) (show live [6] c6arrrrr [6] [] = [7, 61, 4, 5, 6, 73, 9] by kernel_rfl), ep6arrrrl]
  unfold p6arrrr
  exact (congrArg (p6arrrrl C L x7 x4 x5 x6 h) (funext fun x7 => funext fun x4 => funext fun x5 => funext fun x6 => funext fun x9 => funext fun h => (seqK_n _ _ _).trans (ep6arrrrr C L x7 x4 x5 x6 x9 h K)))
noncomputable def p6arrr (C : CF) (L : Nat) {β : Type} (x0 : Value) (x7 : Value) (x4 : Value) (x5 : Value) (x6 : Value) (h : H) (kr : Value → H → Option β) : Option β :=
  p6arrrl C L x0 x7 x4 x5 x6 h (fun x7 x4 x5 x6 h => p6arrrr C L x7 x4 x5 x6 h kr)
theorem ep6arrr (C : CF) (L : Nat) {β : Type} (x0 : Value) (x7 : Value) (x4 : Value) (x5 : Value) (x6 : Value) (h : H) (K : Ex → T Value → H → Option β) :
    execK Tryd.prog C L 1 121 [6] c6arrr [6] [] (fs [(0, x0), (7, x7), (4, x4), (5, x5), (6, x6)]) h K =
      p6arrr C L x0 x7 x4 x5 x6 h (fun x6 h => K .ret (fs [(6, x6)]) h) := by
  rw [execK_seq (a := c6arrrl) (b := c6arrrr) (by kernel_rfl) (show live [6] c6arrrr [6] [] = [7, 61, 4, 5, 6, 73] by kernel_rfl), ep6arrrl]
  unfold p6arrr
  exact (congrArg (p6arrrl C L x0 x7 x4 x5 x6 h) (funext fun x7 => funext fun x4 => funext fun x5 => funext fun x6 => funext fun h => (seqK_n _ _ _).trans (ep6arrrr C L x7 x4 x5 x6 h K)))
noncomputable def p6arr (C : CF) (L : Nat) {β : Type} (x0 : Value) (x4 : Value) (x5 : Value) (x6 : Value) (h : H) (kr : Value → H → Option β) : Option β :=
  p6arrl C L x0 x4 x5 x6 h (fun x0 x7 x4 x5 x6 h => p6arrr C L x0 x7 x4 x5 x6 h kr)
theorem ep6arr (C : CF) (L : Nat) {β : Type} (x0 : Value) (x4 : Value) (x5 : Value) (x6 : Value) (h : H) (K : Ex → T Value → H → Option β) :
    execK Tryd.prog C L 1 121 [6] c6arr [6] [] (fs [(0, x0), (4, x4), (5, x5), (6, x6)]) h K =
      p6arr C L x0 x4 x5 x6 h (fun x6 h => K .ret (fs [(6, x6)]) h) := by
  rw [execK_seq (a := c6arrl) (b := c6arrr) (by kernel_rfl) (show live [6] c6arrr [6] [] = [0, 7, 61, 4, 5, 6, 73] by kernel_rfl), ep6arrl]
  unfold p6arr
  exact (congrArg (p6arrl C L x0 x4 x5 x6 h) (funext fun x0 => funext fun x7 => funext fun x4 => funext fun x5 => funext fun x6 => funext fun h => (seqK_n _ _ _).trans (ep6arrr C L x0 x7 x4 x5 x6 h K)))
noncomputable def p6ar (C : CF) (L : Nat) {β : Type} (x0 : Value) (x4 : Value) (x5 : Value) (x6 : Value) (h : H) (kr : Value → H → Option β) : Option β :=
  p6arl C L x0 x4 x5 x6 h kr (fun x0 x4 x5 x6 h => p6arr C L x0 x4 x5 x6 h kr)
theorem ep6ar (C : CF) (L : Nat) {β : Type} (x0 : Value) (x4 : Value) (x5 : Value) (x6 : Value) (h : H) (K : Ex → T Value → H → Option β) :
    execK Tryd.prog C L 1 121 [6] c6ar [6] [] (fs [(0, x0), (4, x4), (5, x5), (6, x6)]) h K =
      p6ar C L x0 x4 x5 x6 h (fun x6 h => K .ret (fs [(6, x6)]) h) := by
  rw [execK_seq (a := c6arl) (b := c6arr) (by kernel_rfl) (show live [6] c6arr [6] [] = [0, 61, 4, 5, 6, 73] by kernel_rfl), ep6arl]
  unfold p6ar
  exact (congr (congrArg (p6arl C L x0 x4 x5 x6 h) (funext fun x6 => funext fun h => seqK_r _ _ _)) (funext fun x0 => funext fun x4 => funext fun x5 => funext fun x6 => funext fun h => (seqK_n _ _ _).trans (ep6arr C L x0 x4 x5 x6 h K)))
noncomputable def p6a (C : CF) (L : Nat) {β : Type} (x0 : Value) (x1 : Value) (x2 : Value) (h : H) (kr : Value → H → Option β) : Option β :=
  p6al C L x0 x1 x2 h (fun x0 x4 x5 x6 h => p6ar C L x0 x4 x5 x6 h kr)
theorem ep6a (C : CF) (L : Nat) {β : Type} (x0 : Value) (x1 : Value) (x2 : Value) (h : H) (K : Ex → T Value → H → Option β) :
    execK Tryd.prog C L 1 121 [6] c6a [6] [] (fs [(0, x0), (1, x1), (2, x2)]) h K =
      p6a C L x0 x1 x2 h (fun x6 h => K .ret (fs [(6, x6)]) h) := by
  rw [execK_seq (a := c6al) (b := c6ar) (by kernel_rfl) (show live [6] c6ar [6] [] = [0, 61, 4, 5, 6, 73] by kernel_rfl), ep6al]
  unfold p6a
  exact (congrArg (p6al C L x0 x1 x2 h) (funext fun x0 => funext fun x4 => funext fun x5 => funext fun x6 => funext fun h => (seqK_n _ _ _).trans (ep6ar C L x0 x4 x5 x6 h K)))
noncomputable def F6 (C : CF) (L : Nat) (x0 : Value) (x1 : Value) (x2 : Value) (h : H) : Option (Value × H) :=
  p6a C L x0 x1 x2 h
    (fun x6 h => bnd (resC (A.load false 1 x6 h) (some [])) fun vs => some (packA vs, h))
theorem F6eq (O : List FuncId) (hO : O.any (Nat.beq 6) = false) (n : Nat) (x0 : Value) (x1 : Value) (x2 : Value) (h : H) : callB Tryd.prog 1 O (n + 1) 6 [x0, x1, x2] h = F6 (callB Tryd.prog 1 O n) n x0 x1 x2 h := by
  rw [callB_eq hO (c := c6a) (nt := 121) (RR := [6]) (fr := (fs [(0, x0), (1, x1), (2, x2)])) Tryd.func6 (by kernel_rfl) (by kernel_rfl) (by kernel_rfl) (by kernel_rfl) (by kernel_rfl), ep6a]
  kernel_rfl

end Go.Proofs.YtlhppeikbgolbaaDoor.IdsF6
