/-
  Functions of the program over the abstract machine: printed by a program of mine (wip/tools/Dec.lean), each with its equation to the machine's call.
-/
import Derived.Test.YtlhppeikbgolbaaDoorProg
import Derived.Test.YtlhppeikbgolbaaDoorAmDec
set_option linter.unusedVariables false
set_option maxRecDepth 100000
namespace Go.Proofs.YtlhppeikbgolbaaDoor.IdsF3
open Go Go.AM

noncomputable def Z25 : Value := (.int .u16 0)
noncomputable def Z25L : List Value := [(.int .u16 0)]
noncomputable def Z34 : Value := (.agg ⟨[(.slice none 0 0), (.int .i64 0), (.int .i64 0)]⟩)
noncomputable def Z34L : List Value := [(.slice none 0 0), (.int .i64 0), (.int .i64 0)]
noncomputable def Z22 : Value := (.pointer none)
noncomputable def Z22L : List Value := [(.pointer none)]

/-! F3: relayhouse/relayhouselaw11.IdsKnown -/
noncomputable def c3a : Code := (Tryd.f3.body).getD .skip
noncomputable def c3al : Code := cL c3a
noncomputable def p3al (C : CF) (L : Nat) {β : Type} (h : H) (kn : H → Option β) : Option β :=
  kn h
theorem ep3al (C : CF) (L : Nat) {β : Type} (h : H) (K : Ex → T Value → H → Option β) :
    execK Tryd.prog C L 1 198 [0] c3al [] [] (fs []) h K =
      p3al C L h (fun h => K .normal (fs []) h) := by
  kernel_rfl
noncomputable def c3ar : Code := cR c3a
noncomputable def c3arl : Code := cL c3ar
noncomputable def p3arl (C : CF) (L : Nat) {β : Type} (h : H) (kn : Value → H → Option β) : Option β :=
  bnd2 (C 8 [] h) fun t14 hq1 =>
  kn t14 hq1
theorem ep3arl (C : CF) (L : Nat) {β : Type} (h : H) (K : Ex → T Value → H → Option β) :
    execK Tryd.prog C L 1 198 [0] c3arl [1] [] (fs []) h K =
      p3arl C L h (fun x1 h => K .normal (fs [(1, x1)]) h) := by
  kernel_rfl
noncomputable def c3arr : Code := cR c3ar
noncomputable def c3arrl : Code := cL c3arr
noncomputable def c3arrll : Code := cL c3arrl
noncomputable def p3arrll (C : CF) (L : Nat) {β : Type} (x1 : Value) (h : H) (kn : Value → Value → H → Option β) : Option β :=
  kn (.int .i64 1) x1 h
theorem ep3arrll (C : CF) (L : Nat) {β : Type} (x1 : Value) (h : H) (K : Ex → T Value → H → Option β) :
    execK Tryd.prog C L 1 198 [0] c3arrll [2, 1] [] (fs [(1, x1)]) h K =
      p3arrll C L x1 h (fun x2 x1 h => K .normal (fs [(2, x2), (1, x1)]) h) := by
  kernel_rfl
noncomputable def c3arrlr : Code := cR c3arrl
noncomputable def c3arrlrb : Code := cL c3arrlr
noncomputable def c3arrlrbo : Code := cL c3arrlrb
noncomputable def p3arrlrbo (C : CF) (L : Nat) {β : Type} (x2 : Value) (x1 : Value) (h : H) (kr : Value → H → Option β) (kn : Value → Value → H → Option β) (kx0 : Value → H → Option β) : Option β :=
  bnd (A.bin Tryd.prog .leq 3 x2 (.int .i64 65535)) fun t16 =>
  toBK t16 fun b =>
  (bif b then
  bnd (A.conv Tryd.prog 3 25 x2) fun t21 =>
  bnd2 (C 9 [x1, t21] h) fun t22 hq1 =>
  toBK t22 fun bq1 =>
  bnd (A.un Tryd.prog .not (.bool bq1)) fun t23 =>
  toBK t23 fun bq2 =>
  (bif bq2 then
  kr (.bool false) hq1
  else
  bnd (A.bin Tryd.prog .add 3 x2 (.int .i64 1)) fun t18 =>
  kn t18 x1 hq1)
  else
  kx0 x1 h)
theorem ep3arrlrbo (C : CF) (L : Nat) {β : Type} (x2 : Value) (x1 : Value) (h : H) (K : Ex → T Value → H → Option β) :
    execK Tryd.prog C L 1 198 [0] c3arrlrbo [2, 1] [(0, [1])] (fs [(2, x2), (1, x1)]) h K =
      p3arrlrbo C L x2 x1 h (fun x0 h => K .ret (fs [(0, x0)]) h) (fun x2 x1 h => K .normal (fs [(2, x2), (1, x1)]) h) (fun x1 h => K (.exit 0) (fs [(1, x1)]) h) := by
  kernel_rfl
noncomputable def p3arrlrbw (C : CF) (L : Nat) {β : Type} (kr : Value → H → Option β) (kx0 : Value → H → Option β) : Nat → Value → Value → H → Option β
  | 0, _, _, _ => none
  | n + 1, x2, x1, h => p3arrlrbo C L x2 x1 h kr (fun x2 x1 h => p3arrlrbw C L kr kx0 n x2 x1 h) kx0
theorem ep3arrlrbw (C : CF) (L : Nat) {β : Type} (K : Ex → T Value → H → Option β) : ∀ (n : Nat) (x2 : Value) (x1 : Value) (h : H),
    loopK (fun fr h K => execK Tryd.prog C L 1 198 [0] c3arrlrbo [2, 1] [(0, [1])] fr h K) n (fs [(2, x2), (1, x1)]) h K =
      p3arrlrbw C L (fun x0 h => K .ret (fs [(0, x0)]) h) (fun x1 h => K (.exit 0) (fs [(1, x1)]) h) n x2 x1 h := by
  intro n
  induction n with
  | zero => intros; rfl
  | succ n ih =>
    intros
    simp only [loopK]
    rw [ep3arrlrbo]
    simp only [seqK_n, seqK_x, seqK_r, ih]
    rfl
noncomputable def p3arrlrb (C : CF) (L : Nat) {β : Type} (x2 : Value) (x1 : Value) (h : H) (kr : Value → H → Option β) (kx0 : Value → H → Option β) : Option β :=
  p3arrlrbw C L kr kx0 L x2 x1 h
theorem ep3arrlrb (C : CF) (L : Nat) {β : Type} (x2 : Value) (x1 : Value) (h : H) (K : Ex → T Value → H → Option β) :
    execK Tryd.prog C L 1 198 [0] c3arrlrb [1] [(0, [1])] (fs [(2, x2), (1, x1)]) h K =
      p3arrlrb C L x2 x1 h (fun x0 h => K .ret (fs [(0, x0)]) h) (fun x1 h => K (.exit 0) (fs [(1, x1)]) h) := by
  rw [execK_loop (b := c3arrlrbo) (fr1 := (fs [(2, x2), (1, x1)])) (by kernel_rfl) (show live [0] c3arrlrbo [] [(0, [1])] = [2, 1] by kernel_rfl) (by kernel_rfl), ep3arrlrbw]
  unfold p3arrlrb
  rfl
noncomputable def p3arrlr (C : CF) (L : Nat) {β : Type} (x2 : Value) (x1 : Value) (h : H) (kr : Value → H → Option β) (kn : Value → H → Option β) : Option β :=
  p3arrlrb C L x2 x1 h kr kn
theorem ep3arrlr (C : CF) (L : Nat) {β : Type} (x2 : Value) (x1 : Value) (h : H) (K : Ex → T Value → H → Option β) :
    execK Tryd.prog C L 1 198 [0] c3arrlr [1] [] (fs [(2, x2), (1, x1)]) h K =
      p3arrlr C L x2 x1 h (fun x0 h => K .ret (fs [(0, x0)]) h) (fun x1 h => K .normal (fs [(1, x1)]) h) := by
  rw [execK_block (b := c3arrlrb) (id := 0) (by kernel_rfl), ep3arrlrb]
  unfold p3arrlr
  rfl
noncomputable def p3arrl (C : CF) (L : Nat) {β : Type} (x1 : Value) (h : H) (kr : Value → H → Option β) (kn : Value → H → Option β) : Option β :=
  p3arrll C L x1 h (fun x2 x1 h => p3arrlr C L x2 x1 h kr kn)
theorem ep3arrl (C : CF) (L : Nat) {β : Type} (x1 : Value) (h : H) (K : Ex → T Value → H → Option β) :
    execK Tryd.prog C L 1 198 [0] c3arrl [1] [] (fs [(1, x1)]) h K =
      p3arrl C L x1 h (fun x0 h => K .ret (fs [(0, x0)]) h) (fun x1 h => K .normal (fs [(1, x1)]) h) := by
  rw [execK_seq (a := c3arrll) (b := c3arrlr) (by kernel_rfl) (show live [0] c3arrlr [1] [] = [2, 1] by kernel_rfl), ep3arrll]
  unfold p3arrl
  exact (congrArg (p3arrll C L x1 h) (funext fun x2 => funext fun x1 => funext fun h => (seqK_n _ _ _).trans (ep3arrlr C L x2 x1 h K)))
noncomputable def c3arrr : Code := cR c3arr
noncomputable def c3arrrl : Code := cL c3arrr
noncomputable def p3arrrl (C : CF) (L : Nat) {β : Type} (x1 : Value) (h : H) (kn : Value → Value → H → Option β) : Option β :=
  bnd2 (C 10 [x1] h) fun t26 hq1 =>
  bnd (A.extract 0 t26) fun t27 =>
  bnd (A.extract 1 t26) fun t28 =>
  kn t28 x1 hq1
theorem ep3arrrl (C : CF) (L : Nat) {β : Type} (x1 : Value) (h : H) (K : Ex → T Value → H → Option β) :
    execK Tryd.prog C L 1 198 [0] c3arrrl [4, 1] [] (fs [(1, x1)]) h K =
      p3arrrl C L x1 h (fun x4 x1 h => K .normal (fs [(4, x4), (1, x1)]) h) := by
  kernel_rfl
noncomputable def c3arrrr : Code := cR c3arrr
noncomputable def c3arrrrl : Code := cL c3arrrr
noncomputable def p3arrrrl (C : CF) (L : Nat) {β : Type} (x4 : Value) (x1 : Value) (h : H) (kr : Value → H → Option β) (kn : Value → H → Option β) : Option β :=
  bnd (A.bin Tryd.prog .neq 26 x4 (.int .i64 7)) fun t30 =>
  toBK t30 fun b =>
  (bif b then
  kr (.bool false) h
  else
  bnd2 (C 11 [x1] h) fun t33 hq1 =>
  bnd (A.bin Tryd.prog .neq 3 t33 (.int .i64 65535)) fun t34 =>
  toBK t34 fun bq1 =>
  (bif bq1 then
  kr (.bool false) hq1
  else
  kn x1 hq1))
theorem ep3arrrrl (C : CF) (L : Nat) {β : Type} (x4 : Value) (x1 : Value) (h : H) (K : Ex → T Value → H → Option β) :
    execK Tryd.prog C L 1 198 [0] c3arrrrl [1] [] (fs [(4, x4), (1, x1)]) h K =
      p3arrrrl C L x4 x1 h (fun x0 h => K .ret (fs [(0, x0)]) h) (fun x1 h => K .normal (fs [(1, x1)]) h) := by
  kernel_rfl
noncomputable def c3arrrrr : Code := cR c3arrrr
noncomputable def c3arrrrrl : Code := cL c3arrrrr
noncomputable def p3arrrrrl (C : CF) (L : Nat) {β : Type} (x1 : Value) (h : H) (kn : Value → Value → H → Option β) : Option β :=
  bnd2 (A.buildSlice 1 10 Z25L [(0, 1, (.int .u16 65535)), (1, 1, (.int .u16 1)), (2, 1, (.int .u16 63)), (3, 1, (.int .u16 64)), (4, 1, (.int .u16 65)), (5, 1, (.int .u16 127)), (6, 1, (.int .u16 128)), (7, 1, (.int .u16 40000)), (8, 1, (.int .u16 65472)), (9, 1, (.int .u16 2))] h) fun t36 hq1 =>
  kn t36 x1 hq1
theorem ep3arrrrrl (C : CF) (L : Nat) {β : Type} (x1 : Value) (h : H) (K : Ex → T Value → H → Option β) :
    execK Tryd.prog C L 1 198 [0] c3arrrrrl [5, 1] [] (fs [(1, x1)]) h K =
      p3arrrrrl C L x1 h (fun x5 x1 h => K .normal (fs [(5, x5), (1, x1)]) h) := by
  kernel_rfl
noncomputable def c3arrrrrr : Code := cR c3arrrrr
noncomputable def c3arrrrrrl : Code := cL c3arrrrrr
noncomputable def c3arrrrrrll : Code := cL c3arrrrrrl
noncomputable def p3arrrrrrll (C : CF) (L : Nat) {β : Type} (x5 : Value) (x1 : Value) (h : H) (kn : Value → Value → Value → H → Option β) : Option β :=
  kn (.int .i64 0) x5 x1 h
theorem ep3arrrrrrll (C : CF) (L : Nat) {β : Type} (x5 : Value) (x1 : Value) (h : H) (K : Ex → T Value → H → Option β) :
    execK Tryd.prog C L 1 198 [0] c3arrrrrrll [6, 5, 1] [] (fs [(5, x5), (1, x1)]) h K =
      p3arrrrrrll C L x5 x1 h (fun x6 x5 x1 h => K .normal (fs [(6, x6), (5, x5), (1, x1)]) h) := by
  kernel_rfl
noncomputable def c3arrrrrrlr : Code := cR c3arrrrrrl
noncomputable def c3arrrrrrlrb : Code := cL c3arrrrrrlr
noncomputable def c3arrrrrrlrbo : Code := cL c3arrrrrrlrb
noncomputable def c3arrrrrrlrbol : Code := cL c3arrrrrrlrbo
noncomputable def p3arrrrrrlrbol (C : CF) (L : Nat) {β : Type} (x6 : Value) (x5 : Value) (x1 : Value) (h : H) (kn : Value → Value → Value → H → Option β) (kx2 : Value → H → Option β) : Option β :=
  bnd (A.lenS x5) fun t39 =>
  bnd (A.bin Tryd.prog .lss 3 x6 t39) fun t40 =>
  toBK t40 fun b =>
  (bif b then
  kn x6 x5 x1 h
  else
  kx2 x1 h)
theorem ep3arrrrrrlrbol (C : CF) (L : Nat) {β : Type} (x6 : Value) (x5 : Value) (x1 : Value) (h : H) (K : Ex → T Value → H → Option β) :
    execK Tryd.prog C L 1 198 [0] c3arrrrrrlrbol [6, 5, 1] [(2, [1])] (fs [(6, x6), (5, x5), (1, x1)]) h K =
      p3arrrrrrlrbol C L x6 x5 x1 h (fun x6 x5 x1 h => K .normal (fs [(6, x6), (5, x5), (1, x1)]) h) (fun x1 h => K (.exit 2) (fs [(1, x1)]) h) := by
  kernel_rfl
noncomputable def c3arrrrrrlrbor : Code := cR c3arrrrrrlrbo
noncomputable def c3arrrrrrlrborl : Code := cL c3arrrrrrlrbor
noncomputable def c3arrrrrrlrborlb : Code := cL c3arrrrrrlrborl
noncomputable def c3arrrrrrlrborlbl : Code := cL c3arrrrrrlrborlb
noncomputable def p3arrrrrrlrborlbl (C : CF) (L : Nat) {β : Type} (x6 : Value) (x5 : Value) (x1 : Value) (h : H) (kn : Value → Value → Value → Value → H → Option β) : Option β :=
  bnd (A.idxS 1 x5 x6) fun t46 =>
  bnd (A.load false 1 t46 h) fun t47 =>
  bnd2 (C 12 [x1, t47] h) fun t48 hq1 =>
  toBK t48 fun b =>
  bnd (A.un Tryd.prog .not (.bool b)) fun t49 =>
  toBK t49 fun bq1 =>
  (bif bq1 then
  kn (.bool true) x6 x5 x1 hq1
  else
  bnd (A.idxS 1 x5 x6) fun t54 =>
  bnd (A.load false 1 t54 hq1) fun t55 =>
  bnd2 (C 12 [x1, t55] hq1) fun t56 hq2 =>
  toBK t56 fun bq2 =>
  (bif bq2 then
  kn (.bool true) x6 x5 x1 hq2
  else
  bnd (A.idxS 1 x5 x6) fun t62 =>
  bnd (A.load false 1 t62 hq2) fun t63 =>
  bnd2 (C 13 [x1, t63] hq2) fun t64 hq3 =>
  toBK t64 fun bq3 =>
  (bif bq3 then
  kn (.bool true) x6 x5 x1 hq3
  else
  bnd (A.idxS 1 x5 x6) fun t70 =>
  bnd (A.load false 1 t70 hq3) fun t71 =>
  bnd2 (C 9 [x1, t71] hq3) fun t72 hq4 =>
  toBK t72 fun bq4 =>
  bnd (A.un Tryd.prog .not (.bool bq4)) fun t73 =>
  toBK t73 fun bq5 =>
  (bif bq5 then
  kn (.bool true) x6 x5 x1 hq4
  else
  bnd (A.idxS 1 x5 x6) fun t79 =>
  bnd (A.load false 1 t79 hq4) fun t80 =>
  bnd2 (C 13 [x1, t80] hq4) fun t81 hq5 =>
  toBK t81 fun bq6 =>
  bnd (A.un Tryd.prog .not (.bool bq6)) fun t82 =>
  toBK t82 fun bq7 =>
  kn (.bool bq7) x6 x5 x1 hq5))))
theorem ep3arrrrrrlrborlbl (C : CF) (L : Nat) {β : Type} (x6 : Value) (x5 : Value) (x1 : Value) (h : H) (K : Ex → T Value → H → Option β) :
    execK Tryd.prog C L 1 198 [0] c3arrrrrrlrborlbl [83, 6, 5, 1] [(3, [6, 5, 1]), (2, [1])] (fs [(6, x6), (5, x5), (1, x1)]) h K =
      p3arrrrrrlrborlbl C L x6 x5 x1 h (fun x83 x6 x5 x1 h => K .normal (fs [(83, x83), (6, x6), (5, x5), (1, x1)]) h) := by
  kernel_rfl
noncomputable def c3arrrrrrlrborlbr : Code := cR c3arrrrrrlrborlb
noncomputable def p3arrrrrrlrborlbr (C : CF) (L : Nat) {β : Type} (x83 : Value) (x6 : Value) (x5 : Value) (x1 : Value) (h : H) (kr : Value → H → Option β) (kn : Value → Value → Value → H → Option β) : Option β :=
  condV x83 (
  kr (.bool false) h) (
  kn x6 x5 x1 h)
theorem ep3arrrrrrlrborlbr (C : CF) (L : Nat) {β : Type} (x83 : Value) (x6 : Value) (x5 : Value) (x1 : Value) (h : H) (K : Ex → T Value → H → Option β) :
    execK Tryd.prog C L 1 198 [0] c3arrrrrrlrborlbr [6, 5, 1] [(3, [6, 5, 1]), (2, [1])] (fs [(83, x83), (6, x6), (5, x5), (1, x1)]) h K =
      p3arrrrrrlrborlbr C L x83 x6 x5 x1 h (fun x0 h => K .ret (fs [(0, x0)]) h) (fun x6 x5 x1 h => K .normal (fs [(6, x6), (5, x5), (1, x1)]) h) := by
  kernel_rfl
noncomputable def p3arrrrrrlrborlb (C : CF) (L : Nat) {β : Type} (x6 : Value) (x5 : Value) (x1 : Value) (h : H) (kr : Value → H → Option β) (kn : Value → Value → Value → H → Option β) : Option β :=
  p3arrrrrrlrborlbl C L x6 x5 x1 h (fun x83 x6 x5 x1 h => p3arrrrrrlrborlbr C L x83 x6 x5 x1 h kr kn)
theorem ep3arrrrrrlrborlb (C : CF) (L : Nat) {β : Type} (x6 : Value) (x5 : Value) (x1 : Value) (h : H) (K : Ex → T Value → H → Option β) :
    execK Tryd.prog C L 1 198 [0] c3arrrrrrlrborlb [6, 5, 1] [(3, [6, 5, 1]), (2, [1])] (fs [(6, x6), (5, x5), (1, x1)]) h K =
      p3arrrrrrlrborlb C L x6 x5 x1 h (fun x0 h => K .ret (fs [(0, x0)]) h) (fun x6 x5 x1 h => K .normal (fs [(6, x6), (5, x5), (1, x1)]) h) := by
  rw [execK_seq (a := c3arrrrrrlrborlbl) (b := c3arrrrrrlrborlbr) (by kernel_rfl) (show live [0] c3arrrrrrlrborlbr [6, 5, 1] [(3, [6, 5, 1]), (2, [1])] = [83, 6, 5, 1] by kernel_rfl), ep3arrrrrrlrborlbl]
  unfold p3arrrrrrlrborlb
  exact (congrArg (p3arrrrrrlrborlbl C L x6 x5 x1 h) (funext fun x83 => funext fun x6 => funext fun x5 => funext fun x1 => funext fun h => (seqK_n _ _ _).trans (ep3arrrrrrlrborlbr C L x83 x6 x5 x1 h K)))
noncomputable def p3arrrrrrlrborl (C : CF) (L : Nat) {β : Type} (x6 : Value) (x5 : Value) (x1 : Value) (h : H) (kr : Value → H → Option β) (kn : Value → Value → Value → H → Option β) : Option β :=
  p3arrrrrrlrborlb C L x6 x5 x1 h kr kn
theorem ep3arrrrrrlrborl (C : CF) (L : Nat) {β : Type} (x6 : Value) (x5 : Value) (x1 : Value) (h : H) (K : Ex → T Value → H → Option β) :
    execK Tryd.prog C L 1 198 [0] c3arrrrrrlrborl [6, 5, 1] [(2, [1])] (fs [(6, x6), (5, x5), (1, x1)]) h K =
      p3arrrrrrlrborl C L x6 x5 x1 h (fun x0 h => K .ret (fs [(0, x0)]) h) (fun x6 x5 x1 h => K .normal (fs [(6, x6), (5, x5), (1, x1)]) h) := by
  rw [execK_block (b := c3arrrrrrlrborlb) (id := 3) (by kernel_rfl), ep3arrrrrrlrborlb]
  unfold p3arrrrrrlrborl
  rfl
noncomputable def c3arrrrrrlrborr : Code := cR c3arrrrrrlrbor
noncomputable def p3arrrrrrlrborr (C : CF) (L : Nat) {β : Type} (x6 : Value) (x5 : Value) (x1 : Value) (h : H) (kn : Value → Value → Value → H → Option β) : Option β :=
  bnd (A.bin Tryd.prog .add 3 x6 (.int .i64 1)) fun t42 =>
  kn t42 x5 x1 h
theorem ep3arrrrrrlrborr (C : CF) (L : Nat) {β : Type} (x6 : Value) (x5 : Value) (x1 : Value) (h : H) (K : Ex → T Value → H → Option β) :
    execK Tryd.prog C L 1 198 [0] c3arrrrrrlrborr [6, 5, 1] [(2, [1])] (fs [(6, x6), (5, x5), (1, x1)]) h K =
      p3arrrrrrlrborr C L x6 x5 x1 h (fun x6 x5 x1 h => K .normal (fs [(6, x6), (5, x5), (1, x1)]) h) := by
  kernel_rfl
noncomputable def p3arrrrrrlrbor (C : CF) (L : Nat) {β : Type} (x6 : Value) (x5 : Value) (x1 : Value) (h : H) (kn : Value → Value → Value → H → Option β) (kr : Value → H → Option β) : Option β :=
  p3arrrrrrlrborl C L x6 x5 x1 h kr (fun x6 x5 x1 h => p3arrrrrrlrborr C L x6 x5 x1 h kn)
theorem ep3arrrrrrlrbor (C : CF) (L : Nat) {β : Type} (x6 : Value) (x5 : Value) (x1 : Value) (h : H) (K : Ex → T Value → H → Option β) :
    execK Tryd.prog C L 1 198 [0] c3arrrrrrlrbor [6, 5, 1] [(2, [1])] (fs [(6, x6), (5, x5), (1, x1)]) h K =
      p3arrrrrrlrbor C L x6 x5 x1 h (fun x6 x5 x1 h => K .normal (fs [(6, x6), (5, x5), (1, x1)]) h) (fun x0 h => K .ret (fs [(0, x0)]) h) := by
  rw [execK_seq (a := c3arrrrrrlrborl) (b := c3arrrrrrlrborr) (by kernel_rfl) (show live [0] c3arrrrrrlrborr [6, 5, 1] [(2, [1])] = [6, 5, 1] by kernel_rfl), ep3arrrrrrlrborl]
  unfold p3arrrrrrlrbor
  exact (congr (congrArg (p3arrrrrrlrborl C L x6 x5 x1 h) (funext fun x0 => funext fun h => seqK_r _ _ _)) (funext fun x6 => funext fun x5 => funext fun x1 => funext fun h => (seqK_n _ _ _).trans (ep3arrrrrrlrborr C L x6 x5 x1 h K)))
noncomputable def p3arrrrrrlrbo (C : CF) (L : Nat) {β : Type} (x6 : Value) (x5 : Value) (x1 : Value) (h : H) (kn : Value → Value → Value → H → Option β) (kr : Value → H → Option β) (kx2 : Value → H → Option β) : Option β :=
  p3arrrrrrlrbol C L x6 x5 x1 h (fun x6 x5 x1 h => p3arrrrrrlrbor C L x6 x5 x1 h kn kr) kx2
theorem ep3arrrrrrlrbo (C : CF) (L : Nat) {β : Type} (x6 : Value) (x5 : Value) (x1 : Value) (h : H) (K : Ex → T Value → H → Option β) :
    execK Tryd.prog C L 1 198 [0] c3arrrrrrlrbo [6, 5, 1] [(2, [1])] (fs [(6, x6), (5, x5), (1, x1)]) h K =
      p3arrrrrrlrbo C L x6 x5 x1 h (fun x6 x5 x1 h => K .normal (fs [(6, x6), (5, x5), (1, x1)]) h) (fun x0 h => K .ret (fs [(0, x0)]) h) (fun x1 h => K (.exit 2) (fs [(1, x1)]) h) := by
  rw [execK_seq (a := c3arrrrrrlrbol) (b := c3arrrrrrlrbor) (by kernel_rfl) (show live [0] c3arrrrrrlrbor [6, 5, 1] [(2, [1])] = [6, 5, 1] by kernel_rfl), ep3arrrrrrlrbol]
  unfold p3arrrrrrlrbo
  exact (congr (congrArg (p3arrrrrrlrbol C L x6 x5 x1 h) (funext fun x6 => funext fun x5 => funext fun x1 => funext fun h => (seqK_n _ _ _).trans (ep3arrrrrrlrbor C L x6 x5 x1 h K))) (funext fun x1 => funext fun h => seqK_x _ _ _ _))
noncomputable def p3arrrrrrlrbw (C : CF) (L : Nat) {β : Type} (kr : Value → H → Option β) (kx2 : Value → H → Option β) : Nat → Value → Value → Value → H → Option β
  | 0, _, _, _, _ => none
  | n + 1, x6, x5, x1, h => p3arrrrrrlrbo C L x6 x5 x1 h (fun x6 x5 x1 h => p3arrrrrrlrbw C L kr kx2 n x6 x5 x1 h) kr kx2
theorem ep3arrrrrrlrbw (C : CF) (L : Nat) {β : Type} (K : Ex → T Value → H → Option β) : ∀ (n : Nat) (x6 : Value) (x5 : Value) (x1 : Value) (h : H),
    loopK (fun fr h K => execK Tryd.prog C L 1 198 [0] c3arrrrrrlrbo [6, 5, 1] [(2, [1])] fr h K) n (fs [(6, x6), (5, x5), (1, x1)]) h K =
      p3arrrrrrlrbw C L (fun x0 h => K .ret (fs [(0, x0)]) h) (fun x1 h => K (.exit 2) (fs [(1, x1)]) h) n x6 x5 x1 h := by
  intro n
  induction n with
  | zero => intros; rfl
  | succ n ih =>
    intros
    simp only [loopK]
    rw [ep3arrrrrrlrbo]
    simp only [seqK_n, seqK_x, seqK_r, ih]
    rfl
noncomputable def p3arrrrrrlrb (C : CF) (L : Nat) {β : Type} (x6 : Value) (x5 : Value) (x1 : Value) (h : H) (kr : Value → H → Option β) (kx2 : Value → H → Option β) : Option β :=
  p3arrrrrrlrbw C L kr kx2 L x6 x5 x1 h
theorem ep3arrrrrrlrb (C : CF) (L : Nat) {β : Type} (x6 : Value) (x5 : Value) (x1 : Value) (h : H) (K : Ex → T Value → H → Option β) :
    execK Tryd.prog C L 1 198 [0] c3arrrrrrlrb [1] [(2, [1])] (fs [(6, x6), (5, x5), (1, x1)]) h K =
      p3arrrrrrlrb C L x6 x5 x1 h (fun x0 h => K .ret (fs [(0, x0)]) h) (fun x1 h => K (.exit 2) (fs [(1, x1)]) h) := by
  rw [execK_loop (b := c3arrrrrrlrbo) (fr1 := (fs [(6, x6), (5, x5), (1, x1)])) (by kernel_rfl) (show live [0] c3arrrrrrlrbo [] [(2, [1])] = [6, 5, 1] by kernel_rfl) (by kernel_rfl), ep3arrrrrrlrbw]
  unfold p3arrrrrrlrb
  rfl
noncomputable def p3arrrrrrlr (C : CF) (L : Nat) {β : Type} (x6 : Value) (x5 : Value) (x1 : Value) (h : H) (kr : Value → H → Option β) (kn : Value → H → Option β) : Option β :=
  p3arrrrrrlrb C L x6 x5 x1 h kr kn
theorem ep3arrrrrrlr (C : CF) (L : Nat) {β : Type} (x6 : Value) (x5 : Value) (x1 : Value) (h : H) (K : Ex → T Value → H → Option β) :
    execK Tryd.prog C L 1 198 [0] c3arrrrrrlr [1] [] (fs [(6, x6), (5, x5), (1, x1)]) h K =
      p3arrrrrrlr C L x6 x5 x1 h (fun x0 h => K .ret (fs [(0, x0)]) h) (fun x1 h => K .normal (fs [(1, x1)]) h) := by
  rw [execK_block (b := c3arrrrrrlrb) (id := 2) (by kernel_rfl), ep3arrrrrrlrb]
  unfold p3arrrrrrlr
  rfl
noncomputable def p3arrrrrrl (C : CF) (L : Nat) {β : Type} (x5 : Value) (x1 : Value) (h : H) (kr : Value → H → Option β) (kn : Value → H → Option β) : Option β :=
  p3arrrrrrll C L x5 x1 h (fun x6 x5 x1 h => p3arrrrrrlr C L x6 x5 x1 h kr kn)
theorem ep3arrrrrrl (C : CF) (L : Nat) {β : Type} (x5 : Value) (x1 : Value) (h : H) (K : Ex → T Value → H → Option β) :
    execK Tryd.prog C L 1 198 [0] c3arrrrrrl [1] [] (fs [(5, x5), (1, x1)]) h K =
      p3arrrrrrl C L x5 x1 h (fun x0 h => K .ret (fs [(0, x0)]) h) (fun x1 h => K .normal (fs [(1, x1)]) h) := by
  rw [execK_seq (a := c3arrrrrrll) (b := c3arrrrrrlr) (by kernel_rfl) (show live [0] c3arrrrrrlr [1] [] = [6, 5, 1] by kernel_rfl), ep3arrrrrrll]
  unfold p3arrrrrrl
  exact (congrArg (p3arrrrrrll C L x5 x1 h) (funext fun x6 => funext fun x5 => funext fun x1 => funext fun h => (seqK_n _ _ _).trans (ep3arrrrrrlr C L x6 x5 x1 h K)))
noncomputable def c3arrrrrrr : Code := cR c3arrrrrr
noncomputable def c3arrrrrrrl : Code := cL c3arrrrrrr
noncomputable def c3arrrrrrrll : Code := cL c3arrrrrrrl
noncomputable def p3arrrrrrrll (C : CF) (L : Nat) {β : Type} (x1 : Value) (h : H) (kn : Value → Value → H → Option β) : Option β :=
  bnd2 (C 12 [x1, (.int .u16 700)] h) fun t85 hq1 =>
  toBK t85 fun b =>
  bnd (A.un Tryd.prog .not (.bool b)) fun t86 =>
  toBK t86 fun bq1 =>
  (bif bq1 then
  kn (.bool true) x1 hq1
  else
  bnd2 (C 12 [x1, (.int .u16 64)] hq1) fun t89 hq2 =>
  toBK t89 fun bq2 =>
  bnd (A.un Tryd.prog .not (.bool bq2)) fun t90 =>
  toBK t90 fun bq3 =>
  (bif bq3 then
  kn (.bool true) x1 hq2
  else
  bnd2 (C 12 [x1, (.int .u16 65535)] hq2) fun t94 hq3 =>
  toBK t94 fun bq4 =>
  bnd (A.un Tryd.prog .not (.bool bq4)) fun t95 =>
  toBK t95 fun bq5 =>
  (bif bq5 then
  kn (.bool true) x1 hq3
  else
  bnd2 (C 11 [x1] hq3) fun t99 hq4 =>
  bnd (A.bin Tryd.prog .neq 3 t99 (.int .i64 65532)) fun t100 =>
  toBK t100 fun bq6 =>
  (bif bq6 then
  kn (.bool true) x1 hq4
  else
  bnd2 (C 9 [x1, (.int .u16 64)] hq4) fun t104 hq5 =>
  toBK t104 fun bq7 =>
  bnd (A.un Tryd.prog .not (.bool bq7)) fun t105 =>
  toBK t105 fun bq8 =>
  (bif bq8 then
  kn (.bool true) x1 hq5
  else
  bnd2 (C 9 [x1, (.int .u16 700)] hq5) fun t109 hq6 =>
  toBK t109 fun bq9 =>
  bnd (A.un Tryd.prog .not (.bool bq9)) fun t110 =>
  toBK t110 fun bq10 =>
  (bif bq10 then
  kn (.bool true) x1 hq6
  else
  bnd2 (C 9 [x1, (.int .u16 65535)] hq6) fun t114 hq7 =>
  toBK t114 fun bq11 =>
  bnd (A.un Tryd.prog .not (.bool bq11)) fun t115 =>
  toBK t115 fun bq12 =>
  kn (.bool bq12) x1 hq7))))))
theorem ep3arrrrrrrll (C : CF) (L : Nat) {β : Type} (x1 : Value) (h : H) (K : Ex → T Value → H → Option β) :
    execK Tryd.prog C L 1 198 [0] c3arrrrrrrll [116, 1] [] (fs [(1, x1)]) h K =
      p3arrrrrrrll C L x1 h (fun x116 x1 h => K .normal (fs [(116, x116), (1, x1)]) h) := by
  kernel_rfl
noncomputable def c3arrrrrrrlr : Code := cR c3arrrrrrrl
noncomputable def p3arrrrrrrlr (C : CF) (L : Nat) {β : Type} (x116 : Value) (x1 : Value) (h : H) (kr : Value → H → Option β) (kn : Value → H → Option β) : Option β :=
  condV x116 (
  kr (.bool false) h) (
  kn x1 h)
theorem ep3arrrrrrrlr (C : CF) (L : Nat) {β : Type} (x116 : Value) (x1 : Value) (h : H) (K : Ex → T Value → H → Option β) :
    execK Tryd.prog C L 1 198 [0] c3arrrrrrrlr [1] [] (fs [(116, x116), (1, x1)]) h K =
      p3arrrrrrrlr C L x116 x1 h (fun x0 h => K .ret (fs [(0, x0)]) h) (fun x1 h => K .normal (fs [(1, x1)]) h) := by
  kernel_rfl
noncomputable def p3arrrrrrrl (C : CF) (L : Nat) {β : Type} (x1 : Value) (h : H) (kr : Value → H → Option β) (kn : Value → H → Option β) : Option β :=
  p3arrrrrrrll C L x1 h (fun x116 x1 h => p3arrrrrrrlr C L x116 x1 h kr kn)
theorem ep3arrrrrrrl (C : CF) (L : Nat) {β : Type} (x1 : Value) (h : H) (K : Ex → T Value → H → Option β) :
    execK Tryd.prog C L 1 198 [0] c3arrrrrrrl [1] [] (fs [(1, x1)]) h K =
      p3arrrrrrrl C L x1 h (fun x0 h => K .ret (fs [(0, x0)]) h) (fun x1 h => K .normal (fs [(1, x1)]) h) := by
  rw [execK_seq (a := c3arrrrrrrll) (b := c3arrrrrrrlr) (by kernel_rfl) (show live [0] c3arrrrrrrlr [1] [] = [116, 1] by kernel_rfl), ep3arrrrrrrll]
  unfold p3arrrrrrrl
  exact (congrArg (p3arrrrrrrll C L x1 h) (funext fun x116 => funext fun x1 => funext fun h => (seqK_n _ _ _).trans (ep3arrrrrrrlr C L x116 x1 h K)))
noncomputable def c3arrrrrrrr : Code := cR c3arrrrrrr
noncomputable def c3arrrrrrrrl : Code := cL c3arrrrrrrr
noncomputable def p3arrrrrrrrl (C : CF) (L : Nat) {β : Type} (x1 : Value) (h : H) (kn : Value → Value → H → Option β) : Option β :=
  kn (.pointer none) x1 h
theorem ep3arrrrrrrrl (C : CF) (L : Nat) {β : Type} (x1 : Value) (h : H) (K : Ex → T Value → H → Option β) :
    execK Tryd.prog C L 1 198 [0] c3arrrrrrrrl [7, 1] [] (fs [(1, x1)]) h K =
      p3arrrrrrrrl C L x1 h (fun x7 x1 h => K .normal (fs [(7, x7), (1, x1)]) h) := by
  kernel_rfl
noncomputable def c3arrrrrrrrr : Code := cR c3arrrrrrrr
noncomputable def c3arrrrrrrrrl : Code := cL c3arrrrrrrrr
noncomputable def p3arrrrrrrrrl (C : CF) (L : Nat) {β : Type} (x7 : Value) (x1 : Value) (h : H) (kn : Value → Value → H → Option β) : Option β :=
  bnd (A.build Z34L []) fun t118 =>
  bnd2 (A.box 3 t118 h) fun t119 hq1 =>
  bnd2 (A.buildSlice 1 2 Z22L [(0, 1, x7), (1, 1, t119)] hq1) fun t120 hq2 =>
  kn t120 x1 hq2
theorem ep3arrrrrrrrrl (C : CF) (L : Nat) {β : Type} (x7 : Value) (x1 : Value) (h : H) (K : Ex → T Value → H → Option β) :
    execK Tryd.prog C L 1 198 [0] c3arrrrrrrrrl [8, 1] [] (fs [(7, x7), (1, x1)]) h K =
      p3arrrrrrrrrl C L x7 x1 h (fun x8 x1 h => K .normal (fs [(8, x8), (1, x1)]) h) := by
  kernel_rfl
noncomputable def c3arrrrrrrrrr : Code := cR c3arrrrrrrrr
noncomputable def c3arrrrrrrrrrl : Code := cL c3arrrrrrrrrr
noncomputable def c3arrrrrrrrrrll : Code := cL c3arrrrrrrrrrl
noncomputable def p3arrrrrrrrrrll (C : CF) (L : Nat) {β : Type} (x8 : Value) (x1 : Value) (h : H) (kn : Value → Value → Value → H → Option β) : Option β :=
  kn (.int .i64 0) x8 x1 h
theorem ep3arrrrrrrrrrll (C : CF) (L : Nat) {β : Type} (x8 : Value) (x1 : Value) (h : H) (K : Ex → T Value → H → Option β) :
    execK Tryd.prog C L 1 198 [0] c3arrrrrrrrrrll [9, 8, 1] [] (fs [(8, x8), (1, x1)]) h K =
      p3arrrrrrrrrrll C L x8 x1 h (fun x9 x8 x1 h => K .normal (fs [(9, x9), (8, x8), (1, x1)]) h) := by
  kernel_rfl
noncomputable def c3arrrrrrrrrrlr : Code := cR c3arrrrrrrrrrl
noncomputable def c3arrrrrrrrrrlrb : Code := cL c3arrrrrrrrrrlr
noncomputable def c3arrrrrrrrrrlrbo : Code := cL c3arrrrrrrrrrlrb
noncomputable def c3arrrrrrrrrrlrbol : Code := cL c3arrrrrrrrrrlrbo
noncomputable def p3arrrrrrrrrrlrbol (C : CF) (L : Nat) {β : Type} (x9 : Value) (x8 : Value) (x1 : Value) (h : H) (kn : Value → Value → Value → H → Option β) (kx4 : Value → H → Option β) : Option β :=
  bnd (A.lenS x8) fun t123 =>
  bnd (A.bin Tryd.prog .lss 3 x9 t123) fun t124 =>
  toBK t124 fun b =>
  (bif b then
  kn x9 x8 x1 h
  else
  kx4 x1 h)
theorem ep3arrrrrrrrrrlrbol (C : CF) (L : Nat) {β : Type} (x9 : Value) (x8 : Value) (x1 : Value) (h : H) (K : Ex → T Value → H → Option β) :
    execK Tryd.prog C L 1 198 [0] c3arrrrrrrrrrlrbol [9, 8, 1] [(4, [1])] (fs [(9, x9), (8, x8), (1, x1)]) h K =
      p3arrrrrrrrrrlrbol C L x9 x8 x1 h (fun x9 x8 x1 h => K .normal (fs [(9, x9), (8, x8), (1, x1)]) h) (fun x1 h => K (.exit 4) (fs [(1, x1)]) h) := by
  kernel_rfl
noncomputable def c3arrrrrrrrrrlrbor : Code := cR c3arrrrrrrrrrlrbo
noncomputable def c3arrrrrrrrrrlrborl : Code := cL c3arrrrrrrrrrlrbor
noncomputable def c3arrrrrrrrrrlrborlb : Code := cL c3arrrrrrrrrrlrborl
noncomputable def c3arrrrrrrrrrlrborlbl : Code := cL c3arrrrrrrrrrlrborlb
noncomputable def p3arrrrrrrrrrlrborlbl (C : CF) (L : Nat) {β : Type} (x9 : Value) (x8 : Value) (x1 : Value) (h : H) (kn : Value → Value → Value → Value → Value → H → Option β) : Option β :=
  bnd (A.idxS 1 x8 x9) fun t130 =>
  bnd (A.load false 1 t130 h) fun t131 =>
  bnd2 (C 10 [t131] h) fun t132 hq1 =>
  bnd (A.extract 0 t132) fun t133 =>
  bnd (A.extract 1 t132) fun t134 =>
  kn t133 t134 x9 x8 x1 hq1
theorem ep3arrrrrrrrrrlrborlbl (C : CF) (L : Nat) {β : Type} (x9 : Value) (x8 : Value) (x1 : Value) (h : H) (K : Ex → T Value → H → Option β) :
    execK Tryd.prog C L 1 198 [0] c3arrrrrrrrrrlrborlbl [10, 11, 9, 8, 1] [(5, [9, 8, 1]), (4, [1])] (fs [(9, x9), (8, x8), (1, x1)]) h K =
      p3arrrrrrrrrrlrborlbl C L x9 x8 x1 h (fun x10 x11 x9 x8 x1 h => K .normal (fs [(10, x10), (11, x11), (9, x9), (8, x8), (1, x1)]) h) := by
  kernel_rfl
noncomputable def c3arrrrrrrrrrlrborlbr : Code := cR c3arrrrrrrrrrlrborlb
noncomputable def c3arrrrrrrrrrlrborlbrl : Code := cL c3arrrrrrrrrrlrborlbr
noncomputable def p3arrrrrrrrrrlrborlbrl (C : CF) (L : Nat) {β : Type} (x10 : Value) (x11 : Value) (x9 : Value) (x8 : Value) (x1 : Value) (h : H) (kn : Value → Value → Value → Value → Value → Value → Value → H → Option β) : Option β :=
  bnd (A.idxS 1 x8 x9) fun t138 =>
  bnd (A.load false 1 t138 h) fun t139 =>
  bnd2 (C 14 [t139] h) fun t140 hq1 =>
  bnd (A.extract 0 t140) fun t141 =>
  bnd (A.extract 1 t140) fun t142 =>
  toBK t142 fun b =>
  kn x10 x11 (.bool b) t141 x9 x8 x1 hq1
theorem ep3arrrrrrrrrrlrborlbrl (C : CF) (L : Nat) {β : Type} (x10 : Value) (x11 : Value) (x9 : Value) (x8 : Value) (x1 : Value) (h : H) (K : Ex → T Value → H → Option β) :
    execK Tryd.prog C L 1 198 [0] c3arrrrrrrrrrlrborlbrl [10, 11, 13, 12, 9, 8, 1] [(5, [9, 8, 1]), (4, [1])] (fs [(10, x10), (11, x11), (9, x9), (8, x8), (1, x1)]) h K =
      p3arrrrrrrrrrlrborlbrl C L x10 x11 x9 x8 x1 h (fun x10 x11 x13 x12 x9 x8 x1 h => K .normal (fs [(10, x10), (11, x11), (13, x13), (12, x12), (9, x9), (8, x8), (1, x1)]) h) := by
  kernel_rfl
noncomputable def c3arrrrrrrrrrlrborlbrr : Code := cR c3arrrrrrrrrrlrborlbr
noncomputable def c3arrrrrrrrrrlrborlbrrl : Code := cL c3arrrrrrrrrrlrborlbrr
noncomputable def p3arrrrrrrrrrlrborlbrrl (C : CF) (L : Nat) {β : Type} (x10 : Value) (x11 : Value) (x13 : Value) (x12 : Value) (x9 : Value) (x8 : Value) (x1 : Value) (h : H) (kn : Value → Value → Value → Value → H → Option β) : Option β :=
  bnd (A.bin Tryd.prog .neq 25 x10 (.int .u16 0)) fun t144 =>
  toBK t144 fun b =>
  (bif b then
  kn (.bool true) x9 x8 x1 h
  else
  bnd (A.bin Tryd.prog .neq 26 x11 (.int .i64 8)) fun t147 =>
  toBK t147 fun bq1 =>
  (bif bq1 then
  kn (.bool true) x9 x8 x1 h
  else
  bnd (A.idxS 1 x8 x9) fun t152 =>
  bnd (A.load false 1 t152 h) fun t153 =>
  bnd2 (C 12 [t153, (.int .u16 1)] h) fun t154 hq1 =>
  toBK t154 fun bq2 =>
  (bif bq2 then
  kn (.bool true) x9 x8 x1 hq1
  else
  bnd (A.idxS 1 x8 x9) fun t159 =>
  bnd (A.load false 1 t159 hq1) fun t160 =>
  bnd2 (C 13 [t160, (.int .u16 0)] hq1) fun t161 hq2 =>
  toBK t161 fun bq3 =>
  (bif bq3 then
  kn (.bool true) x9 x8 x1 hq2
  else
  bnd (A.idxS 1 x8 x9) fun t166 =>
  bnd (A.load false 1 t166 hq2) fun t167 =>
  bnd2 (C 13 [t167, (.int .u16 1)] hq2) fun t168 hq3 =>
  toBK t168 fun bq4 =>
  (bif bq4 then
  kn (.bool true) x9 x8 x1 hq3
  else
  bnd (A.idxS 1 x8 x9) fun t173 =>
  bnd (A.load false 1 t173 hq3) fun t174 =>
  bnd2 (C 11 [t174] hq3) fun t175 hq4 =>
  bnd (A.bin Tryd.prog .neq 3 t175 (.int .i64 0)) fun t176 =>
  toBK t176 fun bq5 =>
  (bif bq5 then
  kn (.bool true) x9 x8 x1 hq4
  else
  toBK x13 fun bq6 =>
  bnd (A.un Tryd.prog .not (.bool bq6)) fun t180 =>
  toBK t180 fun bq7 =>
  (bif bq7 then
  kn (.bool true) x9 x8 x1 hq4
  else
  bnd (A.lenS x12) fun t184 =>
  bnd (A.bin Tryd.prog .neq 3 t184 (.int .i64 0)) fun t185 =>
  toBK t185 fun bq8 =>
  kn (.bool bq8) x9 x8 x1 hq4)))))))
theorem ep3arrrrrrrrrrlrborlbrrl (C : CF) (L : Nat) {β : Type} (x10 : Value) (x11 : Value) (x13 : Value) (x12 : Value) (x9 : Value) (x8 : Value) (x1 : Value) (h : H) (K : Ex → T Value → H → Option β) :
    execK Tryd.prog C L 1 198 [0] c3arrrrrrrrrrlrborlbrrl [186, 9, 8, 1] [(5, [9, 8, 1]), (4, [1])] (fs [(10, x10), (11, x11), (13, x13), (12, x12), (9, x9), (8, x8), (1, x1)]) h K =
      p3arrrrrrrrrrlrborlbrrl C L x10 x11 x13 x12 x9 x8 x1 h (fun x186 x9 x8 x1 h => K .normal (fs [(186, x186), (9, x9), (8, x8), (1, x1)]) h) := by
  kernel_rfl
noncomputable def c3arrrrrrrrrrlrborlbrrr : Code := cR c3arrrrrrrrrrlrborlbrr
noncomputable def p3arrrrrrrrrrlrborlbrrr (C : CF) (L : Nat) {β : Type} (x186 : Value) (x9 : Value) (x8 : Value) (x1 : Value) (h : H) (kr : Value → H → Option β) (kn : Value → Value → Value → H → Option β) : Option β :=
  condV x186 (
  kr (.bool false) h) (
  kn x9 x8 x1 h)
theorem ep3arrrrrrrrrrlrborlbrrr (C : CF) (L : Nat) {β : Type} (x186 : Value) (x9 : Value) (x8 : Value) (x1 : Value) (h : H) (K : Ex → T Value → H → Option β) :
    execK Tryd.prog C L 1 198 [0] c3arrrrrrrrrrlrborlbrrr [9, 8, 1] [(5, [9, 8, 1]), (4, [1])] (fs [(186, x186), (9, x9), (8, x8), (1, x1)]) h K =
      p3arrrrrrrrrrlrborlbrrr C L x186 x9 x8 x1 h (fun x0 h => K .ret (fs [(0, x0)]) h) (fun x9 x8 x1 h => K .normal (fs [(9, x9), (8, x8), (1, x1)]) h) := by
  kernel_rfl
noncomputable def p3arrrrrrrrrrlrborlbrr (C : CF) (L : Nat) {β : Type} (x10 : Value) (x11 : Value) (x13 : Value) (x12 : Value) (x9 : Value) (x8 : Value) (x1 : Value) (h : H) (kr : Value → H → Option β) (kn : Value → Value → Value → H → Option β) : Option β :=
  p3arrrrrrrrrrlrborlbrrl C L x10 x11 x13 x12 x9 x8 x1 h (fun x186 x9 x8 x1 h => p3arrrrrrrrrrlrborlbrrr C L x186 x9 x8 x1 h kr kn)
theorem ep3arrrrrrrrrrlrborlbrr (C : CF) (L : Nat) {β : Type} (x10 : Value) (x11 : Value) (x13 : Value) (x12 : Value) (x9 : Value) (x8 : Value) (x1 : Value) (h : H) (K : Ex → T Value → H → Option β) :
    execK Tryd.prog C L 1 198 [0] c3arrrrrrrrrrlrborlbrr [9, 8, 1] [(5, [9, 8, 1]), (4, [1])] (fs [(10, x10), (11, x11), (13, x13), (12, x12), (9, x9), (8, x8), (1, x1)]) h K =
      p3arrrrrrrrrrlrborlbrr C L x10 x11 x13 x12 x9 x8 x1 h (fun x0 h => K .ret (fs [(0, x0)]) h) (fun x9 x8 x1 h => K .normal (fs [(9, x9), (8, x8), (1, x1)]) h) := by
  rw [execK_seq (a := c3arrrrrrrrrrlrborlbrrl) (b := c3arrrrrrrrrrlrborlbrrr) (by kernel_rfl) (show live [0] c3arrrrrrrrrrlrborlbrrr [9, 8, 1] [(5, [9, 8, 1]), (4, [1])] = [186, 9, 8, 1] by kernel_rfl), ep3arrrrrrrrrrlrborlbrrl]
  unfold p3arrrrrrrrrrlrborlbrr
  exact (congrArg (p3arrrrrrrrrrlrborlbrrl C L x10 x11 x13 x12 x9 x8 x1 h) (funext fun x186 => funext fun x9 => funext fun x8 => funext fun x1 => funext fun h => (seqK_n _ _ _).trans (ep3arrrrrrrrrrlrborlbrrr C L x186 x9 x8 x1 h K)))
noncomputable def p3arrrrrrrrrrlrborlbr (C : CF) (L : Nat) {β : Type} (x10 : Value) (x11 : Value) (x9 : Value) (x8 : Value) (x1 : Value) (h : H) (kr : Value → H → Option β) (kn : Value → Value → Value → H → Option β) : Option β :=
  p3arrrrrrrrrrlrborlbrl C L x10 x11 x9 x8 x1 h (fun x10 x11 x13 x12 x9 x8 x1 h => p3arrrrrrrrrrlrborlbrr C L x10 x11 x13 x12 x9 x8 x1 h kr kn)
theorem ep3arrrrrrrrrrlrborlbr (C : CF) (L : Nat) {β : Type} (x10 : Value) (x11 : Value) (x9 : Value) (x8 : Value) (x1 : Value) (h : H) (K : Ex → T Value → H → Option β) :
    execK Tryd.prog C L 1 198 [0] c3arrrrrrrrrrlrborlbr [9, 8, 1] [(5, [9, 8, 1]), (4, [1])] (fs [(10, x10), (11, x11), (9, x9), (8, x8), (1, x1)]) h K =
      p3arrrrrrrrrrlrborlbr C L x10 x11 x9 x8 x1 h (fun x0 h => K .ret (fs [(0, x0)]) h) (fun x9 x8 x1 h => K .normal (fs [(9, x9), (8, x8), (1, x1)]) h) := by
  rw [execK_seq (a := c3arrrrrrrrrrlrborlbrl) (b := c3arrrrrrrrrrlrborlbrr) (by kernel_rfl) (show live [0] c3arrrrrrrrrrlrborlbrr [9, 8, 1] [(5, [9, 8, 1]), (4, [1])] = [10, 11, 13, 12, 9, 8, 1] by kernel_rfl), ep3arrrrrrrrrrlrborlbrl]
  unfold p3arrrrrrrrrrlrborlbr
  exact (congrArg (p3arrrrrrrrrrlrborlbrl C L x10 x11 x9 x8 x1 h) (funext fun x10 => funext fun x11 => funext fun x13 => funext fun x12 => funext fun x9 => funext fun x8 => funext fun x1 => funext fun h => (seqK_n _ _ _).trans (ep3arrrrrrrrrrlrborlbrr C L x10 x11 x13 x12 x9 x8 x1 h K)))
noncomputable def p3arrrrrrrrrrlrborlb (C : CF) (L : Nat) {β : Type} (x9 : Value) (x8 : Value) (x1 : Value) (h : H) (kr : Value → H → Option β) (kn : Value → Value → Value → H → Option β) : Option β :=
  p3arrrrrrrrrrlrborlbl C L x9 x8 x1 h (fun x10 x11 x9 x8 x1 h => p3arrrrrrrrrrlrborlbr C L x10 x11 x9 x8 x1 h kr kn)
theorem ep3arrrrrrrrrrlrborlb (C : CF) (L : Nat) {β : Type} (x9 : Value) (x8 : Value) (x1 : Value) (h : H) (K : Ex → T Value → H → Option β) :
    execK Tryd.prog C L 1 198 [0] c3arrrrrrrrrrlrborlb [9, 8, 1] [(5, [9, 8, 1]), (4, [1])] (fs [(9, x9), (8, x8), (1, x1)]) h K =
      p3arrrrrrrrrrlrborlb C L x9 x8 x1 h (fun x0 h => K .ret (fs [(0, x0)]) h) (fun x9 x8 x1 h => K .normal (fs [(9, x9), (8, x8), (1, x1)]) h) := by
  rw [execK_seq (a := c3arrrrrrrrrrlrborlbl) (b := c3arrrrrrrrrrlrborlbr) (by kernel_rfl) (show live [0] c3arrrrrrrrrrlrborlbr [9, 8, 1] [(5, [9, 8, 1]), (4, [1])] = [10, 11, 9, 8, 1] by kernel_rfl), ep3arrrrrrrrrrlrborlbl]
  unfold p3arrrrrrrrrrlrborlb
  exact (congrArg (p3arrrrrrrrrrlrborlbl C L x9 x8 x1 h) (funext fun x10 => funext fun x11 => funext fun x9 => funext fun x8 => funext fun x1 => funext fun h => (seqK_n _ _ _).trans (ep3arrrrrrrrrrlrborlbr C L x10 x11 x9 x8 x1 h K)))
noncomputable def p3arrrrrrrrrrlrborl (C : CF) (L : Nat) {β : Type} (x9 : Value) (x8 : Value) (x1 : Value) (h : H) (kr : Value → H → Option β) (kn : Value → Value → Value → H → Option β) : Option β :=
  p3arrrrrrrrrrlrborlb C L x9 x8 x1 h kr kn
theorem ep3arrrrrrrrrrlrborl (C : CF) (L : Nat) {β : Type} (x9 : Value) (x8 : Value) (x1 : Value) (h : H) (K : Ex → T Value → H → Option β) :
    execK Tryd.prog C L 1 198 [0] c3arrrrrrrrrrlrborl [9, 8, 1] [(4, [1])] (fs [(9, x9), (8, x8), (1, x1)]) h K =
      p3arrrrrrrrrrlrborl C L x9 x8 x1 h (fun x0 h => K .ret (fs [(0, x0)]) h) (fun x9 x8 x1 h => K .normal (fs [(9, x9), (8, x8), (1, x1)]) h) := by
  rw [execK_block (b := c3arrrrrrrrrrlrborlb) (id := 5) (by kernel_rfl), ep3arrrrrrrrrrlrborlb]
  unfold p3arrrrrrrrrrlrborl
  rfl
noncomputable def c3arrrrrrrrrrlrborr : Code := cR c3arrrrrrrrrrlrbor
noncomputable def p3arrrrrrrrrrlrborr (C : CF) (L : Nat) {β : Type} (x9 : Value) (x8 : Value) (x1 : Value) (h : H) (kn : Value → Value → Value → H → Option β) : Option β :=
  bnd (A.bin Tryd.prog .add 3 x9 (.int .i64 1)) fun t126 =>
  kn t126 x8 x1 h
theorem ep3arrrrrrrrrrlrborr (C : CF) (L : Nat) {β : Type} (x9 : Value) (x8 : Value) (x1 : Value) (h : H) (K : Ex → T Value → H → Option β) :
    execK Tryd.prog C L 1 198 [0] c3arrrrrrrrrrlrborr [9, 8, 1] [(4, [1])] (fs [(9, x9), (8, x8), (1, x1)]) h K =
      p3arrrrrrrrrrlrborr C L x9 x8 x1 h (fun x9 x8 x1 h => K .normal (fs [(9, x9), (8, x8), (1, x1)]) h) := by
  kernel_rfl
noncomputable def p3arrrrrrrrrrlrbor (C : CF) (L : Nat) {β : Type} (x9 : Value) (x8 : Value) (x1 : Value) (h : H) (kn : Value → Value → Value → H → Option β) (kr : Value → H → Option β) : Option β :=
  p3arrrrrrrrrrlrborl C L x9 x8 x1 h kr (fun x9 x8 x1 h => p3arrrrrrrrrrlrborr C L x9 x8 x1 h kn)
theorem ep3arrrrrrrrrrlrbor (C : CF) (L : Nat) {β : Type} (x9 : Value) (x8 : Value) (x1 : Value) (h : H) (K : Ex → T Value → H → Option β) :
    execK Tryd.prog C L 1 198 [0] c3arrrrrrrrrrlrbor [9, 8, 1] [(4, [1])] (fs [(9, x9), (8, x8), (1, x1)]) h K =
      p3arrrrrrrrrrlrbor C L x9 x8 x1 h (fun x9 x8 x1 h => K .normal (fs [(9, x9), (8, x8), (1, x1)]) h) (fun x0 h => K .ret (fs [(0, x0)]) h) := by
  rw [execK_seq (a := c3arrrrrrrrrrlrborl) (b := c3arrrrrrrrrrlrborr) (by kernel_rfl) (show live [0] c3arrrrrrrrrrlrborr [9, 8, 1] [(4, [1])] = [9, 8, 1] by kernel_rfl), ep3arrrrrrrrrrlrborl]
  unfold p3arrrrrrrrrrlrbor
  exact (congr (congrArg (p3arrrrrrrrrrlrborl C L x9 x8 x1 h) (funext fun x0 => funext fun h => seqK_r _ _ _)) (funext fun x9 => funext fun x8 => funext fun x1 => funext fun h => (seqK_n _ _ _).trans (ep3arrrrrrrrrrlrborr C L x9 x8 x1 h K)))
noncomputable def p3arrrrrrrrrrlrbo (C : CF) (L : Nat) {β : Type} (x9 : Value) (x8 : Value) (x1 : Value) (h : H) (kn : Value → Value → Value → H → Option β) (kr : Value → H → Option β) (kx4 : Value → H → Option β) : Option β :=
  p3arrrrrrrrrrlrbol C L x9 x8 x1 h (fun x9 x8 x1 h => p3arrrrrrrrrrlrbor C L x9 x8 x1 h kn kr) kx4
theorem ep3arrrrrrrrrrlrbo (C : CF) (L : Nat) {β : Type} (x9 : Value) (x8 : Value) (x1 : Value) (h : H) (K : Ex → T Value → H → Option β) :
    execK Tryd.prog C L 1 198 [0] c3arrrrrrrrrrlrbo [9, 8, 1] [(4, [1])] (fs [(9, x9), (8, x8), (1, x1)]) h K =
      p3arrrrrrrrrrlrbo C L x9 x8 x1 h (fun x9 x8 x1 h => K .normal (fs [(9, x9), (8, x8), (1, x1)]) h) (fun x0 h => K .ret (fs [(0, x0)]) h) (fun x1 h => K (.exit 4) (fs [(1, x1)]) h) := by
  rw [execK_seq (a := c3arrrrrrrrrrlrbol) (b := c3arrrrrrrrrrlrbor) (by kernel_rfl) (show live [0] c3arrrrrrrrrrlrbor [9, 8, 1] [(4, [1])] = [9, 8, 1] by kernel_rfl), ep3arrrrrrrrrrlrbol]
  unfold p3arrrrrrrrrrlrbo
  exact (congr (congrArg (p3arrrrrrrrrrlrbol C L x9 x8 x1 h) (funext fun x9 => funext fun x8 => funext fun x1 => funext fun h => (seqK_n _ _ _).trans (ep3arrrrrrrrrrlrbor C L x9 x8 x1 h K))) (funext fun x1 => funext fun h => seqK_x _ _ _ _))
noncomputable def p3arrrrrrrrrrlrbw (C : CF) (L : Nat) {β : Type} (kr : Value → H → Option β) (kx4 : Value → H → Option β) : Nat → Value → Value → Value → H → Option β
  | 0, _, _, _, _ => none
  | n + 1, x9, x8, x1, h => p3arrrrrrrrrrlrbo C L x9 x8 x1 h (fun x9 x8 x1 h => p3arrrrrrrrrrlrbw C L kr kx4 n x9 x8 x1 h) kr kx4
theorem ep3arrrrrrrrrrlrbw (C : CF) (L : Nat) {β : Type} (K : Ex → T Value → H → Option β) : ∀ (n : Nat) (x9 : Value) (x8 : Value) (x1 : Value) (h : H),
    loopK (fun fr h K => execK Tryd.prog C L 1 198 [0] c3arrrrrrrrrrlrbo [9, 8, 1] [(4, [1])] fr h K) n (fs [(9, x9), (8, x8), (1, x1)]) h K =
      p3arrrrrrrrrrlrbw C L (fun x0 h => K .ret (fs [(0, x0)]) h) (fun x1 h => K (.exit 4) (fs [(1, x1)]) h) n x9 x8 x1 h := by
  intro n
  induction n with
  | zero => intros; rfl
  | succ n ih =>
    intros
    simp only [loopK]
    rw [ep3arrrrrrrrrrlrbo]
    simp only [seqK_n, seqK_x, seqK_r, ih]
    rfl
noncomputable def p3arrrrrrrrrrlrb (C : CF) (L : Nat) {β : Type} (x9 : Value) (x8 : Value) (x1 : Value) (h : H) (kr : Value → H → Option β) (kx4 : Value → H → Option β) : Option β :=
  p3arrrrrrrrrrlrbw C L kr kx4 L x9 x8 x1 h
theorem ep3arrrrrrrrrrlrb (C : CF) (L : Nat) {β : Type} (x9 : Value) (x8 : Value) (x1 : Value) (h : H) (K : Ex → T Value → H → Option β) :
    execK Tryd.prog C L 1 198 [0] c3arrrrrrrrrrlrb [1] [(4, [1])] (fs [(9, x9), (8, x8), (1, x1)]) h K =
      p3arrrrrrrrrrlrb C L x9 x8 x1 h (fun x0 h => K .ret (fs [(0, x0)]) h) (fun x1 h => K (.exit 4) (fs [(1, x1)]) h) := by
  rw [execK_loop (b := c3arrrrrrrrrrlrbo) (fr1 := (fs [(9, x9), (8, x8), (1, x1)])) (by kernel_rfl) (show live [0] c3arrrrrrrrrrlrbo [] [(4, [1])] = [9, 8, 1] by kernel_rfl) (by kernel_rfl), ep3arrrrrrrrrrlrbw]
  unfold p3arrrrrrrrrrlrb
  rfl
noncomputable def p3arrrrrrrrrrlr (C : CF) (L : Nat) {β : Type} (x9 : Value) (x8 : Value) (x1 : Value) (h : H) (kr : Value → H → Option β) (kn : Value → H → Option β) : Option β :=
  p3arrrrrrrrrrlrb C L x9 x8 x1 h kr kn
theorem ep3arrrrrrrrrrlr (C : CF) (L : Nat) {β : Type} (x9 : Value) (x8 : Value) (x1 : Value) (h : H) (K : Ex → T Value → H → Option β) :
    execK Tryd.prog C L 1 198 [0] c3arrrrrrrrrrlr [1] [] (fs [(9, x9), (8, x8), (1, x1)]) h K =
      p3arrrrrrrrrrlr C L x9 x8 x1 h (fun x0 h => K .ret (fs [(0, x0)]) h) (fun x1 h => K .normal (fs [(1, x1)]) h) := by
  rw [execK_block (b := c3arrrrrrrrrrlrb) (id := 4) (by kernel_rfl), ep3arrrrrrrrrrlrb]
  unfold p3arrrrrrrrrrlr
  rfl
noncomputable def p3arrrrrrrrrrl (C : CF) (L : Nat) {β : Type} (x8 : Value) (x1 : Value) (h : H) (kr : Value → H → Option β) (kn : Value → H → Option β) : Option β :=
  p3arrrrrrrrrrll C L x8 x1 h (fun x9 x8 x1 h => p3arrrrrrrrrrlr C L x9 x8 x1 h kr kn)
theorem ep3arrrrrrrrrrl (C : CF) (L : Nat) {β : Type} (x8 : Value) (x1 : Value) (h : H) (K : Ex → T Value → H → Option β) :
    execK Tryd.prog C L 1 198 [0] c3arrrrrrrrrrl [1] [] (fs [(8, x8), (1, x1)]) h K =
      p3arrrrrrrrrrl C L x8 x1 h (fun x0 h => K .ret (fs [(0, x0)]) h) (fun x1 h => K .normal (fs [(1, x1)]) h) := by
  rw [execK_seq (a := c3arrrrrrrrrrll) (b := c3arrrrrrrrrrlr) (by kernel_rfl) (show live [0] c3arrrrrrrrrrlr [1] [] = [9, 8, 1] by kernel_rfl), ep3arrrrrrrrrrll]
  unfold p3arrrrrrrrrrl
  exact (congrArg (p3arrrrrrrrrrll C L x8 x1 h) (funext fun x9 => funext fun x8 => funext fun x1 => funext fun h => (seqK_n _ _ _).trans (ep3arrrrrrrrrrlr C L x9 x8 x1 h K)))
noncomputable def c3arrrrrrrrrrr : Code := cR c3arrrrrrrrrr
noncomputable def p3arrrrrrrrrrr (C : CF) (L : Nat) {β : Type} (x1 : Value) (h : H) (kr : Value → H → Option β) : Option β :=
  bnd2 (C 13 [x1, (.int .u16 0)] h) fun t188 hq1 =>
  toBK t188 fun b =>
  bnd (A.un Tryd.prog .not (.bool b)) fun t189 =>
  toBK t189 fun bq1 =>
  (bif bq1 then
  bnd2 (C 12 [x1, (.int .u16 0)] hq1) fun t192 hq2 =>
  toBK t192 fun bq2 =>
  bnd (A.un Tryd.prog .not (.bool bq2)) fun t193 =>
  toBK t193 fun bq3 =>
  (bif bq3 then
  bnd2 (C 15 [] hq2) fun t196 hq3 =>
  toBK t196 fun bq4 =>
  kr (.bool bq4) hq3
  else
  kr (.bool false) hq2)
  else
  kr (.bool false) hq1)
theorem ep3arrrrrrrrrrr (C : CF) (L : Nat) {β : Type} (x1 : Value) (h : H) (K : Ex → T Value → H → Option β) :
    execK Tryd.prog C L 1 198 [0] c3arrrrrrrrrrr [0] [] (fs [(1, x1)]) h K =
      p3arrrrrrrrrrr C L x1 h (fun x0 h => K .ret (fs [(0, x0)]) h) := by
  kernel_rfl
noncomputable def p3arrrrrrrrrr (C : CF) (L : Nat) {β : Type} (x8 : Value) (x1 : Value) (h : H) (kr : Value → H → Option β) : Option β :=
  p3arrrrrrrrrrl C L x8 x1 h kr (fun x1 h => p3arrrrrrrrrrr C L x1 h kr)
theorem ep3arrrrrrrrrr (C : CF) (L : Nat) {β : Type} (x8 : Value) (x1 : Value) (h : H) (K : Ex → T Value → H → Option β) :
    execK Tryd.prog C L 1 198 [0] c3arrrrrrrrrr [0] [] (fs [(8, x8), (1, x1)]) h K =
      p3arrrrrrrrrr C L x8 x1 h (fun x0 h => K .ret (fs [(0, x0)]) h) := by
  rw [execK_seq (a := c3arrrrrrrrrrl) (b := c3arrrrrrrrrrr) (by kernel_rfl) (show live [0] c3arrrrrrrrrrr [0] [] = [1] by kernel_rfl), ep3arrrrrrrrrrl]
  unfold p3arrrrrrrrrr
  exact (congr (congrArg (p3arrrrrrrrrrl C L x8 x1 h) (funext fun x0 => funext fun h => seqK_r _ _ _)) (funext fun x1 => funext fun h => (seqK_n _ _ _).trans (ep3arrrrrrrrrrr C L x1 h K)))
noncomputable def p3arrrrrrrrr (C : CF) (L : Nat) {β : Type} (x7 : Value) (x1 : Value) (h : H) (kr : Value → H → Option β) : Option β :=
  p3arrrrrrrrrl C L x7 x1 h (fun x8 x1 h => p3arrrrrrrrrr C L x8 x1 h kr)
theorem ep3arrrrrrrrr (C : CF) (L : Nat) {β : Type} (x7 : Value) (x1 : Value) (h : H) (K : Ex → T Value → H → Option β) :
    execK Tryd.prog C L 1 198 [0] c3arrrrrrrrr [0] [] (fs [(7, x7), (1, x1)]) h K =
      p3arrrrrrrrr C L x7 x1 h (fun x0 h => K .ret (fs [(0, x0)]) h) := by
  rw [execK_seq (a := c3arrrrrrrrrl) (b := c3arrrrrrrrrr) (by kernel_rfl) (show live [0] c3arrrrrrrrrr [0] [] = [8, 1] by kernel_rfl), ep3arrrrrrrrrl]
  unfold p3arrrrrrrrr
  exact (congrArg (p3arrrrrrrrrl C L x7 x1 h) (funext fun x8 => funext fun x1 => funext fun h => (seqK_n _ _ _).trans (ep3arrrrrrrrrr C L x8 x1 h K)))
noncomputable def p3arrrrrrrr (C : CF) (L : Nat) {β : Type} (x1 : Value) (h : H) (kr : Value → H → Option β) : Option β :=
  p3arrrrrrrrl C L x1 h (fun x7 x1 h => p3arrrrrrrrr C L x7 x1 h kr)
theorem ep3arrrrrrrr (C : CF) (L : Nat) {β : Type} (x1 : Value) (h : H) (K : Ex → T Value → H → Option β) :
    execK Tryd.prog C L 1 198 [0] c3arrrrrrrr [0] [] (fs [(1, x1)]) h K =
      p3arrrrrrrr C L x1 h (fun x0 h => K .ret (fs [(0, x0)]) h) := by
  rw [execK_seq (a := c3arrrrrrrrl) (b := c3arrrrrrrrr) (by kernel_rfl) (show live [0] c3arrrrrrrrr [0] [] = [7, 1] by kernel_rfl), ep3arrrrrrrrl]
  unfold p3arrrrrrrr
  exact (congrArg (p3arrrrrrrrl C L x1 h) (funext fun x7 => funext fun x1 => funext fun h => (seqK_n _ _ _).trans (ep3arrrrrrrrr C L x7 x1 h K)))
noncomputable def p3arrrrrrr (C : CF) (L : Nat) {β : Type} (x1 : Value) (h : H) (kr : Value → H → Option β) : Option β :=
  p3arrrrrrrl C L x1 h kr (fun x1 h => p3arrrrrrrr C L x1 h kr)
theorem ep3arrrrrrr (C : CF) (L : Nat) {β : Type} (x1 : Value) (h : H) (K : Ex → T Value → H → Option β) :
    execK Tryd.prog C L 1 198 [0] c3arrrrrrr [0] [] (fs [(1, x1)]) h K =
      p3arrrrrrr C L x1 h (fun x0 h => K .ret (fs [(0, x0)]) h) := by
  rw [execK_seq (a := c3arrrrrrrl) (b := c3arrrrrrrr) (by kernel_rfl) (show live [0] c3arrrrrrrr [0] [] = [1] by kernel_rfl), ep3arrrrrrrl]
  unfold p3arrrrrrr
  exact (congr (congrArg (p3arrrrrrrl C L x1 h) (funext fun x0 => funext fun h => seqK_r _ _ _)) (funext fun x1 => funext fun h => (seqK_n _ _ _).trans (ep3arrrrrrrr C L x1 h K)))
noncomputable def p3arrrrrr (C : CF) (L : Nat) {β : Type} (x5 : Value) (x1 : Value) (h : H) (kr : Value → H → Option β) : Option β :=
  p3arrrrrrl C L x5 x1 h kr (fun x1 h => p3arrrrrrr C L x1 h kr)
theorem ep3arrrrrr (C : CF) (L : Nat) {β : Type} (x5 : Value) (x1 : Value) (h : H) (K : Ex → T Value → H → Option β) :
    execK Tryd.prog C L 1 198 [0] c3arrrrrr [0] [] (fs [(5, x5), (1, x1)]) h K =
      p3arrrrrr C L x5 x1 h (fun x0 h => K .ret (fs [(0, x0)]) h) := by
  rw [execK_seq (a := c3arrrrrrl) (b := c3arrrrrrr) (by kernel_rfl) (show live [0] c3arrrrrrr [0] [] = [1] by kernel_rfl), ep3arrrrrrl]
  unfold p3arrrrrr
  exact (congr (congrArg (p3arrrrrrl C L x5 x1 h) (funext fun x0 => funext fun h => seqK_r _ _ _)) (funext fun x1 => funext fun h => (seqK_n _ _ _).trans (ep3arrrrrrr C L x1 h K)))
noncomputable def p3arrrrr (C : CF) (L : Nat) {β : Type} (x1 : Value) (h : H) (kr : Value → H → Option β) : Option β :=
  p3arrrrrl C L x1 h (fun x5 x1 h => p3arrrrrr C L x5 x1 h kr)
theorem ep3arrrrr (C : CF) (L : Nat) {β : Type} (x1 : Value) (h : H) (K : Ex → T Value → H → Option β) :
    execK Tryd.prog C L 1 198 [0] c3arrrrr [0] [] (fs [(1, x1)]) h K =
      p3arrrrr C L x1 h (fun x0 h => K .ret (fs [(0, x0)]) h) := by
  rw [execK_seq (a := c3arrrrrl) (b := c3arrrrrr) (by kernel_rfl) (show live [0] c3arrrrrr [0] [] = [5, 1] by kernel_rfl), ep3arrrrrl]
  unfold p3arrrrr
  exact (congrArg (p3arrrrrl C L x1 h) (funext fun x5 => funext fun x1 => funext fun h => (seqK_n _ _ _).trans (ep3arrrrrr C L x5 x1 h K)))
noncomputable def p3arrrr (C : CF) (L : Nat) {β : Type} (x4 : Value) (x1 : Value) (h : H) (kr : Value → H → Option β) : Option β :=
  p3arrrrl C L x4 x1 h kr (fun x1 h => p3arrrrr C L x1 h kr)
theorem ep3arrrr (C : CF) (L : Nat) {β : Type} (x4 : Value) (x1 : Value) (h : H) (K : Ex → T Value → H → Option β) :
    execK Tryd.prog C L 1 198 [0] c3arrrr [0] [] (fs [(4, x4), (1, x1)]) h K =
      p3arrrr C L x4 x1 h (fun x0 h => K .ret (fs [(0, x0)]) h) := by
  rw [execK_seq (a := c3arrrrl) (b := c3arrrrr) (by kernel_rfl) (show live [0] c3arrrrr [0] [] = [1] by kernel_rfl), ep3arrrrl]
  unfold p3arrrr
  exact (congr (congrArg (p3arrrrl C L x4 x1 h) (funext fun x0 => funext fun h => seqK_r _ _ _)) (funext fun x1 => funext fun h => (seqK_n _ _ _).trans (ep3arrrrr C L x1 h K)))
noncomputable def p3arrr (C : CF) (L : Nat) {β : Type} (x1 : Value) (h : H) (kr : Value → H → Option β) : Option β :=
  p3arrrl C L x1 h (fun x4 x1 h => p3arrrr C L x4 x1 h kr)
theorem ep3arrr (C : CF) (L : Nat) {β : Type} (x1 : Value) (h : H) (K : Ex → T Value → H → Option β) :
    execK Tryd.prog C L 1 198 [0] c3arrr [0] [] (fs [(1, x1)]) h K =
      p3arrr C L x1 h (fun x0 h => K .ret (fs [(0, x0)]) h) := by
  rw [execK_seq (a := c3arrrl) (b := c3arrrr) (by kernel_rfl) (show live [0] c3arrrr [0] [] = [4, 1] by kernel_rfl), ep3arrrl]
  unfold p3arrr
  exact (congrArg (p3arrrl C L x1 h) (funext fun x4 => funext fun x1 => funext fun h => (seqK_n _ _ _).trans (ep3arrrr C L x4 x1 h K)))
noncomputable def p3arr (C : CF) (L : Nat) {β : Type} (x1 : Value) (h : H) (kr : Value → H → Option β) : Option β :=
  p3arrl C L x1 h kr (fun x1 h => p3arrr C L x1 h kr)
theorem ep3arr (C : CF) (L : Nat) {β : Type} (x1 : Value) (h : H) (K : Ex → T Value → H → Option β) :
    execK Tryd.prog C L 1 198 [0] c3arr [0] [] (fs [(1, x1)]) h K =
      p3arr C L x1 h (fun x0 h => K .ret (fs [(0, x0)]) h) := by
  rw [execK_seq (a := c3arrl) (b := c3arrr) (by kernel_rfl) (show live [0] c3arrr [0] [] = [1] by kernel_rfl), ep3arrl]
  unfold p3arr
  exact (congr (congrArg (p3arrl C L x1 h) (funext fun x0 => funext fun h => seqK_r _ _ _)) (funext fun x1 => funext fun h => (seqK_n _ _ _).trans (ep3arrr C L x1 h K)))
noncomputable def p3ar (C : CF) (L : Nat) {β : Type} (h : H) (kr : Value → H → Option β) : Option β :=
  p3arl C L h (fun x1 h => p3arr C L x1 h kr)
theorem ep3ar (C : CF) (L : Nat) {β : Type} (h : H) (K : Ex → T Value → H → Option β) :
    execK Tryd.prog C L 1 198 [0] c3ar [0] [] (fs []) h K =
      p3ar C L h (fun x0 h => K .ret (fs [(0, x0)]) h) := by
  rw [execK_seq (a := c3arl) (b := c3arr) (by kernel_rfl) (show live [0] c3arr [0] [] = [1] by kernel_rfl), ep3arl]
  unfold p3ar
  exact (congrArg (p3arl C L h) (funext fun x1 => funext fun h => (seqK_n _ _ _).trans (ep3arr C L x1 h K)))
noncomputable def p3a (C : CF) (L : Nat) {β : Type} (h : H) (kr : Value → H → Option β) : Option β :=
  p3al C L h (fun h => p3ar C L h kr)
theorem ep3a (C : CF) (L : Nat) {β : Type} (h : H) (K : Ex → T Value → H → Option β) :
    execK Tryd.prog C L 1 198 [0] c3a [0] [] (fs []) h K =
      p3a C L h (fun x0 h => K .ret (fs [(0, x0)]) h) := by
  rw [execK_seq (a := c3al) (b := c3ar) (by kernel_rfl) (show live [0] c3ar [0] [] = [] by kernel_rfl), ep3al]
  unfold p3a
  exact (congrArg (p3al C L h) (funext fun h => (seqK_n _ _ _).trans (ep3ar C L h K)))
noncomputable def F3 (C : CF) (L : Nat) (h : H) : Option (Value × H) :=
  p3a C L h
    (fun x0 h => some (x0, h))
theorem F3eq (O : List FuncId) (hO : O.any (Nat.beq 3) = false) (n : Nat) (h : H) : callB Tryd.prog 1 O (n + 1) 3 [] h = F3 (callB Tryd.prog 1 O n) n h := by
  rw [callB_eq hO (c := c3a) (nt := 198) (RR := [0]) (fr := (fs [])) Tryd.func3 (by kernel_rfl) (by kernel_rfl) (by kernel_rfl) (by kernel_rfl) (by kernel_rfl), ep3a]
  kernel_rfl

end Go.Proofs.YtlhppeikbgolbaaDoor.IdsF3
