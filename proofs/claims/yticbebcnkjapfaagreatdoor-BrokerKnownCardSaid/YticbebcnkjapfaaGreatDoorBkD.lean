/-
  Functions of the program over the abstract machine: printed by a program of mine (wip/tools/Dec.lean), each with its equation to the machine's call.
-/
import Derived.Test.YticbebcnkjapfaaGreatDoorProg
import Derived.Test.YticbebcnkjapfaaGreatDoorAmDec
set_option linter.unusedVariables false
set_option maxRecDepth 100000
namespace Go.Proofs.YticbebcnkjapfaaGreatDoor.BkD
open Go Go.AM

noncomputable def Z28 : Value := (.agg ⟨[(.int .i64 0), (.int .i64 0), (.int .i64 0)]⟩)
noncomputable def Z28L : List Value := [(.int .i64 0), (.int .i64 0), (.int .i64 0)]
noncomputable def Z99 : Value := (.pointer none)
noncomputable def Z99L : List Value := [(.pointer none)]
noncomputable def Z103 : Value := (.agg ⟨[(.int .i64 0), (.int .u8 0), (.pointer none), (.bool false), (.string ⟨⟨[]⟩⟩), (.int .i64 0), (.int .i64 0), (.int .i64 0), (.string ⟨⟨[]⟩⟩), (.string ⟨⟨[]⟩⟩)]⟩)
noncomputable def Z103L : List Value := [(.int .i64 0), (.int .u8 0), (.pointer none), (.bool false), (.string ⟨⟨[]⟩⟩), (.int .i64 0), (.int .i64 0), (.int .i64 0), (.string ⟨⟨[]⟩⟩), (.string ⟨⟨[]⟩⟩)]
noncomputable def Z175 : Value := (.agg ⟨[(.int .i64 0), (.slice none 0 0), (.int .i64 0)]⟩)
noncomputable def Z175L : List Value := [(.int .i64 0), (.slice none 0 0), (.int .i64 0)]

/-! F3: relayhouse/relayhouselaw23.BrokerKnown -/
noncomputable def c3a : Code := (Tryz.f3.body).getD .skip
noncomputable def c3al : Code := cL c3a
noncomputable def p3al (C : CF) (L : Nat) {β : Type} (h : H) (kn : H → Option β) : Option β :=
  kn h
theorem ep3al (C : CF) (L : Nat) {β : Type} (h : H) (K : Ex → T Value → H → Option β) :
    execK Tryz.prog C L 0 193 [0] c3al [] [] (fs []) h K =
      p3al C L h (fun h => K .normal (fs []) h) := by
  kernel_rfl
noncomputable def c3ar : Code := cR c3a
noncomputable def c3arl : Code := cL c3ar
noncomputable def p3arl (C : CF) (L : Nat) {β : Type} (h : H) (kn : Value → H → Option β) : Option β :=
  bnd2 (C 4 [] h) fun t12 hq1 =>
  kn t12 hq1
theorem ep3arl (C : CF) (L : Nat) {β : Type} (h : H) (K : Ex → T Value → H → Option β) :
    execK Tryz.prog C L 0 193 [0] c3arl [1] [] (fs []) h K =
      p3arl C L h (fun x1 h => K .normal (fs [(1, x1)]) h) := by
  kernel_rfl
noncomputable def c3arr : Code := cR c3ar
noncomputable def c3arrl : Code := cL c3arr
noncomputable def c3arrll : Code := cL c3arrl
noncomputable def p3arrll (C : CF) (L : Nat) {β : Type} (x1 : Value) (h : H) (kn : Value → Value → H → Option β) : Option β :=
  bnd (A.bin Tryz.prog .eql 22 x1 (.pointer none)) fun t14 =>
  toBK t14 fun b =>
  (bif b then
  kn (.bool true) x1 h
  else
  bnd2 (C 6 [x1] h) fun t17 hq1 =>
  bnd (A.build Z28L [(2, 1, (.int .i64 1))]) fun t18 =>
  bnd2 (A.buildSlice 3 1 Z28L [(0, 3, t18)] hq1) fun t19 hq2 =>
  bnd2 (C 5 [t17, t19] hq2) fun t20 hq3 =>
  toBK t20 fun bq1 =>
  bnd (A.un Tryz.prog .not (.bool bq1)) fun t21 =>
  toBK t21 fun bq2 =>
  (bif bq2 then
  kn (.bool true) x1 hq3
  else
  bnd (A.build Z28L [(2, 1, (.int .i64 1))]) fun t25 =>
  bnd2 (C 7 [x1, t25] hq3) fun t26 hq4 =>
  toBK t26 fun bq3 =>
  bnd (A.un Tryz.prog .not (.bool bq3)) fun t27 =>
  toBK t27 fun bq4 =>
  (bif bq4 then
  kn (.bool true) x1 hq4
  else
  bnd2 (C 6 [x1] hq4) fun t31 hq5 =>
  bnd (A.build Z28L [(0, 1, (.int .i64 1)), (1, 1, (.int .i64 1))]) fun t32 =>
  bnd2 (A.buildSlice 3 1 Z28L [(0, 3, t32)] hq5) fun t33 hq6 =>
  bnd2 (C 5 [t31, t33] hq6) fun t34 hq7 =>
  toBK t34 fun bq5 =>
  bnd (A.un Tryz.prog .not (.bool bq5)) fun t35 =>
  toBK t35 fun bq6 =>
  kn (.bool bq6) x1 hq7)))
theorem ep3arrll (C : CF) (L : Nat) {β : Type} (x1 : Value) (h : H) (K : Ex → T Value → H → Option β) :
    execK Tryz.prog C L 0 193 [0] c3arrll [36, 1] [] (fs [(1, x1)]) h K =
      p3arrll C L x1 h (fun x36 x1 h => K .normal (fs [(36, x36), (1, x1)]) h) := by
  kernel_rfl
noncomputable def c3arrlr : Code := cR c3arrl
noncomputable def p3arrlr (C : CF) (L : Nat) {β : Type} (x36 : Value) (x1 : Value) (h : H) (kr : Value → H → Option β) (kn : Value → H → Option β) : Option β :=
  condV x36 (
  kr (.bool false) h) (
  kn x1 h)
theorem ep3arrlr (C : CF) (L : Nat) {β : Type} (x36 : Value) (x1 : Value) (h : H) (K : Ex → T Value → H → Option β) :
    execK Tryz.prog C L 0 193 [0] c3arrlr [1] [] (fs [(36, x36), (1, x1)]) h K =
      p3arrlr C L x36 x1 h (fun x0 h => K .ret (fs [(0, x0)]) h) (fun x1 h => K .normal (fs [(1, x1)]) h) := by
  kernel_rfl
noncomputable def p3arrl (C : CF) (L : Nat) {β : Type} (x1 : Value) (h : H) (kr : Value → H → Option β) (kn : Value → H → Option β) : Option β :=
  p3arrll C L x1 h (fun x36 x1 h => p3arrlr C L x36 x1 h kr kn)
theorem ep3arrl (C : CF) (L : Nat) {β : Type} (x1 : Value) (h : H) (K : Ex → T Value → H → Option β) :
    execK Tryz.prog C L 0 193 [0] c3arrl [1] [] (fs [(1, x1)]) h K =
      p3arrl C L x1 h (fun x0 h => K .ret (fs [(0, x0)]) h) (fun x1 h => K .normal (fs [(1, x1)]) h) := by
  rw [execK_seq (a := c3arrll) (b := c3arrlr) (by kernel_rfl) (show live [0] c3arrlr [1] [] = [36, 1] by kernel_rfl), ep3arrll]
  unfold p3arrl
  exact (congrArg (p3arrll C L x1 h) (funext fun x36 => funext fun x1 => funext fun h => (seqK_n _ _ _).trans (ep3arrlr C L x36 x1 h K)))
noncomputable def c3arrr : Code := cR c3arr
noncomputable def c3arrrl : Code := cL c3arrr
noncomputable def c3arrrll : Code := cL c3arrrl
noncomputable def p3arrrll (C : CF) (L : Nat) {β : Type} (x1 : Value) (h : H) (kn : Value → Value → H → Option β) : Option β :=
  bnd (A.build Z28L [(2, 1, (.int .i64 1))]) fun t38 =>
  bnd2 (C 7 [x1, t38] h) fun t39 hq1 =>
  toBK t39 fun b =>
  (bif b then
  kn (.bool true) x1 hq1
  else
  bnd (A.build Z28L [(0, 1, (.int .i64 2)), (2, 1, (.int .i64 1))]) fun t42 =>
  bnd2 (C 7 [x1, t42] hq1) fun t43 hq2 =>
  toBK t43 fun bq1 =>
  (bif bq1 then
  kn (.bool true) x1 hq2
  else
  bnd (A.build Z28L [(0, 1, (.int .i64 (-1)))]) fun t47 =>
  bnd2 (C 7 [x1, t47] hq2) fun t48 hq3 =>
  toBK t48 fun bq2 =>
  (bif bq2 then
  kn (.bool true) x1 hq3
  else
  bnd2 (C 8 [x1, (.int .i64 2), (.string ⟨⟨[]⟩⟩)] hq3) fun t52 hq4 =>
  bnd (A.bin Tryz.prog .neq 30 t52 (.int .i64 8)) fun t53 =>
  toBK t53 fun bq3 =>
  (bif bq3 then
  kn (.bool true) x1 hq4
  else
  bnd2 (C 9 [x1, (.int .i64 0)] hq4) fun t57 hq5 =>
  bnd (A.bin Tryz.prog .neq 30 t57 (.int .i64 8)) fun t58 =>
  toBK t58 fun bq4 =>
  (bif bq4 then
  kn (.bool true) x1 hq5
  else
  bnd2 (C 10 [x1, (.int .i64 5)] hq5) fun t62 hq6 =>
  bnd (A.bin Tryz.prog .neq 3 t62 (.int .i64 5)) fun t63 =>
  toBK t63 fun bq5 =>
  (bif bq5 then
  kn (.bool true) x1 hq6
  else
  bnd2 (C 10 [x1, (.int .i64 (-1))] hq6) fun t67 hq7 =>
  bnd (A.bin Tryz.prog .neq 3 t67 (.int .i64 5)) fun t68 =>
  toBK t68 fun bq6 =>
  (bif bq6 then
  kn (.bool true) x1 hq7
  else
  bnd2 (C 10 [x1, (.int .i64 4611686018427387904)] hq7) fun t72 hq8 =>
  bnd (A.bin Tryz.prog .neq 3 t72 (.int .i64 1099511627776)) fun t73 =>
  toBK t73 fun bq7 =>
  kn (.bool bq7) x1 hq8)))))))
theorem ep3arrrll (C : CF) (L : Nat) {β : Type} (x1 : Value) (h : H) (K : Ex → T Value → H → Option β) :
    execK Tryz.prog C L 0 193 [0] c3arrrll [74, 1] [] (fs [(1, x1)]) h K =
      p3arrrll C L x1 h (fun x74 x1 h => K .normal (fs [(74, x74), (1, x1)]) h) := by
  kernel_rfl
noncomputable def c3arrrlr : Code := cR c3arrrl
noncomputable def p3arrrlr (C : CF) (L : Nat) {β : Type} (x74 : Value) (x1 : Value) (h : H) (kr : Value → H → Option β) (kn : Value → H → Option β) : Option β :=
  condV x74 (
  kr (.bool false) h) (
  kn x1 h)
theorem ep3arrrlr (C : CF) (L : Nat) {β : Type} (x74 : Value) (x1 : Value) (h : H) (K : Ex → T Value → H → Option β) :
    execK Tryz.prog C L 0 193 [0] c3arrrlr [1] [] (fs [(74, x74), (1, x1)]) h K =
      p3arrrlr C L x74 x1 h (fun x0 h => K .ret (fs [(0, x0)]) h) (fun x1 h => K .normal (fs [(1, x1)]) h) := by
  kernel_rfl
noncomputable def p3arrrl (C : CF) (L : Nat) {β : Type} (x1 : Value) (h : H) (kr : Value → H → Option β) (kn : Value → H → Option β) : Option β :=
  p3arrrll C L x1 h (fun x74 x1 h => p3arrrlr C L x74 x1 h kr kn)
theorem ep3arrrl (C : CF) (L : Nat) {β : Type} (x1 : Value) (h : H) (K : Ex → T Value → H → Option β) :
    execK Tryz.prog C L 0 193 [0] c3arrrl [1] [] (fs [(1, x1)]) h K =
      p3arrrl C L x1 h (fun x0 h => K .ret (fs [(0, x0)]) h) (fun x1 h => K .normal (fs [(1, x1)]) h) := by
  rw [execK_seq (a := c3arrrll) (b := c3arrrlr) (by kernel_rfl) (show live [0] c3arrrlr [1] [] = [74, 1] by kernel_rfl), ep3arrrll]
  unfold p3arrrl
  exact (congrArg (p3arrrll C L x1 h) (funext fun x74 => funext fun x1 => funext fun h => (seqK_n _ _ _).trans (ep3arrrlr C L x74 x1 h K)))
noncomputable def c3arrrr : Code := cR c3arrr
noncomputable def c3arrrrl : Code := cL c3arrrr
noncomputable def c3arrrrll : Code := cL c3arrrrl
noncomputable def p3arrrrll (C : CF) (L : Nat) {β : Type} (x1 : Value) (h : H) (kn : Value → Value → H → Option β) : Option β :=
  kn (.int .i64 2) x1 h
theorem ep3arrrrll (C : CF) (L : Nat) {β : Type} (x1 : Value) (h : H) (K : Ex → T Value → H → Option β) :
    execK Tryz.prog C L 0 193 [0] c3arrrrll [2, 1] [] (fs [(1, x1)]) h K =
      p3arrrrll C L x1 h (fun x2 x1 h => K .normal (fs [(2, x2), (1, x1)]) h) := by
  kernel_rfl
noncomputable def c3arrrrlr : Code := cR c3arrrrl
noncomputable def c3arrrrlrb : Code := cL c3arrrrlr
noncomputable def c3arrrrlrbo : Code := cL c3arrrrlrb
noncomputable def c3arrrrlrbol : Code := cL c3arrrrlrbo
noncomputable def p3arrrrlrbol (C : CF) (L : Nat) {β : Type} (x2 : Value) (x1 : Value) (h : H) (kn : Value → Value → H → Option β) (kx0 : Value → H → Option β) : Option β :=
  bnd (A.bin Tryz.prog .leq 3 x2 (.int .i64 4096)) fun t76 =>
  toBK t76 fun b =>
  (bif b then
  kn x2 x1 h
  else
  kx0 x1 h)
theorem ep3arrrrlrbol (C : CF) (L : Nat) {β : Type} (x2 : Value) (x1 : Value) (h : H) (K : Ex → T Value → H → Option β) :
    execK Tryz.prog C L 0 193 [0] c3arrrrlrbol [2, 1] [(0, [1])] (fs [(2, x2), (1, x1)]) h K =
      p3arrrrlrbol C L x2 x1 h (fun x2 x1 h => K .normal (fs [(2, x2), (1, x1)]) h) (fun x1 h => K (.exit 0) (fs [(1, x1)]) h) := by
  kernel_rfl
noncomputable def c3arrrrlrbor : Code := cR c3arrrrlrbo
noncomputable def c3arrrrlrborl : Code := cL c3arrrrlrbor
noncomputable def c3arrrrlrborlb : Code := cL c3arrrrlrborl
noncomputable def p3arrrrlrborlb (C : CF) (L : Nat) {β : Type} (x2 : Value) (x1 : Value) (h : H) (kr : Value → H → Option β) (kn : Value → Value → H → Option β) : Option β :=
  bnd2 (C 11 [x1] h) fun t81 hq1 =>
  bnd (A.extract 0 t81) fun t82 =>
  bnd (A.extract 1 t81) fun t83 =>
  bnd (A.bin Tryz.prog .neq 3 t82 x2) fun t86 =>
  toBK t86 fun b =>
  (bif b then
  kr (.bool false) hq1
  else
  bnd (A.bin Tryz.prog .neq 30 t83 (.int .i64 0)) fun t89 =>
  toBK t89 fun bq1 =>
  (bif bq1 then
  kr (.bool false) hq1
  else
  kn x2 x1 hq1))
theorem ep3arrrrlrborlb (C : CF) (L : Nat) {β : Type} (x2 : Value) (x1 : Value) (h : H) (K : Ex → T Value → H → Option β) :
    execK Tryz.prog C L 0 193 [0] c3arrrrlrborlb [2, 1] [(1, [2, 1]), (0, [1])] (fs [(2, x2), (1, x1)]) h K =
      p3arrrrlrborlb C L x2 x1 h (fun x0 h => K .ret (fs [(0, x0)]) h) (fun x2 x1 h => K .normal (fs [(2, x2), (1, x1)]) h) := by
  kernel_rfl
noncomputable def p3arrrrlrborl (C : CF) (L : Nat) {β : Type} (x2 : Value) (x1 : Value) (h : H) (kr : Value → H → Option β) (kn : Value → Value → H → Option β) : Option β :=
  p3arrrrlrborlb C L x2 x1 h kr kn
theorem ep3arrrrlrborl (C : CF) (L : Nat) {β : Type} (x2 : Value) (x1 : Value) (h : H) (K : Ex → T Value → H → Option β) :
    execK Tryz.prog C L 0 193 [0] c3arrrrlrborl [2, 1] [(0, [1])] (fs [(2, x2), (1, x1)]) h K =
      p3arrrrlrborl C L x2 x1 h (fun x0 h => K .ret (fs [(0, x0)]) h) (fun x2 x1 h => K .normal (fs [(2, x2), (1, x1)]) h) := by
  rw [execK_block (b := c3arrrrlrborlb) (id := 1) (by kernel_rfl), ep3arrrrlrborlb]
  unfold p3arrrrlrborl
  rfl
noncomputable def c3arrrrlrborr : Code := cR c3arrrrlrbor
noncomputable def p3arrrrlrborr (C : CF) (L : Nat) {β : Type} (x2 : Value) (x1 : Value) (h : H) (kn : Value → Value → H → Option β) : Option β :=
  bnd (A.bin Tryz.prog .add 3 x2 (.int .i64 1)) fun t78 =>
  kn t78 x1 h
theorem ep3arrrrlrborr (C : CF) (L : Nat) {β : Type} (x2 : Value) (x1 : Value) (h : H) (K : Ex → T Value → H → Option β) :
    execK Tryz.prog C L 0 193 [0] c3arrrrlrborr [2, 1] [(0, [1])] (fs [(2, x2), (1, x1)]) h K =
      p3arrrrlrborr C L x2 x1 h (fun x2 x1 h => K .normal (fs [(2, x2), (1, x1)]) h) := by
  kernel_rfl
noncomputable def p3arrrrlrbor (C : CF) (L : Nat) {β : Type} (x2 : Value) (x1 : Value) (h : H) (kn : Value → Value → H → Option β) (kr : Value → H → Option β) : Option β :=
  p3arrrrlrborl C L x2 x1 h kr (fun x2 x1 h => p3arrrrlrborr C L x2 x1 h kn)
theorem ep3arrrrlrbor (C : CF) (L : Nat) {β : Type} (x2 : Value) (x1 : Value) (h : H) (K : Ex → T Value → H → Option β) :
    execK Tryz.prog C L 0 193 [0] c3arrrrlrbor [2, 1] [(0, [1])] (fs [(2, x2), (1, x1)]) h K =
      p3arrrrlrbor C L x2 x1 h (fun x2 x1 h => K .normal (fs [(2, x2), (1, x1)]) h) (fun x0 h => K .ret (fs [(0, x0)]) h) := by
  rw [execK_seq (a := c3arrrrlrborl) (b := c3arrrrlrborr) (by kernel_rfl) (show live [0] c3arrrrlrborr [2, 1] [(0, [1])] = [2, 1] by kernel_rfl), ep3arrrrlrborl]
  unfold p3arrrrlrbor
  exact (congr (congrArg (p3arrrrlrborl C L x2 x1 h) (funext fun x0 => funext fun h => seqK_r _ _ _)) (funext fun x2 => funext fun x1 => funext fun h => (seqK_n _ _ _).trans (ep3arrrrlrborr C L x2 x1 h K)))
noncomputable def p3arrrrlrbo (C : CF) (L : Nat) {β : Type} (x2 : Value) (x1 : Value) (h : H) (kn : Value → Value → H → Option β) (kr : Value → H → Option β) (kx0 : Value → H → Option β) : Option β :=
  p3arrrrlrbol C L x2 x1 h (fun x2 x1 h => p3arrrrlrbor C L x2 x1 h kn kr) kx0
theorem ep3arrrrlrbo (C : CF) (L : Nat) {β : Type} (x2 : Value) (x1 : Value) (h : H) (K : Ex → T Value → H → Option β) :
    execK Tryz.prog C L 0 193 [0] c3arrrrlrbo [2, 1] [(0, [1])] (fs [(2, x2), (1, x1)]) h K =
      p3arrrrlrbo C L x2 x1 h (fun x2 x1 h => K .normal (fs [(2, x2), (1, x1)]) h) (fun x0 h => K .ret (fs [(0, x0)]) h) (fun x1 h => K (.exit 0) (fs [(1, x1)]) h) := by
  rw [execK_seq (a := c3arrrrlrbol) (b := c3arrrrlrbor) (by kernel_rfl) (show live [0] c3arrrrlrbor [2, 1] [(0, [1])] = [2, 1] by kernel_rfl), ep3arrrrlrbol]
  unfold p3arrrrlrbo
  exact (congr (congrArg (p3arrrrlrbol C L x2 x1 h) (funext fun x2 => funext fun x1 => funext fun h => (seqK_n _ _ _).trans (ep3arrrrlrbor C L x2 x1 h K))) (funext fun x1 => funext fun h => seqK_x _ _ _ _))
noncomputable def p3arrrrlrbw (C : CF) (L : Nat) {β : Type} (kr : Value → H → Option β) (kx0 : Value → H → Option β) : Nat → Value → Value → H → Option β
  | 0, _, _, _ => none
  | n + 1, x2, x1, h => p3arrrrlrbo C L x2 x1 h (fun x2 x1 h => p3arrrrlrbw C L kr kx0 n x2 x1 h) kr kx0
theorem ep3arrrrlrbw (C : CF) (L : Nat) {β : Type} (K : Ex → T Value → H → Option β) : ∀ (n : Nat) (x2 : Value) (x1 : Value) (h : H),
    loopK (fun fr h K => execK Tryz.prog C L 0 193 [0] c3arrrrlrbo [2, 1] [(0, [1])] fr h K) n (fs [(2, x2), (1, x1)]) h K =
      p3arrrrlrbw C L (fun x0 h => K .ret (fs [(0, x0)]) h) (fun x1 h => K (.exit 0) (fs [(1, x1)]) h) n x2 x1 h := by
  intro n
  induction n with
  | zero => intros; rfl
  | succ n ih =>
    intros
    simp only [loopK]
    rw [ep3arrrrlrbo]
    simp only [seqK_n, seqK_x, seqK_r, ih]
    rfl
noncomputable def p3arrrrlrb (C : CF) (L : Nat) {β : Type} (x2 : Value) (x1 : Value) (h : H) (kr : Value → H → Option β) (kx0 : Value → H → Option β) : Option β :=
  p3arrrrlrbw C L kr kx0 L x2 x1 h
theorem ep3arrrrlrb (C : CF) (L : Nat) {β : Type} (x2 : Value) (x1 : Value) (h : H) (K : Ex → T Value → H → Option β) :
    execK Tryz.prog C L 0 193 [0] c3arrrrlrb [1] [(0, [1])] (fs [(2, x2), (1, x1)]) h K =
      p3arrrrlrb C L x2 x1 h (fun x0 h => K .ret (fs [(0, x0)]) h) (fun x1 h => K (.exit 0) (fs [(1, x1)]) h) := by
  rw [execK_loop (b := c3arrrrlrbo) (fr1 := (fs [(2, x2), (1, x1)])) (by kernel_rfl) (show live [0] c3arrrrlrbo [] [(0, [1])] = [2, 1] by kernel_rfl) (by kernel_rfl), ep3arrrrlrbw]
  unfold p3arrrrlrb
  rfl
noncomputable def p3arrrrlr (C : CF) (L : Nat) {β : Type} (x2 : Value) (x1 : Value) (h : H) (kr : Value → H → Option β) (kn : Value → H → Option β) : Option β :=
  p3arrrrlrb C L x2 x1 h kr kn
theorem ep3arrrrlr (C : CF) (L : Nat) {β : Type} (x2 : Value) (x1 : Value) (h : H) (K : Ex → T Value → H → Option β) :
    execK Tryz.prog C L 0 193 [0] c3arrrrlr [1] [] (fs [(2, x2), (1, x1)]) h K =
      p3arrrrlr C L x2 x1 h (fun x0 h => K .ret (fs [(0, x0)]) h) (fun x1 h => K .normal (fs [(1, x1)]) h) := by
  rw [execK_block (b := c3arrrrlrb) (id := 0) (by kernel_rfl), ep3arrrrlrb]
  unfold p3arrrrlr
  rfl
noncomputable def p3arrrrl (C : CF) (L : Nat) {β : Type} (x1 : Value) (h : H) (kr : Value → H → Option β) (kn : Value → H → Option β) : Option β :=
  p3arrrrll C L x1 h (fun x2 x1 h => p3arrrrlr C L x2 x1 h kr kn)
theorem ep3arrrrl (C : CF) (L : Nat) {β : Type} (x1 : Value) (h : H) (K : Ex → T Value → H → Option β) :
    execK Tryz.prog C L 0 193 [0] c3arrrrl [1] [] (fs [(1, x1)]) h K =
      p3arrrrl C L x1 h (fun x0 h => K .ret (fs [(0, x0)]) h) (fun x1 h => K .normal (fs [(1, x1)]) h) := by
  rw [execK_seq (a := c3arrrrll) (b := c3arrrrlr) (by kernel_rfl) (show live [0] c3arrrrlr [1] [] = [2, 1] by kernel_rfl), ep3arrrrll]
  unfold p3arrrrl
  exact (congrArg (p3arrrrll C L x1 h) (funext fun x2 => funext fun x1 => funext fun h => (seqK_n _ _ _).trans (ep3arrrrlr C L x2 x1 h K)))
noncomputable def c3arrrrr : Code := cR c3arrrr
noncomputable def c3arrrrrl : Code := cL c3arrrrr
noncomputable def p3arrrrrl (C : CF) (L : Nat) {β : Type} (x1 : Value) (h : H) (kn : Value → Value → H → Option β) : Option β :=
  bnd2 (C 11 [x1] h) fun t93 hq1 =>
  bnd (A.extract 0 t93) fun t94 =>
  bnd (A.extract 1 t93) fun t95 =>
  kn t94 t95 hq1
theorem ep3arrrrrl (C : CF) (L : Nat) {β : Type} (x1 : Value) (h : H) (K : Ex → T Value → H → Option β) :
    execK Tryz.prog C L 0 193 [0] c3arrrrrl [5, 6] [] (fs [(1, x1)]) h K =
      p3arrrrrl C L x1 h (fun x5 x6 h => K .normal (fs [(5, x5), (6, x6)]) h) := by
  kernel_rfl
noncomputable def c3arrrrrr : Code := cR c3arrrrr
noncomputable def c3arrrrrrl : Code := cL c3arrrrrr
noncomputable def p3arrrrrrl (C : CF) (L : Nat) {β : Type} (x5 : Value) (x6 : Value) (h : H) (kn : Value → Value → Value → H → Option β) : Option β :=
  kn (.pointer none) x5 x6 h
theorem ep3arrrrrrl (C : CF) (L : Nat) {β : Type} (x5 : Value) (x6 : Value) (h : H) (K : Ex → T Value → H → Option β) :
    execK Tryz.prog C L 0 193 [0] c3arrrrrrl [7, 5, 6] [] (fs [(5, x5), (6, x6)]) h K =
      p3arrrrrrl C L x5 x6 h (fun x7 x5 x6 h => K .normal (fs [(7, x7), (5, x5), (6, x6)]) h) := by
  kernel_rfl
noncomputable def c3arrrrrrr : Code := cR c3arrrrrr
noncomputable def c3arrrrrrrl : Code := cL c3arrrrrrr
noncomputable def p3arrrrrrrl (C : CF) (L : Nat) {β : Type} (x7 : Value) (x5 : Value) (x6 : Value) (h : H) (kn : Value → Value → Value → Value → Value → H → Option β) : Option β :=
  bnd2 (C 11 [x7] h) fun t98 hq1 =>
  bnd (A.extract 0 t98) fun t99 =>
  bnd (A.extract 1 t98) fun t100 =>
  kn t99 t100 x7 x5 x6 hq1
theorem ep3arrrrrrrl (C : CF) (L : Nat) {β : Type} (x7 : Value) (x5 : Value) (x6 : Value) (h : H) (K : Ex → T Value → H → Option β) :
    execK Tryz.prog C L 0 193 [0] c3arrrrrrrl [8, 9, 7, 5, 6] [] (fs [(7, x7), (5, x5), (6, x6)]) h K =
      p3arrrrrrrl C L x7 x5 x6 h (fun x8 x9 x7 x5 x6 h => K .normal (fs [(8, x8), (9, x9), (7, x7), (5, x5), (6, x6)]) h) := by
  kernel_rfl
noncomputable def c3arrrrrrrr : Code := cR c3arrrrrrr
noncomputable def c3arrrrrrrrl : Code := cL c3arrrrrrrr
noncomputable def p3arrrrrrrrl (C : CF) (L : Nat) {β : Type} (x8 : Value) (x9 : Value) (x7 : Value) (x5 : Value) (x6 : Value) (h : H) (kn : Value → Value → Value → Value → H → Option β) : Option β :=
  bnd (A.bin Tryz.prog .eql 3 x8 (.int .i64 0)) fun t102 =>
  toBK t102 fun b =>
  (bif b then
  bnd (A.bin Tryz.prog .eql 30 x9 (.int .i64 8)) fun t105 =>
  toBK t105 fun bq1 =>
  (bif bq1 then
  bnd2 (C 8 [x7, (.int .i64 1), (.string ⟨⟨[]⟩⟩)] h) fun t109 hq1 =>
  bnd (A.bin Tryz.prog .eql 30 t109 (.int .i64 8)) fun t110 =>
  toBK t110 fun bq2 =>
  (bif bq2 then
  bnd2 (C 9 [x7, (.int .i64 1)] hq1) fun t114 hq2 =>
  bnd (A.bin Tryz.prog .eql 30 t114 (.int .i64 8)) fun t115 =>
  toBK t115 fun bq3 =>
  (bif bq3 then
  bnd2 (C 10 [x7, (.int .i64 1)] hq2) fun t119 hq3 =>
  bnd (A.bin Tryz.prog .eql 3 t119 (.int .i64 0)) fun t120 =>
  toBK t120 fun bq4 =>
  (bif bq4 then
  bnd (A.build Z28L []) fun t124 =>
  bnd2 (C 7 [x7, t124] hq3) fun t125 hq4 =>
  toBK t125 fun bq5 =>
  bnd (A.un Tryz.prog .not (.bool bq5)) fun t126 =>
  toBK t126 fun bq6 =>
  (bif bq6 then
  bnd2 (C 6 [x7] hq4) fun t130 hq5 =>
  bnd (A.lenS t130) fun t131 =>
  bnd (A.bin Tryz.prog .eql 3 t131 (.int .i64 0)) fun t132 =>
  toBK t132 fun bq7 =>
  (bif bq7 then
  bnd2 (C 12 [x7, (.int .i64 1)] hq5) fun t136 hq6 =>
  bnd2 (C 13 [x7, (.int .i64 1)] hq6) fun t138 hq7 =>
  bnd (A.bin Tryz.prog .add 9 t136 t138) fun t139 =>
  bnd (A.bin Tryz.prog .eql 9 t139 (.string ⟨⟨[]⟩⟩)) fun t140 =>
  toBK t140 fun bq8 =>
  (bif bq8 then
  bnd2 (C 14 [x7, (.int .i64 1)] hq7) fun t144 hq8 =>
  bnd (A.bin Tryz.prog .eql 5 t144 (.int .u8 0)) fun t145 =>
  toBK t145 fun bq9 =>
  (bif bq9 then
  bnd2 (C 15 [x7, (.string ⟨⟨[120]⟩⟩)] hq8) fun t149 hq9 =>
  bnd (A.bin Tryz.prog .eql 3 t149 (.int .i64 0)) fun t150 =>
  toBK t150 fun bq10 =>
  kn x7 x5 x6 (.bool bq10) hq9
  else
  kn x7 x5 x6 (.bool false) hq8)
  else
  kn x7 x5 x6 (.bool false) hq7)
  else
  kn x7 x5 x6 (.bool false) hq5)
  else
  kn x7 x5 x6 (.bool false) hq4)
  else
  kn x7 x5 x6 (.bool false) hq3)
  else
  kn x7 x5 x6 (.bool false) hq2)
  else
  kn x7 x5 x6 (.bool false) hq1)
  else
  kn x7 x5 x6 (.bool false) h)
  else
  kn x7 x5 x6 (.bool false) h)
theorem ep3arrrrrrrrl (C : CF) (L : Nat) {β : Type} (x8 : Value) (x9 : Value) (x7 : Value) (x5 : Value) (x6 : Value) (h : H) (K : Ex → T Value → H → Option β) :
    execK Tryz.prog C L 0 193 [0] c3arrrrrrrrl [7, 5, 6, 10] [] (fs [(8, x8), (9, x9), (7, x7), (5, x5), (6, x6)]) h K =
      p3arrrrrrrrl C L x8 x9 x7 x5 x6 h (fun x7 x5 x6 x10 h => K .normal (fs [(7, x7), (5, x5), (6, x6), (10, x10)]) h) := by
  kernel_rfl
noncomputable def c3arrrrrrrrr : Code := cR c3arrrrrrrr
noncomputable def c3arrrrrrrrrl : Code := cL c3arrrrrrrrr
noncomputable def p3arrrrrrrrrl (C : CF) (L : Nat) {β : Type} (x7 : Value) (x5 : Value) (x6 : Value) (x10 : Value) (h : H) (kn : Value → Value → Value → Value → H → Option β) : Option β :=
  bnd2 (C 16 [x7] h) fun t153 hq1 =>
  bnd (A.lenS t153) fun t154 =>
  bnd (A.bin Tryz.prog .eql 3 t154 (.int .i64 0)) fun t155 =>
  toBK t155 fun b =>
  (bif b then
  bnd2 (C 17 [x7] hq1) fun t158 hq2 =>
  bnd (A.lenS t158) fun t159 =>
  bnd (A.bin Tryz.prog .eql 3 t159 (.int .i64 0)) fun t160 =>
  toBK t160 fun bq1 =>
  (bif bq1 then
  bnd2 (C 18 [x7] hq2) fun t164 hq3 =>
  bnd (A.lenS t164) fun t165 =>
  bnd (A.bin Tryz.prog .eql 3 t165 (.int .i64 0)) fun t166 =>
  toBK t166 fun bq2 =>
  (bif bq2 then
  bnd2 (C 19 [x7] hq3) fun t170 hq4 =>
  bnd (A.lenS t170) fun t171 =>
  bnd (A.bin Tryz.prog .eql 3 t171 (.int .i64 0)) fun t172 =>
  toBK t172 fun bq3 =>
  (bif bq3 then
  bnd2 (C 20 [x7] hq4) fun t176 hq5 =>
  toBK t176 fun bq4 =>
  kn x5 x6 x10 (.bool bq4) hq5
  else
  kn x5 x6 x10 (.bool false) hq4)
  else
  kn x5 x6 x10 (.bool false) hq3)
  else
  kn x5 x6 x10 (.bool false) hq2)
  else
  kn x5 x6 x10 (.bool false) hq1)
theorem ep3arrrrrrrrrl (C : CF) (L : Nat) {β : Type} (x7 : Value) (x5 : Value) (x6 : Value) (x10 : Value) (h : H) (K : Ex → T Value → H → Option β) :
    execK Tryz.prog C L 0 193 [0] c3arrrrrrrrrl [5, 6, 10, 11] [] (fs [(7, x7), (5, x5), (6, x6), (10, x10)]) h K =
      p3arrrrrrrrrl C L x7 x5 x6 x10 h (fun x5 x6 x10 x11 h => K .normal (fs [(5, x5), (6, x6), (10, x10), (11, x11)]) h) := by
  kernel_rfl
noncomputable def c3arrrrrrrrrr : Code := cR c3arrrrrrrrr
noncomputable def p3arrrrrrrrrr (C : CF) (L : Nat) {β : Type} (x5 : Value) (x6 : Value) (x10 : Value) (x11 : Value) (h : H) (kr : Value → H → Option β) : Option β :=
  bnd (A.bin Tryz.prog .eql 3 x5 (.int .i64 0)) fun t179 =>
  toBK t179 fun b =>
  (bif b then
  bnd (A.bin Tryz.prog .eql 30 x6 (.int .i64 7)) fun t182 =>
  toBK t182 fun bq1 =>
  (bif bq1 then
  toBK x10 fun bq2 =>
  (bif bq2 then
  toBK x11 fun bq3 =>
  (bif bq3 then
  bnd2 (C 21 [] h) fun t191 hq1 =>
  toBK t191 fun bq4 =>
  kr (.bool bq4) hq1
  else
  kr (.bool false) h)
  else
  kr (.bool false) h)
  else
  kr (.bool false) h)
  else
  kr (.bool false) h)
theorem ep3arrrrrrrrrr (C : CF) (L : Nat) {β : Type} (x5 : Value) (x6 : Value) (x10 : Value) (x11 : Value) (h : H) (K : Ex → T Value → H → Option β) :
    execK Tryz.prog C L 0 193 [0] c3arrrrrrrrrr [0] [] (fs [(5, x5), (6, x6), (10, x10), (11, x11)]) h K =
      p3arrrrrrrrrr C L x5 x6 x10 x11 h (fun x0 h => K .ret (fs [(0, x0)]) h) := by
  kernel_rfl
noncomputable def p3arrrrrrrrr (C : CF) (L : Nat) {β : Type} (x7 : Value) (x5 : Value) (x6 : Value) (x10 : Value) (h : H) (kr : Value → H → Option β) : Option β :=
  p3arrrrrrrrrl C L x7 x5 x6 x10 h (fun x5 x6 x10 x11 h => p3arrrrrrrrrr C L x5 x6 x10 x11 h kr)
theorem ep3arrrrrrrrr (C : CF) (L : Nat) {β : Type} (x7 : Value) (x5 : Value) (x6 : Value) (x10 : Value) (h : H) (K : Ex → T Value → H → Option β) :
    execK Tryz.prog C L 0 193 [0] c3arrrrrrrrr [0] [] (fs [(7, x7), (5, x5), (6, x6), (10, x10)]) h K =
      p3arrrrrrrrr C L x7 x5 x6 x10 h (fun x0 h => K .ret (fs [(0, x0)]) h) := by
  rw [execK_seq (a := c3arrrrrrrrrl) (b := c3arrrrrrrrrr) (by kernel_rfl) (show live [0] c3arrrrrrrrrr [0] [] = [5, 6, 10, 11] by kernel_rfl), ep3arrrrrrrrrl]
  unfold p3arrrrrrrrr
  exact (congrArg (p3arrrrrrrrrl C L x7 x5 x6 x10 h) (funext fun x5 => funext fun x6 => funext fun x10 => funext fun x11 => funext fun h => (seqK_n _ _ _).trans (ep3arrrrrrrrrr C L x5 x6 x10 x11 h K)))
noncomputable def p3arrrrrrrr (C : CF) (L : Nat) {β : Type} (x8 : Value) (x9 : Value) (x7 : Value) (x5 : Value) (x6 : Value) (h : H) (kr : Value → H → Option β) : Option β :=
  p3arrrrrrrrl C L x8 x9 x7 x5 x6 h (fun x7 x5 x6 x10 h => p3arrrrrrrrr C L x7 x5 x6 x10 h kr)
theorem ep3arrrrrrrr (C : CF) (L : Nat) {β : Type} (x8 : Value) (x9 : Value) (x7 : Value) (x5 : Value) (x6 : Value) (h : H) (K : Ex → T Value → H → Option β) :
    execK Tryz.prog C L 0 193 [0] c3arrrrrrrr [0] [] (fs [(8, x8), (9, x9), (7, x7), (5, x5), (6, x6)]) h K =
      p3arrrrrrrr C L x8 x9 x7 x5 x6 h (fun x0 h => K .ret (fs [(0, x0)]) h) := by
  rw [execK_seq (a := c3arrrrrrrrl) (b := c3arrrrrrrrr) (by kernel_rfl) (show live [0] c3arrrrrrrrr [0] [] = [7, 5, 6, 10] by kernel_rfl), ep3arrrrrrrrl]
  unfold p3arrrrrrrr
  exact (congrArg (p3arrrrrrrrl C L x8 x9 x7 x5 x6 h) (funext fun x7 => funext fun x5 => funext fun x6 => funext fun x10 => funext fun h => (seqK_n _ _ _).trans (ep3arrrrrrrrr C L x7 x5 x6 x10 h K)))
noncomputable def p3arrrrrrr (C : CF) (L : Nat) {β : Type} (x7 : Value) (x5 : Value) (x6 : Value) (h : H) (kr : Value → H → Option β) : Option β :=
  p3arrrrrrrl C L x7 x5 x6 h (fun x8 x9 x7 x5 x6 h => p3arrrrrrrr C L x8 x9 x7 x5 x6 h kr)
theorem ep3arrrrrrr (C : CF) (L : Nat) {β : Type} (x7 : Value) (x5 : Value) (x6 : Value) (h : H) (K : Ex → T Value → H → Option β) :
    execK Tryz.prog C L 0 193 [0] c3arrrrrrr [0] [] (fs [(7, x7), (5, x5), (6, x6)]) h K =
      p3arrrrrrr C L x7 x5 x6 h (fun x0 h => K .ret (fs [(0, x0)]) h) := by
  rw [execK_seq (a := c3arrrrrrrl) (b := c3arrrrrrrr) (by kernel_rfl) (show live [0] c3arrrrrrrr [0] [] = [8, 9, 7, 5, 6] by kernel_rfl), ep3arrrrrrrl]
  unfold p3arrrrrrr
  exact (congrArg (p3arrrrrrrl C L x7 x5 x6 h) (funext fun x8 => funext fun x9 => funext fun x7 => funext fun x5 => funext fun x6 => funext fun h => (seqK_n _ _ _).trans (ep3arrrrrrrr C L x8 x9 x7 x5 x6 h K)))
noncomputable def p3arrrrrr (C : CF) (L : Nat) {β : Type} (x5 : Value) (x6 : Value) (h : H) (kr : Value → H → Option β) : Option β :=
  p3arrrrrrl C L x5 x6 h (fun x7 x5 x6 h => p3arrrrrrr C L x7 x5 x6 h kr)
theorem ep3arrrrrr (C : CF) (L : Nat) {β : Type} (x5 : Value) (x6 : Value) (h : H) (K : Ex → T Value → H → Option β) :
    execK Tryz.prog C L 0 193 [0] c3arrrrrr [0] [] (fs [(5, x5), (6, x6)]) h K =
      p3arrrrrr C L x5 x6 h (fun x0 h => K .ret (fs [(0, x0)]) h) := by
  rw [execK_seq (a := c3arrrrrrl) (b := c3arrrrrrr) (by kernel_rfl) (show live [0] c3arrrrrrr [0] [] = [7, 5, 6] by kernel_rfl), ep3arrrrrrl]
  unfold p3arrrrrr
  exact (congrArg (p3arrrrrrl C L x5 x6 h) (funext fun x7 => funext fun x5 => funext fun x6 => funext fun h => (seqK_n _ _ _).trans (ep3arrrrrrr C L x7 x5 x6 h K)))
noncomputable def p3arrrrr (C : CF) (L : Nat) {β : Type} (x1 : Value) (h : H) (kr : Value → H → Option β) : Option β :=
  p3arrrrrl C L x1 h (fun x5 x6 h => p3arrrrrr C L x5 x6 h kr)
theorem ep3arrrrr (C : CF) (L : Nat) {β : Type} (x1 : Value) (h : H) (K : Ex → T Value → H → Option β) :
    execK Tryz.prog C L 0 193 [0] c3arrrrr [0] [] (fs [(1, x1)]) h K =
      p3arrrrr C L x1 h (fun x0 h => K .ret (fs [(0, x0)]) h) := by
  rw [execK_seq (a := c3arrrrrl) (b := c3arrrrrr) (by kernel_rfl) (show live [0] c3arrrrrr [0] [] = [5, 6] by kernel_rfl), ep3arrrrrl]
  unfold p3arrrrr
  exact (congrArg (p3arrrrrl C L x1 h) (funext fun x5 => funext fun x6 => funext fun h => (seqK_n _ _ _).trans (ep3arrrrrr C L x5 x6 h K)))
noncomputable def p3arrrr (C : CF) (L : Nat) {β : Type} (x1 : Value) (h : H) (kr : Value → H → Option β) : Option β :=
  p3arrrrl C L x1 h kr (fun x1 h => p3arrrrr C L x1 h kr)
theorem ep3arrrr (C : CF) (L : Nat) {β : Type} (x1 : Value) (h : H) (K : Ex → T Value → H → Option β) :
    execK Tryz.prog C L 0 193 [0] c3arrrr [0] [] (fs [(1, x1)]) h K =
      p3arrrr C L x1 h (fun x0 h => K .ret (fs [(0, x0)]) h) := by
  rw [execK_seq (a := c3arrrrl) (b := c3arrrrr) (by kernel_rfl) (show live [0] c3arrrrr [0] [] = [1] by kernel_rfl), ep3arrrrl]
  unfold p3arrrr
  exact (congr (congrArg (p3arrrrl C L x1 h) (funext fun x0 => funext fun h => seqK_r _ _ _)) (funext fun x1 => funext fun h => (seqK_n _ _ _).trans (ep3arrrrr C L x1 h K)))
noncomputable def p3arrr (C : CF) (L : Nat) {β : Type} (x1 : Value) (h : H) (kr : Value → H → Option β) : Option β :=
  p3arrrl C L x1 h kr (fun x1 h => p3arrrr C L x1 h kr)
theorem ep3arrr (C : CF) (L : Nat) {β : Type} (x1 : Value) (h : H) (K : Ex → T Value → H → Option β) :
    execK Tryz.prog C L 0 193 [0] c3arrr [0] [] (fs [(1, x1)]) h K =
      p3arrr C L x1 h (fun x0 h => K .ret (fs [(0, x0)]) h) := by
  rw [execK_seq (a := c3arrrl) (b := c3arrrr) (by kernel_rfl) (show live [0] c3arrrr [0] [] = [1] by kernel_rfl), ep3arrrl]
  unfold p3arrr
  exact (congr (congrArg (p3arrrl C L x1 h) (funext fun x0 => funext fun h => seqK_r _ _ _)) (funext fun x1 => funext fun h => (seqK_n _ _ _).trans (ep3arrrr C L x1 h K)))
noncomputable def p3arr (C : CF) (L : Nat) {β : Type} (x1 : Value) (h : H) (kr : Value → H → Option β) : Option β :=
  p3arrl C L x1 h kr (fun x1 h => p3arrr C L x1 h kr)
theorem ep3arr (C : CF) (L : Nat) {β : Type} (x1 : Value) (h : H) (K : Ex → T Value → H → Option β) :
    execK Tryz.prog C L 0 193 [0] c3arr [0] [] (fs [(1, x1)]) h K =
      p3arr C L x1 h (fun x0 h => K .ret (fs [(0, x0)]) h) := by
  rw [execK_seq (a := c3arrl) (b := c3arrr) (by kernel_rfl) (show live [0] c3arrr [0] [] = [1] by kernel_rfl), ep3arrl]
  unfold p3arr
  exact (congr (congrArg (p3arrl C L x1 h) (funext fun x0 => funext fun h => seqK_r _ _ _)) (funext fun x1 => funext fun h => (seqK_n _ _ _).trans (ep3arrr C L x1 h K)))
noncomputable def p3ar (C : CF) (L : Nat) {β : Type} (h : H) (kr : Value → H → Option β) : Option β :=
  p3arl C L h (fun x1 h => p3arr C L x1 h kr)
theorem ep3ar (C : CF) (L : Nat) {β : Type} (h : H) (K : Ex → T Value → H → Option β) :
    execK Tryz.prog C L 0 193 [0] c3ar [0] [] (fs []) h K =
      p3ar C L h (fun x0 h => K .ret (fs [(0, x0)]) h) := by
  rw [execK_seq (a := c3arl) (b := c3arr) (by kernel_rfl) (show live [0] c3arr [0] [] = [1] by kernel_rfl), ep3arl]
  unfold p3ar
  exact (congrArg (p3arl C L h) (funext fun x1 => funext fun h => (seqK_n _ _ _).trans (ep3arr C L x1 h K)))
noncomputable def p3a (C : CF) (L : Nat) {β : Type} (h : H) (kr : Value → H → Option β) : Option β :=
  p3al C L h (fun h => p3ar C L h kr)
theorem ep3a (C : CF) (L : Nat) {β : Type} (h : H) (K : Ex → T Value → H → Option β) :
    execK Tryz.prog C L 0 193 [0] c3a [0] [] (fs []) h K =
      p3a C L h (fun x0 h => K .ret (fs [(0, x0)]) h) := by
  rw [execK_seq (a := c3al) (b := c3ar) (by kernel_rfl) (show live [0] c3ar [0] [] = [] by kernel_rfl), ep3al]
  unfold p3a
  exact (congrArg (p3al C L h) (funext fun h => (seqK_n _ _ _).trans (ep3ar C L h K)))
noncomputable def F3 (C : CF) (L : Nat) (h : H) : Option (Value × H) :=
  p3a C L h
    (fun x0 h => some (x0, h))
theorem F3eq (O : List FuncId) (hO : O.any (Nat.beq 3) = false) (n : Nat) (h : H) : callB Tryz.prog 0 O (n + 1) 3 [] h = F3 (callB Tryz.prog 0 O n) n h := by
  rw [callB_eq hO (c := c3a) (nt := 193) (RR := [0]) (fr := (fs [])) Tryz.func3 (by kernel_rfl) (by kernel_rfl) (by kernel_rfl) (by kernel_rfl) (by kernel_rfl), ep3a]
  kernel_rfl

/-! F11: (*relayhouse/broker.Broker).Open -/
noncomputable def c11a : Code := (Tryz.f11.body).getD .skip
noncomputable def c11al : Code := cL c11a
noncomputable def p11al (C : CF) (L : Nat) {β : Type} (x0 : Value) (h : H) (kn : Value → H → Option β) : Option β :=
  kn x0 h
theorem ep11al (C : CF) (L : Nat) {β : Type} (x0 : Value) (h : H) (K : Ex → T Value → H → Option β) :
    execK Tryz.prog C L 0 38 [2, 3] c11al [0] [] (fs [(0, x0)]) h K =
      p11al C L x0 h (fun x0 h => K .normal (fs [(0, x0)]) h) := by
  kernel_rfl
noncomputable def c11ar : Code := cR c11a
noncomputable def c11arl : Code := cL c11ar
noncomputable def c11arlb : Code := cL c11arl
noncomputable def p11arlb (C : CF) (L : Nat) {β : Type} (x0 : Value) (h : H) (kr : Value → Value → H → Option β) (kn : Value → H → Option β) : Option β :=
  bnd (A.bin Tryz.prog .eql 22 x0 (.pointer none)) fun t6 =>
  toBK t6 fun b =>
  (bif b then
  kr (.int .i64 0) (.int .i64 8) h
  else
  bnd (A.nilCheck x0) fun t9 =>
  bnd (A.fieldAddr 9 t9) fun t10 =>
  bnd (A.load false 1 t10 h) fun t11 =>
  bnd (A.bin Tryz.prog .eql 3 t11 (.int .i64 4096)) fun t12 =>
  toBK t12 fun bq1 =>
  (bif bq1 then
  kr (.int .i64 0) (.int .i64 7) h
  else
  kn x0 h))
theorem ep11arlb (C : CF) (L : Nat) {β : Type} (x0 : Value) (h : H) (K : Ex → T Value → H → Option β) :
    execK Tryz.prog C L 0 38 [2, 3] c11arlb [0] [(0, [0])] (fs [(0, x0)]) h K =
      p11arlb C L x0 h (fun x2 x3 h => K .ret (fs [(2, x2), (3, x3)]) h) (fun x0 h => K .normal (fs [(0, x0)]) h) := by
  kernel_rfl
noncomputable def p11arl (C : CF) (L : Nat) {β : Type} (x0 : Value) (h : H) (kr : Value → Value → H → Option β) (kn : Value → H → Option β) : Option β :=
  p11arlb C L x0 h kr kn
theorem ep11arl (C : CF) (L : Nat) {β : Type} (x0 : Value) (h : H) (K : Ex → T Value → H → Option β) :
    execK Tryz.prog C L 0 38 [2, 3] c11arl [0] [] (fs [(0, x0)]) h K =
      p11arl C L x0 h (fun x2 x3 h => K .ret (fs [(2, x2), (3, x3)]) h) (fun x0 h => K .normal (fs [(0, x0)]) h) := by
  rw [execK_block (b := c11arlb) (id := 0) (by kernel_rfl), ep11arlb]
  unfold p11arl
  rfl
noncomputable def c11arr : Code := cR c11ar
noncomputable def c11arrl : Code := cL c11arr
noncomputable def p11arrl (C : CF) (L : Nat) {β : Type} (x0 : Value) (h : H) (kn : Value → H → Option β) : Option β :=
  bnd (A.nilCheck x0) fun t14 =>
  bnd (A.fieldAddr 9 t14) fun t15 =>
  bnd (A.load false 1 t15 h) fun t16 =>
  bnd (A.bin Tryz.prog .add 3 t16 (.int .i64 1)) fun t17 =>
  bnd (A.nilCheck x0) fun t18 =>
  bnd (A.fieldAddr 9 t18) fun t19 =>
  bnd (A.store 1 t19 t17 h) fun hq1 =>
  kn x0 hq1
theorem ep11arrl (C : CF) (L : Nat) {β : Type} (x0 : Value) (h : H) (K : Ex → T Value → H → Option β) :
    execK Tryz.prog C L 0 38 [2, 3] c11arrl [0] [] (fs [(0, x0)]) h K =
      p11arrl C L x0 h (fun x0 h => K .normal (fs [(0, x0)]) h) := by
  kernel_rfl
noncomputable def c11arrr : Code := cR c11arr
noncomputable def p11arrr (C : CF) (L : Nat) {β : Type} (x0 : Value) (h : H) (kr : Value → Value → H → Option β) : Option β :=
  bnd (A.nilCheck x0) fun t22 =>
  bnd (A.fieldAddr 9 t22) fun t23 =>
  bnd (A.load false 1 t23 h) fun t24 =>
  bnd2 (C 26 [x0, t24] h) fun t25 hq1 =>
  bnd (A.nilCheck t25) fun t26 =>
  bnd (A.fieldAddr 0 t26) fun t27 =>
  bnd (A.load false 1 t27 hq1) fun t28 =>
  bnd (A.nilCheck x0) fun t30 =>
  bnd (A.fieldAddr 9 t30) fun t31 =>
  bnd (A.load false 1 t31 hq1) fun t32 =>
  bif (chk (bnd (A.load false 1 t31 h) fun v => some v) t32 && true) then
  bnd2 (C 29 [t28, t32] hq1) fun t33 hq2 =>
  toBK t33 fun b =>
  bnd (A.nilCheck x0) fun t35 =>
  bnd (A.fieldAddr 9 t35) fun t36 =>
  bnd (A.load false 1 t36 hq2) fun t37 =>
  kr t37 (.int .i64 0) hq2
  else none
theorem ep11arrr (C : CF) (L : Nat) {β : Type} (x0 : Value) (h : H) (K : Ex → T Value → H → Option β) :
    execK Tryz.prog C L 0 38 [2, 3] c11arrr [2, 3] [] (fs [(0, x0)]) h K =
      p11arrr C L x0 h (fun x2 x3 h => K .ret (fs [(2, x2), (3, x3)]) h) := by
  kernel_rfl
noncomputable def p11arr (C : CF) (L : Nat) {β : Type} (x0 : Value) (h : H) (kr : Value → Value → H → Option β) : Option β :=
  p11arrl C L x0 h (fun x0 h => p11arrr C L x0 h kr)
theorem ep11arr (C : CF) (L : Nat) {β : Type} (x0 : Value) (h : H) (K : Ex → T Value → H → Option β) :
    execK Tryz.prog C L 0 38 [2, 3] c11arr [2, 3] [] (fs [(0, x0)]) h K =
      p11arr C L x0 h (fun x2 x3 h => K .ret (fs [(2, x2), (3, x3)]) h) := by
  rw [execK_seq (a := c11arrl) (b := c11arrr) (by kernel_rfl) (show live [2, 3] c11arrr [2, 3] [] = [0] by kernel_rfl), ep11arrl]
  unfold p11arr
  exact (congrArg (p11arrl C L x0 h) (funext fun x0 => funext fun h => (seqK_n _ _ _).trans (ep11arrr C L x0 h K)))
noncomputable def p11ar (C : CF) (L : Nat) {β : Type} (x0 : Value) (h : H) (kr : Value → Value → H → Option β) : Option β :=
  p11arl C L x0 h kr (fun x0 h => p11arr C L x0 h kr)
theorem ep11ar (C : CF) (L : Nat) {β : Type} (x0 : Value) (h : H) (K : Ex → T Value → H → Option β) :
    execK Tryz.prog C L 0 38 [2, 3] c11ar [2, 3] [] (fs [(0, x0)]) h K =
      p11ar C L x0 h (fun x2 x3 h => K .ret (fs [(2, x2), (3, x3)]) h) := by
  rw [execK_seq (a := c11arl) (b := c11arr) (by kernel_rfl) (show live [2, 3] c11arr [2, 3] [] = [0] by kernel_rfl), ep11arl]
  unfold p11ar
  exact (congr (congrArg (p11arl C L x0 h) (funext fun x2 => funext fun x3 => funext fun h => seqK_r _ _ _)) (funext fun x0 => funext fun h => (seqK_n _ _ _).trans (ep11arr C L x0 h K)))
noncomputable def p11a (C : CF) (L : Nat) {β : Type} (x0 : Value) (h : H) (kr : Value → Value → H → Option β) : Option β :=
  p11al C L x0 h (fun x0 h => p11ar C L x0 h kr)
theorem ep11a (C : CF) (L : Nat) {β : Type} (x0 : Value) (h : H) (K : Ex → T Value → H → Option β) :
    execK Tryz.prog C L 0 38 [2, 3] c11a [2, 3] [] (fs [(0, x0)]) h K =
      p11a C L x0 h (fun x2 x3 h => K .ret (fs [(2, x2), (3, x3)]) h) := by
  rw [execK_seq (a := c11al) (b := c11ar) (by kernel_rfl) (show live [2, 3] c11ar [2, 3] [] = [0] by kernel_rfl), ep11al]
  unfold p11a
  exact (congrArg (p11al C L x0 h) (funext fun x0 => funext fun h => (seqK_n _ _ _).trans (ep11ar C L x0 h K)))
noncomputable def F11 (C : CF) (L : Nat) (x0 : Value) (h : H) : Option (Value × H) :=
  p11a C L x0 h
    (fun x2 x3 h => some (.tuple ⟨[x2, x3]⟩, h))
theorem F11eq (O : List FuncId) (hO : O.any (Nat.beq 11) = false) (n : Nat) (x0 : Value) (h : H) : callB Tryz.prog 0 O (n + 1) 11 [x0] h = F11 (callB Tryz.prog 0 O n) n x0 h := by
  rw [callB_eq hO (c := c11a) (nt := 38) (RR := [2, 3]) (fr := (fs [(0, x0)])) Tryz.func11 (by kernel_rfl) (by kernel_rfl) (by kernel_rfl) (by kernel_rfl) (by kernel_rfl), ep11a]
  kernel_rfl

/-! F26: (*relayhouse/broker.Broker).gate -/
noncomputable def c26a : Code := (Tryz.f26.body).getD .skip
noncomputable def c26al : Code := cL c26a
noncomputable def p26al (C : CF) (L : Nat) {β : Type} (x0 : Value) (x1 : Value) (h : H) (kn : Value → Value → H → Option β) : Option β :=
  kn x1 x0 h
theorem ep26al (C : CF) (L : Nat) {β : Type} (x0 : Value) (x1 : Value) (h : H) (K : Ex → T Value → H → Option β) :
    execK Tryz.prog C L 0 32 [4] c26al [1, 0] [] (fs [(0, x0), (1, x1)]) h K =
      p26al C L x0 x1 h (fun x1 x0 h => K .normal (fs [(1, x1), (0, x0)]) h) := by
  kernel_rfl
noncomputable def c26ar : Code := cR c26a
noncomputable def c26arl : Code := cL c26ar
noncomputable def c26arll : Code := cL c26arl
noncomputable def p26arll (C : CF) (L : Nat) {β : Type} (x1 : Value) (x0 : Value) (h : H) (kn : Value → Value → Value → H → Option β) : Option β :=
  bnd (A.bin Tryz.prog .eql 22 x0 (.pointer none)) fun t6 =>
  toBK t6 fun b =>
  (bif b then
  kn (.bool true) x1 x0 h
  else
  bnd (A.bin Tryz.prog .lss 3 x1 (.int .i64 1)) fun t9 =>
  toBK t9 fun bq1 =>
  (bif bq1 then
  kn (.bool true) x1 x0 h
  else
  bnd (A.nilCheck x0) fun t14 =>
  bnd (A.fieldAddr 9 t14) fun t15 =>
  bnd (A.load false 1 t15 h) fun t16 =>
  bnd (A.bin Tryz.prog .gtr 3 x1 t16) fun t17 =>
  toBK t17 fun bq2 =>
  kn (.bool bq2) x1 x0 h))
theorem ep26arll (C : CF) (L : Nat) {β : Type} (x1 : Value) (x0 : Value) (h : H) (K : Ex → T Value → H → Option β) :
    execK Tryz.prog C L 0 32 [4] c26arll [18, 1, 0] [] (fs [(1, x1), (0, x0)]) h K =
      p26arll C L x1 x0 h (fun x18 x1 x0 h => K .normal (fs [(18, x18), (1, x1), (0, x0)]) h) := by
  kernel_rfl
noncomputable def c26arlr : Code := cR c26arl
noncomputable def p26arlr (C : CF) (L : Nat) {β : Type} (x18 : Value) (x1 : Value) (x0 : Value) (h : H) (kr : Value → H → Option β) (kn : Value → Value → H → Option β) : Option β :=
  condV x18 (
  kr (.pointer none) h) (
  kn x1 x0 h)
theorem ep26arlr (C : CF) (L : Nat) {β : Type} (x18 : Value) (x1 : Value) (x0 : Value) (h : H) (K : Ex → T Value → H → Option β) :
    execK Tryz.prog C L 0 32 [4] c26arlr [1, 0] [] (fs [(18, x18), (1, x1), (0, x0)]) h K =
      p26arlr C L x18 x1 x0 h (fun x4 h => K .ret (fs [(4, x4)]) h) (fun x1 x0 h => K .normal (fs [(1, x1), (0, x0)]) h) := by
  kernel_rfl
noncomputable def p26arl (C : CF) (L : Nat) {β : Type} (x1 : Value) (x0 : Value) (h : H) (kr : Value → H → Option β) (kn : Value → Value → H → Option β) : Option β :=
  p26arll C L x1 x0 h (fun x18 x1 x0 h => p26arlr C L x18 x1 x0 h kr kn)
theorem ep26arl (C : CF) (L : Nat) {β : Type} (x1 : Value) (x0 : Value) (h : H) (K : Ex → T Value → H → Option β) :
    execK Tryz.prog C L 0 32 [4] c26arl [1, 0] [] (fs [(1, x1), (0, x0)]) h K =
      p26arl C L x1 x0 h (fun x4 h => K .ret (fs [(4, x4)]) h) (fun x1 x0 h => K .normal (fs [(1, x1), (0, x0)]) h) := by
  rw [execK_seq (a := c26arll) (b := c26arlr) (by kernel_rfl) (show live [4] c26arlr [1, 0] [] = [18, 1, 0] by kernel_rfl), ep26arll]
  unfold p26arl
  exact (congrArg (p26arll C L x1 x0 h) (funext fun x18 => funext fun x1 => funext fun x0 => funext fun h => (seqK_n _ _ _).trans (ep26arlr C L x18 x1 x0 h K)))
noncomputable def c26arr : Code := cR c26ar
noncomputable def p26arr (C : CF) (L : Nat) {β : Type} (x1 : Value) (x0 : Value) (h : H) (kr : Value → H → Option β) : Option β :=
  bnd (A.nilCheck x0) fun t20 =>
  bnd (A.fieldAddr 5 t20) fun t21 =>
  bnd (A.load false 1 t21 h) fun t22 =>
  bnd (A.nilCheck x0) fun t25 =>
  bnd (A.fieldAddr 0 t25) fun t26 =>
  bnd (A.fieldAddr 0 t26) fun t27 =>
  bnd (A.load false 1 t27 h) fun t28 =>
  bnd2 (C 62 [x1, t28] h) fun t29 hq1 =>
  bif (chk (bnd (A.load false 1 t21 hq1) fun v => some v) t22 && true) then
  bnd (A.idxS 1 t22 t29) fun t30 =>
  bnd (A.load false 1 t30 hq1) fun t31 =>
  kr t31 hq1
  else none
theorem ep26arr (C : CF) (L : Nat) {β : Type} (x1 : Value) (x0 : Value) (h : H) (K : Ex → T Value → H → Option β) :
    execK Tryz.prog C L 0 32 [4] c26arr [4] [] (fs [(1, x1), (0, x0)]) h K =
      p26arr C L x1 x0 h (fun x4 h => K .ret (fs [(4, x4)]) h) := by
  kernel_rfl
noncomputable def p26ar (C : CF) (L : Nat) {β : Type} (x1 : Value) (x0 : Value) (h : H) (kr : Value → H → Option β) : Option β :=
  p26arl C L x1 x0 h kr (fun x1 x0 h => p26arr C L x1 x0 h kr)
theorem ep26ar (C : CF) (L : Nat) {β : Type} (x1 : Value) (x0 : Value) (h : H) (K : Ex → T Value → H → Option β) :
    execK Tryz.prog C L 0 32 [4] c26ar [4] [] (fs [(1, x1), (0, x0)]) h K =
      p26ar C L x1 x0 h (fun x4 h => K .ret (fs [(4, x4)]) h) := by
  rw [execK_seq (a := c26arl) (b := c26arr) (by kernel_rfl) (show live [4] c26arr [4] [] = [1, 0] by kernel_rfl), ep26arl]
  unfold p26ar
  exact (congr (congrArg (p26arl C L x1 x0 h) (funext fun x4 => funext fun h => seqK_r _ _ _)) (funext fun x1 => funext fun x0 => funext fun h => (seqK_n _ _ _).trans (ep26arr C L x1 x0 h K)))
noncomputable def p26a (C : CF) (L : Nat) {β : Type} (x0 : Value) (x1 : Value) (h : H) (kr : Value → H → Option β) : Option β :=
  p26al C L x0 x1 h (fun x1 x0 h => p26ar C L x1 x0 h kr)
theorem ep26a (C : CF) (L : Nat) {β : Type} (x0 : Value) (x1 : Value) (h : H) (K : Ex → T Value → H → Option β) :
    execK Tryz.prog C L 0 32 [4] c26a [4] [] (fs [(0, x0), (1, x1)]) h K =
      p26a C L x0 x1 h (fun x4 h => K .ret (fs [(4, x4)]) h) := by
  rw [execK_seq (a := c26al) (b := c26ar) (by kernel_rfl) (show live [4] c26ar [4] [] = [1, 0] by kernel_rfl), ep26al]
  unfold p26a
  exact (congrArg (p26al C L x0 x1 h) (funext fun x1 => funext fun x0 => funext fun h => (seqK_n _ _ _).trans (ep26ar C L x1 x0 h K)))
noncomputable def F26 (C : CF) (L : Nat) (x0 : Value) (x1 : Value) (h : H) : Option (Value × H) :=
  p26a C L x0 x1 h
    (fun x4 h => some (x4, h))
theorem F26eq (O : List FuncId) (hO : O.any (Nat.beq 26) = false) (n : Nat) (x0 : Value) (x1 : Value) (h : H) : callB Tryz.prog 0 O (n + 1) 26 [x0, x1] h = F26 (callB Tryz.prog 0 O n) n x0 x1 h := by
  rw [callB_eq hO (c := c26a) (nt := 32) (RR := [4]) (fr := (fs [(0, x0), (1, x1)])) Tryz.func26 (by kernel_rfl) (by kernel_rfl) (by kernel_rfl) (by kernel_rfl) (by kernel_rfl), ep26a]
  kernel_rfl

/-! F29: (*relayhouse/gate.Gate).Open -/
noncomputable def c29a : Code := (Tryz.f29.body).getD .skip
noncomputable def c29al : Code := cL c29a
noncomputable def p29al (C : CF) (L : Nat) {β : Type} (x0 : Value) (x1 : Value) (h : H) (kn : Value → Value → H → Option β) : Option β :=
  kn x1 x0 h
theorem ep29al (C : CF) (L : Nat) {β : Type} (x0 : Value) (x1 : Value) (h : H) (K : Ex → T Value → H → Option β) :
    execK Tryz.prog C L 0 42 [4] c29al [1, 0] [] (fs [(0, x0), (1, x1)]) h K =
      p29al C L x0 x1 h (fun x1 x0 h => K .normal (fs [(1, x1), (0, x0)]) h) := by
  kernel_rfl
noncomputable def c29ar : Code := cR c29a
noncomputable def c29arl : Code := cL c29ar
noncomputable def c29arll : Code := cL c29arl
noncomputable def p29arll (C : CF) (L : Nat) {β : Type} (x1 : Value) (x0 : Value) (h : H) (kn : Value → Value → Value → H → Option β) : Option β :=
  bnd (A.bin Tryz.prog .eql 63 x0 (.pointer none)) fun t6 =>
  toBK t6 fun b =>
  (bif b then
  kn (.bool true) x1 x0 h
  else
  bnd (A.nilCheck x0) fun t9 =>
  bnd (A.fieldAddr 3 t9) fun t10 =>
  bnd (A.load false 1 t10 h) fun t11 =>
  bnd (A.lookupK false Z99 false x1 t11 h) fun t13 =>
  bnd (A.bin Tryz.prog .neq 99 t13 (.pointer none)) fun t14 =>
  toBK t14 fun bq1 =>
  (bif bq1 then
  kn (.bool true) x1 x0 h
  else
  bnd (A.nilCheck x0) fun t19 =>
  bnd (A.fieldAddr 0 t19) fun t20 =>
  bnd (A.load false 1 t20 h) fun t21 =>
  bnd2 (C 62 [x1, t21] h) fun t22 hq1 =>
  bnd (A.nilCheck x0) fun t24 =>
  bnd (A.fieldAddr 1 t24) fun t25 =>
  bnd (A.load false 1 t25 hq1) fun t26 =>
  bif (chk (bnd (A.load false 1 t25 h) fun v => some v) t26 && true) then
  bnd (A.bin Tryz.prog .neq 3 t22 t26) fun t27 =>
  toBK t27 fun bq2 =>
  kn (.bool bq2) x1 x0 hq1
  else none))
theorem ep29arll (C : CF) (L : Nat) {β : Type} (x1 : Value) (x0 : Value) (h : H) (K : Ex → T Value → H → Option β) :
    execK Tryz.prog C L 0 42 [4] c29arll [28, 1, 0] [] (fs [(1, x1), (0, x0)]) h K =
      p29arll C L x1 x0 h (fun x28 x1 x0 h => K .normal (fs [(28, x28), (1, x1), (0, x0)]) h) := by
  kernel_rfl
noncomputable def c29arlr : Code := cR c29arl
noncomputable def p29arlr (C : CF) (L : Nat) {β : Type} (x28 : Value) (x1 : Value) (x0 : Value) (h : H) (kr : Value → H → Option β) (kn : Value → Value → H → Option β) : Option β :=
  condV x28 (
  kr (.bool false) h) (
  kn x1 x0 h)
theorem ep29arlr (C : CF) (L : Nat) {β : Type} (x28 : Value) (x1 : Value) (x0 : Value) (h : H) (K : Ex → T Value → H → Option β) :
    execK Tryz.prog C L 0 42 [4] c29arlr [1, 0] [] (fs [(28, x28), (1, x1), (0, x0)]) h K =
      p29arlr C L x28 x1 x0 h (fun x4 h => K .ret (fs [(4, x4)]) h) (fun x1 x0 h => K .normal (fs [(1, x1), (0, x0)]) h) := by
  kernel_rfl
noncomputable def p29arl (C : CF) (L : Nat) {β : Type} (x1 : Value) (x0 : Value) (h : H) (kr : Value → H → Option β) (kn : Value → Value → H → Option β) : Option β :=
  p29arll C L x1 x0 h (fun x28 x1 x0 h => p29arlr C L x28 x1 x0 h kr kn)
theorem ep29arl (C : CF) (L : Nat) {β : Type} (x1 : Value) (x0 : Value) (h : H) (K : Ex → T Value → H → Option β) :
    execK Tryz.prog C L 0 42 [4] c29arl [1, 0] [] (fs [(1, x1), (0, x0)]) h K =
      p29arl C L x1 x0 h (fun x4 h => K .ret (fs [(4, x4)]) h) (fun x1 x0 h => K .normal (fs [(1, x1), (0, x0)]) h) := by
  rw [execK_seq (a := c29arll) (b := c29arlr) (by kernel_rfl) (show live [4] c29arlr [1, 0] [] = [28, 1, 0] by kernel_rfl), ep29arll]
  unfold p29arl
  exact (congrArg (p29arll C L x1 x0 h) (funext fun x28 => funext fun x1 => funext fun x0 => funext fun h => (seqK_n _ _ _).trans (ep29arlr C L x28 x1 x0 h K)))
noncomputable def c29arr : Code := cR c29ar
noncomputable def p29arr (C : CF) (L : Nat) {β : Type} (x1 : Value) (x0 : Value) (h : H) (kr : Value → H → Option β) : Option β :=
  bnd (A.nilCheck x0) fun t30 =>
  bnd (A.fieldAddr 3 t30) fun t31 =>
  bnd (A.load false 1 t31 h) fun t32 =>
  bnd (A.nilCheck x0) fun t36 =>
  bnd (A.fieldAddr 2 t36) fun t37 =>
  bnd (A.load false 1 t37 h) fun t38 =>
  bnd2 (C 65 [t38] h) fun t39 hq1 =>
  bif (chk (bnd (A.load false 1 t31 hq1) fun v => some v) t32 && true) then
  bnd (A.build Z103L [(0, 1, x1), (1, 1, (.int .u8 1)), (2, 1, t39)]) fun t40 =>
  bnd2 (A.box 10 t40 hq1) fun t41 hq2 =>
  bnd (A.mapUpdateK false x1 t41 t32 hq2) fun hq3 =>
  kr (.bool true) hq3
  else none
theorem ep29arr (C : CF) (L : Nat) {β : Type} (x1 : Value) (x0 : Value) (h : H) (K : Ex → T Value → H → Option β) :
    execK Tryz.prog C L 0 42 [4] c29arr [4] [] (fs [(1, x1), (0, x0)]) h K =
      p29arr C L x1 x0 h (fun x4 h => K .ret (fs [(4, x4)]) h) := by
  kernel_rfl
noncomputable def p29ar (C : CF) (L : Nat) {β : Type} (x1 : Value) (x0 : Value) (h : H) (kr : Value → H → Option β) : Option β :=
  p29arl C L x1 x0 h kr (fun x1 x0 h => p29arr C L x1 x0 h kr)
theorem ep29ar (C : CF) (L : Nat) {β : Type} (x1 : Value) (x0 : Value) (h : H) (K : Ex → T Value → H → Option β) :
    execK Tryz.prog C L 0 42 [4] c29ar [4] [] (fs [(1, x1), (0, x0)]) h K =
      p29ar C L x1 x0 h (fun x4 h => K .ret (fs [(4, x4)]) h) := by
  rw [execK_seq (a := c29arl) (b := c29arr) (by kernel_rfl) (show live [4] c29arr [4] [] = [1, 0] by kernel_rfl), ep29arl]
  unfold p29ar
  exact (congr (congrArg (p29arl C L x1 x0 h) (funext fun x4 => funext fun h => seqK_r _ _ _)) (funext fun x1 => funext fun x0 => funext fun h => (seqK_n _ _ _).trans (ep29arr C L x1 x0 h K)))
noncomputable def p29a (C : CF) (L : Nat) {β : Type} (x0 : Value) (x1 : Value) (h : H) (kr : Value → H → Option β) : Option β :=
  p29al C L x0 x1 h (fun x1 x0 h => p29ar C L x1 x0 h kr)
theorem ep29a (C : CF) (L : Nat) {β : Type} (x0 : Value) (x1 : Value) (h : H) (K : Ex → T Value → H → Option β) :
    execK Tryz.prog C L 0 42 [4] c29a [4] [] (fs [(0, x0), (1, x1)]) h K =
      p29a C L x0 x1 h (fun x4 h => K .ret (fs [(4, x4)]) h) := by
  rw [execK_seq (a := c29al) (b := c29ar) (by kernel_rfl) (show live [4] c29ar [4] [] = [1, 0] by kernel_rfl), ep29al]
  unfold p29a
  exact (congrArg (p29al C L x0 x1 h) (funext fun x1 => funext fun x0 => funext fun h => (seqK_n _ _ _).trans (ep29ar C L x1 x0 h K)))
noncomputable def F29 (C : CF) (L : Nat) (x0 : Value) (x1 : Value) (h : H) : Option (Value × H) :=
  p29a C L x0 x1 h
    (fun x4 h => some (x4, h))
theorem F29eq (O : List FuncId) (hO : O.any (Nat.beq 29) = false) (n : Nat) (x0 : Value) (x1 : Value) (h : H) : callB Tryz.prog 0 O (n + 1) 29 [x0, x1] h = F29 (callB Tryz.prog 0 O n) n x0 x1 h := by
  rw [callB_eq hO (c := c29a) (nt := 42) (RR := [4]) (fr := (fs [(0, x0), (1, x1)])) Tryz.func29 (by kernel_rfl) (by kernel_rfl) (by kernel_rfl) (by kernel_rfl) (by kernel_rfl), ep29a]
  kernel_rfl

/-! F62: relayhouse/shard.Gate -/
noncomputable def c62a : Code := (Tryz.f62.body).getD .skip
noncomputable def p62a (C : CF) (L : Nat) {β : Type} (x0 : Value) (x1 : Value) (h : H) (kr : Value → H → Option β) : Option β :=
  bnd2 (C 66 [x1] h) fun t6 hq1 =>
  toBK t6 fun b =>
  bnd (A.un Tryz.prog .not (.bool b)) fun t7 =>
  toBK t7 fun bq1 =>
  (bif bq1 then
  kr (.int .i64 (-1)) hq1
  else
  bnd (A.bin Tryz.prog .lss 3 x0 (.int .i64 1)) fun t10 =>
  toBK t10 fun bq2 =>
  (bif bq2 then
  kr (.int .i64 (-1)) hq1
  else
  bnd (A.bin Tryz.prog .sub 3 x0 (.int .i64 1)) fun t13 =>
  bnd (A.bin Tryz.prog .rem 3 t13 x1) fun t15 =>
  kr t15 hq1))
theorem ep62a (C : CF) (L : Nat) {β : Type} (x0 : Value) (x1 : Value) (h : H) (K : Ex → T Value → H → Option β) :
    execK Tryz.prog C L 0 16 [4] c62a [4] [] (fs [(0, x0), (1, x1)]) h K =
      p62a C L x0 x1 h (fun x4 h => K .ret (fs [(4, x4)]) h) := by
  kernel_rfl
noncomputable def F62 (C : CF) (L : Nat) (x0 : Value) (x1 : Value) (h : H) : Option (Value × H) :=
  p62a C L x0 x1 h
    (fun x4 h => some (x4, h))
theorem F62eq (O : List FuncId) (hO : O.any (Nat.beq 62) = false) (n : Nat) (x0 : Value) (x1 : Value) (h : H) : callB Tryz.prog 0 O (n + 1) 62 [x0, x1] h = F62 (callB Tryz.prog 0 O n) n x0 x1 h := by
  rw [callB_eq hO (c := c62a) (nt := 16) (RR := [4]) (fr := (fs [(0, x0), (1, x1)])) Tryz.func62 (by kernel_rfl) (by kernel_rfl) (by kernel_rfl) (by kernel_rfl) (by kernel_rfl), ep62a]
  kernel_rfl

/-! F65: relayhouse/frame.New -/
noncomputable def c65a : Code := (Tryz.f65.body).getD .skip
noncomputable def p65a (C : CF) (L : Nat) {β : Type} (x0 : Value) (h : H) (kr : Value → H → Option β) : Option β :=
  bnd (A.bin Tryz.prog .lss 3 x0 (.int .i64 16)) fun t4 =>
  toBK t4 fun b =>
  (bif b then
  kr (.pointer none) h
  else
  bnd (A.bin Tryz.prog .gtr 3 x0 (.int .i64 65536)) fun t7 =>
  toBK t7 fun bq1 =>
  (bif bq1 then
  kr (.pointer none) h
  else
  bnd (A.build Z175L [(0, 1, x0)]) fun t10 =>
  bnd2 (A.box 3 t10 h) fun t11 hq1 =>
  kr t11 hq1))
theorem ep65a (C : CF) (L : Nat) {β : Type} (x0 : Value) (h : H) (K : Ex → T Value → H → Option β) :
    execK Tryz.prog C L 0 12 [2] c65a [2] [] (fs [(0, x0)]) h K =
      p65a C L x0 h (fun x2 h => K .ret (fs [(2, x2)]) h) := by
  kernel_rfl
noncomputable def F65 (C : CF) (L : Nat) (x0 : Value) (h : H) : Option (Value × H) :=
  p65a C L x0 h
    (fun x2 h => some (x2, h))
theorem F65eq (O : List FuncId) (hO : O.any (Nat.beq 65) = false) (n : Nat) (x0 : Value) (h : H) : callB Tryz.prog 0 O (n + 1) 65 [x0] h = F65 (callB Tryz.prog 0 O n) n x0 h := by
  rw [callB_eq hO (c := c65a) (nt := 12) (RR := [2]) (fr := (fs [(0, x0)])) Tryz.func65 (by kernel_rfl) (by kernel_rfl) (by kernel_rfl) (by kernel_rfl) (by kernel_rfl), ep65a]
  kernel_rfl

/-! F66: relayhouse/shard.few -/
noncomputable def c66a : Code := (Tryz.f66.body).getD .skip
noncomputable def p66a (C : CF) (L : Nat) {β : Type} (x0 : Value) (h : H) (kr : Value → H → Option β) : Option β :=
  bnd (A.bin Tryz.prog .geq 3 x0 (.int .i64 1)) fun t4 =>
  toBK t4 fun b =>
  (bif b then
  bnd (A.bin Tryz.prog .leq 3 x0 (.int .i64 64)) fun t7 =>
  toBK t7 fun bq1 =>
  kr (.bool bq1) h
  else
  kr (.bool false) h)
theorem ep66a (C : CF) (L : Nat) {β : Type} (x0 : Value) (h : H) (K : Ex → T Value → H → Option β) :
    execK Tryz.prog C L 0 9 [2] c66a [2] [] (fs [(0, x0)]) h K =
      p66a C L x0 h (fun x2 h => K .ret (fs [(2, x2)]) h) := by
  kernel_rfl
noncomputable def F66 (C : CF) (L : Nat) (x0 : Value) (h : H) : Option (Value × H) :=
  p66a C L x0 h
    (fun x2 h => some (x2, h))
theorem F66eq (O : List FuncId) (hO : O.any (Nat.beq 66) = false) (n : Nat) (x0 : Value) (h : H) : callB Tryz.prog 0 O (n + 1) 66 [x0] h = F66 (callB Tryz.prog 0 O n) n x0 h := by
  rw [callB_eq hO (c := c66a) (nt := 9) (RR := [2]) (fr := (fs [(0, x0)])) Tryz.func66 (by kernel_rfl) (by kernel_rfl) (by kernel_rfl) (by kernel_rfl) (by kernel_rfl), ep66a]
  kernel_rfl

end Go.Proofs.YticbebcnkjapfaaGreatDoor.BkD
