/-
  Functions of the program over the abstract machine: printed by a program of mine (wip/tools/Dec.lean), each with its equation to the machine's call.
-/
import Derived.Test.YtdjhkdogpbiglaaProg
import Derived.Test.YtdjhkdogpbiglaaAmDec
set_option linter.unusedVariables false
set_option maxRecDepth 100000
namespace Go.Proofs.Ytdjhkdogpbiglaa.MailF6
open Go Go.AM

noncomputable def Z71 : Value := (.agg ⟨[(.int .u8 0), (.int .i64 0), (.int .i64 0), (.string ⟨⟨[]⟩⟩), (.string ⟨⟨[]⟩⟩), (.int .u8 0), (.bool false), (.int .u8 0), (.bool false), (.int .u16 0), (.string ⟨⟨[]⟩⟩), (.string ⟨⟨[]⟩⟩), (.int .u8 0), (.bool false), (.int .u16 0), (.string ⟨⟨[]⟩⟩), (.bool false), (.string ⟨⟨[]⟩⟩), (.string ⟨⟨[]⟩⟩), (.int .u8 0), (.bool false), (.bool false), (.bool false), (.string ⟨⟨[]⟩⟩), (.string ⟨⟨[]⟩⟩), (.bool false), (.int .u8 0), (.slice none 0 0), (.string ⟨⟨[]⟩⟩), (.string ⟨⟨[]⟩⟩), (.string ⟨⟨[]⟩⟩), (.int .u8 0), (.bool false), (.slice none 0 0), (.slice none 0 0), (.slice none 0 0), (.int .i64 0), (.int .i64 0)]⟩)
noncomputable def Z71L : List Value := [(.int .u8 0), (.int .i64 0), (.int .i64 0), (.string ⟨⟨[]⟩⟩), (.string ⟨⟨[]⟩⟩), (.int .u8 0), (.bool false), (.int .u8 0), (.bool false), (.int .u16 0), (.string ⟨⟨[]⟩⟩), (.string ⟨⟨[]⟩⟩), (.int .u8 0), (.bool false), (.int .u16 0), (.string ⟨⟨[]⟩⟩), (.bool false), (.string ⟨⟨[]⟩⟩), (.string ⟨⟨[]⟩⟩), (.int .u8 0), (.bool false), (.bool false), (.bool false), (.string ⟨⟨[]⟩⟩), (.string ⟨⟨[]⟩⟩), (.bool false), (.int .u8 0), (.slice none 0 0), (.string ⟨⟨[]⟩⟩), (.string ⟨⟨[]⟩⟩), (.string ⟨⟨[]⟩⟩), (.int .u8 0), (.bool false), (.slice none 0 0), (.slice none 0 0), (.slice none 0 0), (.int .i64 0), (.int .i64 0)]
noncomputable def Z48 : Value := (.agg ⟨[(.int .i64 0), (.int .i64 0), (.slice none 0 0), (.slice none 0 0), (.int .i64 0)]⟩)
noncomputable def Z48L : List Value := [(.int .i64 0), (.int .i64 0), (.slice none 0 0), (.slice none 0 0), (.int .i64 0)]
noncomputable def Z25 : Value := (.pointer none)
noncomputable def Z25L : List Value := [(.pointer none)]

/-! F6: relayhouse/relayhouselaw16.MailKnown -/
noncomputable def c6a : Code := (Try.f6.body).getD .skip
noncomputable def c6al : Code := cL c6a
noncomputable def p6al (C : CF) (L : Nat) {β : Type} (h : H) (kn : H → Option β) : Option β :=
  kn h
theorem ep6al (C : CF) (L : Nat) {β : Type} (h : H) (K : Ex → T Value → H → Option β) :
    execK Try.prog C L 0 217 [0] c6al [] [] (fs []) h K =
      p6al C L h (fun h => K .normal (fs []) h) := by
  kernel_rfl
noncomputable def c6ar : Code := cR c6a
noncomputable def c6arl : Code := cL c6ar
noncomputable def p6arl (C : CF) (L : Nat) {β : Type} (h : H) (kn : Value → H → Option β) : Option β :=
  bnd2 (C 10 [(.int .i64 64), (.int .i64 64)] h) fun t13 hq1 =>
  kn t13 hq1
theorem ep6arl (C : CF) (L : Nat) {β : Type} (h : H) (K : Ex → T Value → H → Option β) :
    execK Try.prog C L 0 217 [0] c6arl [1] [] (fs []) h K =
      p6arl C L h (fun x1 h => K .normal (fs [(1, x1)]) h) := by
  kernel_rfl
noncomputable def c6arr : Code := cR c6ar
noncomputable def c6arrl : Code := cL c6arr
noncomputable def c6arrll : Code := cL c6arrl
noncomputable def p6arrll (C : CF) (L : Nat) {β : Type} (x1 : Value) (h : H) (kn : Value → Value → H → Option β) : Option β :=
  kn (.int .i64 0) x1 h
theorem ep6arrll (C : CF) (L : Nat) {β : Type} (x1 : Value) (h : H) (K : Ex → T Value → H → Option β) :
    execK Try.prog C L 0 217 [0] c6arrll [2, 1] [] (fs [(1, x1)]) h K =
      p6arrll C L x1 h (fun x2 x1 h => K .normal (fs [(2, x2), (1, x1)]) h) := by
  kernel_rfl
noncomputable def c6arrlr : Code := cR c6arrl
noncomputable def c6arrlrb : Code := cL c6arrlr
noncomputable def c6arrlrbo : Code := cL c6arrlrb
noncomputable def c6arrlrbol : Code := cL c6arrlrbo
noncomputable def p6arrlrbol (C : CF) (L : Nat) {β : Type} (x2 : Value) (x1 : Value) (h : H) (kn : Value → Value → H → Option β) (kx0 : Value → H → Option β) : Option β :=
  bnd (A.bin Try.prog .lss 3 x2 (.int .i64 64)) fun t15 =>
  toBK t15 fun b =>
  (bif b then
  kn x2 x1 h
  else
  kx0 x1 h)
theorem ep6arrlrbol (C : CF) (L : Nat) {β : Type} (x2 : Value) (x1 : Value) (h : H) (K : Ex → T Value → H → Option β) :
    execK Try.prog C L 0 217 [0] c6arrlrbol [2, 1] [(0, [1])] (fs [(2, x2), (1, x1)]) h K =
      p6arrlrbol C L x2 x1 h (fun x2 x1 h => K .normal (fs [(2, x2), (1, x1)]) h) (fun x1 h => K (.exit 0) (fs [(1, x1)]) h) := by
  kernel_rfl
noncomputable def c6arrlrbor : Code := cR c6arrlrbo
noncomputable def c6arrlrborl : Code := cL c6arrlrbor
noncomputable def c6arrlrborlb : Code := cL c6arrlrborl
noncomputable def c6arrlrborlbl : Code := cL c6arrlrborlb
noncomputable def p6arrlrborlbl (C : CF) (L : Nat) {β : Type} (x2 : Value) (x1 : Value) (h : H) (kn : Value → Value → Value → H → Option β) : Option β :=
  bnd2 (C 21 [x1, (.int .i64 63), (.int .i64 0)] h) fun t19 hq1 =>
  toBK t19 fun b =>
  bnd (A.un Try.prog .not (.bool b)) fun t20 =>
  toBK t20 fun bq1 =>
  (bif bq1 then
  kn (.bool true) x2 x1 hq1
  else
  bnd2 (C 29 [x2] hq1) fun t24 hq2 =>
  bnd2 (C 17 [x1, (.int .i64 63), (.int .i64 63), (.int .i64 7), t24] hq2) fun t25 hq3 =>
  toBK t25 fun bq2 =>
  bnd (A.un Try.prog .not (.bool bq2)) fun t26 =>
  toBK t26 fun bq3 =>
  (bif bq3 then
  kn (.bool true) x2 x1 hq3
  else
  bnd2 (C 29 [x2] hq3) fun t31 hq4 =>
  bnd2 (C 17 [x1, (.int .i64 63), (.int .i64 0), (.int .i64 1), t31] hq4) fun t32 hq5 =>
  toBK t32 fun bq4 =>
  bnd (A.un Try.prog .not (.bool bq4)) fun t33 =>
  toBK t33 fun bq5 =>
  kn (.bool bq5) x2 x1 hq5))
theorem ep6arrlrborlbl (C : CF) (L : Nat) {β : Type} (x2 : Value) (x1 : Value) (h : H) (K : Ex → T Value → H → Option β) :
    execK Try.prog C L 0 217 [0] c6arrlrborlbl [34, 2, 1] [(1, [2, 1]), (0, [1])] (fs [(2, x2), (1, x1)]) h K =
      p6arrlrborlbl C L x2 x1 h (fun x34 x2 x1 h => K .normal (fs [(34, x34), (2, x2), (1, x1)]) h) := by
  kernel_rfl
noncomputable def c6arrlrborlbr : Code := cR c6arrlrborlb
noncomputable def p6arrlrborlbr (C : CF) (L : Nat) {β : Type} (x34 : Value) (x2 : Value) (x1 : Value) (h : H) (kr : Value → H → Option β) (kn : Value → Value → H → Option β) : Option β :=
  condV x34 (
  kr (.bool false) h) (
  kn x2 x1 h)
theorem ep6arrlrborlbr (C : CF) (L : Nat) {β : Type} (x34 : Value) (x2 : Value) (x1 : Value) (h : H) (K : Ex → T Value → H → Option β) :
    execK Try.prog C L 0 217 [0] c6arrlrborlbr [2, 1] [(1, [2, 1]), (0, [1])] (fs [(34, x34), (2, x2), (1, x1)]) h K =
      p6arrlrborlbr C L x34 x2 x1 h (fun x0 h => K .ret (fs [(0, x0)]) h) (fun x2 x1 h => K .normal (fs [(2, x2), (1, x1)]) h) := by
  kernel_rfl
noncomputable def p6arrlrborlb (C : CF) (L : Nat) {β : Type} (x2 : Value) (x1 : Value) (h : H) (kr : Value → H → Option β) (kn : Value → Value → H → Option β) : Option β :=
  p6arrlrborlbl C L x2 x1 h (fun x34 x2 x1 h => p6arrlrborlbr C L x34 x2 x1 h kr kn)
theorem ep6arrlrborlb (C : CF) (L : Nat) {β : Type} (x2 : Value) (x1 : Value) (h : H) (K : Ex → T Value → H → Option β) :
    execK Try.prog C L 0 217 [0] c6arrlrborlb [2, 1] [(1, [2, 1]), (0, [1])] (fs [(2, x2), (1, x1)]) h K =
      p6arrlrborlb C L x2 x1 h (fun x0 h => K .ret (fs [(0, x0)]) h) (fun x2 x1 h => K .normal (fs [(2, x2), (1, x1)]) h) := by
  rw [execK_seq (a := c6arrlrborlbl) (b := c6arrlrborlbr) (by kernel_rfl) (show live [0] c6arrlrborlbr [2, 1] [(1, [2, 1]), (0, [1])] = [34, 2, 1] by kernel_rfl), ep6arrlrborlbl]
  unfold p6arrlrborlb
  exact (congrArg (p6arrlrborlbl C L x2 x1 h) (funext fun x34 => funext fun x2 => funext fun x1 => funext fun h => (seqK_n _ _ _).trans (ep6arrlrborlbr C L x34 x2 x1 h K)))
noncomputable def p6arrlrborl (C : CF) (L : Nat) {β : Type} (x2 : Value) (x1 : Value) (h : H) (kr : Value → H → Option β) (kn : Value → Value → H → Option β) : Option β :=
  p6arrlrborlb C L x2 x1 h kr kn
theorem ep6arrlrborl (C : CF) (L : Nat) {β : Type} (x2 : Value) (x1 : Value) (h : H) (K : Ex → T Value → H → Option β) :
    execK Try.prog C L 0 217 [0] c6arrlrborl [2, 1] [(0, [1])] (fs [(2, x2), (1, x1)]) h K =
      p6arrlrborl C L x2 x1 h (fun x0 h => K .ret (fs [(0, x0)]) h) (fun x2 x1 h => K .normal (fs [(2, x2), (1, x1)]) h) := by
  rw [execK_block (b := c6arrlrborlb) (id := 1) (by kernel_rfl), ep6arrlrborlb]
  unfold p6arrlrborl
  rfl
noncomputable def c6arrlrborr : Code := cR c6arrlrbor
noncomputable def p6arrlrborr (C : CF) (L : Nat) {β : Type} (x2 : Value) (x1 : Value) (h : H) (kn : Value → Value → H → Option β) : Option β :=
  bnd (A.bin Try.prog .add 3 x2 (.int .i64 1)) fun t17 =>
  kn t17 x1 h
theorem ep6arrlrborr (C : CF) (L : Nat) {β : Type} (x2 : Value) (x1 : Value) (h : H) (K : Ex → T Value → H → Option β) :
    execK Try.prog C L 0 217 [0] c6arrlrborr [2, 1] [(0, [1])] (fs [(2, x2), (1, x1)]) h K =
      p6arrlrborr C L x2 x1 h (fun x2 x1 h => K .normal (fs [(2, x2), (1, x1)]) h) := by
  kernel_rfl
noncomputable def p6arrlrbor (C : CF) (L : Nat) {β : Type} (x2 : Value) (x1 : Value) (h : H) (kn : Value → Value → H → Option β) (kr : Value → H → Option β) : Option β :=
  p6arrlrborl C L x2 x1 h kr (fun x2 x1 h => p6arrlrborr C L x2 x1 h kn)
theorem ep6arrlrbor (C : CF) (L : Nat) {β : Type} (x2 : Value) (x1 : Value) (h : H) (K : Ex → T Value → H → Option β) :
    execK Try.prog C L 0 217 [0] c6arrlrbor [2, 1] [(0, [1])] (fs [(2, x2), (1, x1)]) h K =
      p6arrlrbor C L x2 x1 h (fun x2 x1 h => K .normal (fs [(2, x2), (1, x1)]) h) (fun x0 h => K .ret (fs [(0, x0)]) h) := by
  rw [execK_seq (a := c6arrlrborl) (b := c6arrlrborr) (by kernel_rfl) (show live [0] c6arrlrborr [2, 1] [(0, [1])] = [2, 1] by kernel_rfl), ep6arrlrborl]
  unfold p6arrlrbor
  exact (congr (congrArg (p6arrlrborl C L x2 x1 h) (funext fun x0 => funext fun h => seqK_r _ _ _)) (funext fun x2 => funext fun x1 => funext fun h => (seqK_n _ _ _).trans (ep6arrlrborr C L x2 x1 h K)))
noncomputable def p6arrlrbo (C : CF) (L : Nat) {β : Type} (x2 : Value) (x1 : Value) (h : H) (kn : Value → Value → H → Option β) (kr : Value → H → Option β) (kx0 : Value → H → Option β) : Option β :=
  p6arrlrbol C L x2 x1 h (fun x2 x1 h => p6arrlrbor C L x2 x1 h kn kr) kx0
theorem ep6arrlrbo (C : CF) (L : Nat) {β : Type} (x2 : Value) (x1 : Value) (h : H) (K : Ex → T Value → H → Option β) :
    execK Try.prog C L 0 217 [0] c6arrlrbo [2, 1] [(0, [1])] (fs [(2, x2), (1, x1)]) h K =
      p6arrlrbo C L x2 x1 h (fun x2 x1 h => K .normal (fs [(2, x2), (1, x1)]) h) (fun x0 h => K .ret (fs [(0, x0)]) h) (fun x1 h => K (.exit 0) (fs [(1, x1)]) h) := by
  rw [execK_seq (a := c6arrlrbol) (b := c6arrlrbor) (by kernel_rfl) (show live [0] c6arrlrbor [2, 1] [(0, [1])] = [2, 1] by kernel_rfl), ep6arrlrbol]
  unfold p6arrlrbo
  exact (congr (congrArg (p6arrlrbol C L x2 x1 h) (funext fun x2 => funext fun x1 => funext fun h => (seqK_n _ _ _).trans (ep6arrlrbor C L x2 x1 h K))) (funext fun x1 => funext fun h => seqK_x _ _ _ _))
noncomputable def p6arrlrbw (C : CF) (L : Nat) {β : Type} (kr : Value → H → Option β) (kx0 : Value → H → Option β) : Nat → Value → Value → H → Option β
  | 0, _, _, _ => none
  | n + 1, x2, x1, h => p6arrlrbo C L x2 x1 h (fun x2 x1 h => p6arrlrbw C L kr kx0 n x2 x1 h) kr kx0
theorem ep6arrlrbw (C : CF) (L : Nat) {β : Type} (K : Ex → T Value → H → Option β) : ∀ (n : Nat) (x2 : Value) (x1 : Value) (h : H),
    loopK (fun fr h K => execK Try.prog C L 0 217 [0] c6arrlrbo [2, 1] [(0, [1])] fr h K) n (fs [(2, x2), (1, x1)]) h K =
      p6arrlrbw C L (fun x0 h => K .ret (fs [(0, x0)]) h) (fun x1 h => K (.exit 0) (fs [(1, x1)]) h) n x2 x1 h := by
  intro n
  induction n with
  | zero => intros; rfl
  | succ n ih =>
    intros
    simp only [loopK]
    rw [ep6arrlrbo]
    simp only [seqK_n, seqK_x, seqK_r, ih]
    rfl
noncomputable def p6arrlrb (C : CF) (L : Nat) {β : Type} (x2 : Value) (x1 : Value) (h : H) (kr : Value → H → Option β) (kx0 : Value → H → Option β) : Option β :=
  p6arrlrbw C L kr kx0 L x2 x1 h
theorem ep6arrlrb (C : CF) (L : Nat) {β : Type} (x2 : Value) (x1 : Value) (h : H) (K : Ex → T Value → H → Option β) :
    execK Try.prog C L 0 217 [0] c6arrlrb [1] [(0, [1])] (fs [(2, x2), (1, x1)]) h K =
      p6arrlrb C L x2 x1 h (fun x0 h => K .ret (fs [(0, x0)]) h) (fun x1 h => K (.exit 0) (fs [(1, x1)]) h) := by
  rw [execK_loop (b := c6arrlrbo) (fr1 := (fs [(2, x2), (1, x1)])) (by kernel_rfl) (show live [0] c6arrlrbo [] [(0, [1])] = [2, 1] by kernel_rfl) (by kernel_rfl), ep6arrlrbw]
  unfold p6arrlrb
  rfl
noncomputable def p6arrlr (C : CF) (L : Nat) {β : Type} (x2 : Value) (x1 : Value) (h : H) (kr : Value → H → Option β) (kn : Value → H → Option β) : Option β :=
  p6arrlrb C L x2 x1 h kr kn
theorem ep6arrlr (C : CF) (L : Nat) {β : Type} (x2 : Value) (x1 : Value) (h : H) (K : Ex → T Value → H → Option β) :
    execK Try.prog C L 0 217 [0] c6arrlr [1] [] (fs [(2, x2), (1, x1)]) h K =
      p6arrlr C L x2 x1 h (fun x0 h => K .ret (fs [(0, x0)]) h) (fun x1 h => K .normal (fs [(1, x1)]) h) := by
  rw [execK_block (b := c6arrlrb) (id := 0) (by kernel_rfl), ep6arrlrb]
  unfold p6arrlr
  rfl
noncomputable def p6arrl (C : CF) (L : Nat) {β : Type} (x1 : Value) (h : H) (kr : Value → H → Option β) (kn : Value → H → Option β) : Option β :=
  p6arrll C L x1 h (fun x2 x1 h => p6arrlr C L x2 x1 h kr kn)
theorem ep6arrl (C : CF) (L : Nat) {β : Type} (x1 : Value) (h : H) (K : Ex → T Value → H → Option β) :
    execK Try.prog C L 0 217 [0] c6arrl [1] [] (fs [(1, x1)]) h K =
      p6arrl C L x1 h (fun x0 h => K .ret (fs [(0, x0)]) h) (fun x1 h => K .normal (fs [(1, x1)]) h) := by
  rw [execK_seq (a := c6arrll) (b := c6arrlr) (by kernel_rfl) (show live [0] c6arrlr [1] [] = [2, 1] by kernel_rfl), ep6arrll]
  unfold p6arrl
  exact (congrArg (p6arrll C L x1 h) (funext fun x2 => funext fun x1 => funext fun h => (seqK_n _ _ _).trans (ep6arrlr C L x2 x1 h K)))
noncomputable def c6arrr : Code := cR c6arr
noncomputable def c6arrrl : Code := cL c6arrr
noncomputable def c6arrrll : Code := cL c6arrrl
noncomputable def p6arrrll (C : CF) (L : Nat) {β : Type} (x1 : Value) (h : H) (kn : Value → Value → H → Option β) : Option β :=
  bnd2 (C 29 [(.int .i64 64)] h) fun t36 hq1 =>
  bnd2 (C 17 [x1, (.int .i64 63), (.int .i64 63), (.int .i64 7), t36] hq1) fun t37 hq2 =>
  toBK t37 fun b =>
  (bif b then
  kn (.bool true) x1 hq2
  else
  bnd2 (C 21 [x1, (.int .i64 63), (.int .i64 6)] hq2) fun t40 hq3 =>
  toBK t40 fun bq1 =>
  (bif bq1 then
  kn (.bool true) x1 hq3
  else
  bnd2 (C 21 [x1, (.int .i64 63), (.int .i64 7)] hq3) fun t44 hq4 =>
  toBK t44 fun bq2 =>
  bnd (A.un Try.prog .not (.bool bq2)) fun t45 =>
  toBK t45 fun bq3 =>
  (bif bq3 then
  kn (.bool true) x1 hq4
  else
  bnd2 (C 23 [x1, (.int .i64 63), (.int .i64 63), (.int .i64 7)] hq4) fun t49 hq5 =>
  bnd (A.bin Try.prog .neq 3 t49 (.int .i64 64)) fun t50 =>
  toBK t50 fun bq4 =>
  (bif bq4 then
  kn (.bool true) x1 hq5
  else
  bnd2 (C 25 [x1] hq5) fun t54 hq6 =>
  bnd (A.bin Try.prog .neq 3 t54 (.int .i64 128)) fun t55 =>
  toBK t55 fun bq5 =>
  (bif bq5 then
  kn (.bool true) x1 hq6
  else
  bnd2 (C 29 [(.int .i64 1)] hq6) fun t59 hq7 =>
  bnd2 (C 17 [x1, (.int .i64 64), (.int .i64 0), (.int .i64 1), t59] hq7) fun t60 hq8 =>
  toBK t60 fun bq6 =>
  (bif bq6 then
  kn (.bool true) x1 hq8
  else
  bnd2 (C 29 [(.int .i64 1)] hq8) fun t64 hq9 =>
  bnd2 (C 17 [x1, (.int .i64 0), (.int .i64 64), (.int .i64 1), t64] hq9) fun t65 hq10 =>
  toBK t65 fun bq7 =>
  (bif bq7 then
  kn (.bool true) x1 hq10
  else
  bnd2 (C 29 [(.int .i64 1)] hq10) fun t69 hq11 =>
  bnd2 (C 17 [x1, (.int .i64 (-1)), (.int .i64 0), (.int .i64 1), t69] hq11) fun t70 hq12 =>
  toBK t70 fun bq8 =>
  (bif bq8 then
  kn (.bool true) x1 hq12
  else
  bnd2 (C 29 [(.int .i64 1)] hq12) fun t74 hq13 =>
  bnd2 (C 17 [x1, (.int .i64 0), (.int .i64 (-1)), (.int .i64 1), t74] hq13) fun t75 hq14 =>
  toBK t75 fun bq9 =>
  (bif bq9 then
  kn (.bool true) x1 hq14
  else
  bnd2 (C 29 [(.int .i64 1)] hq14) fun t79 hq15 =>
  bnd2 (C 17 [x1, (.int .i64 0), (.int .i64 0), (.int .i64 0), t79] hq15) fun t80 hq16 =>
  toBK t80 fun bq10 =>
  (bif bq10 then
  kn (.bool true) x1 hq16
  else
  bnd2 (C 21 [x1, (.int .i64 (-1)), (.int .i64 0)] hq16) fun t84 hq17 =>
  toBK t84 fun bq11 =>
  (bif bq11 then
  kn (.bool true) x1 hq17
  else
  bnd2 (C 21 [x1, (.int .i64 0), (.int .i64 (-1))] hq17) fun t88 hq18 =>
  toBK t88 fun bq12 =>
  kn (.bool bq12) x1 hq18)))))))))))
theorem ep6arrrll (C : CF) (L : Nat) {β : Type} (x1 : Value) (h : H) (K : Ex → T Value → H → Option β) :
    execK Try.prog C L 0 217 [0] c6arrrll [89, 1] [] (fs [(1, x1)]) h K =
      p6arrrll C L x1 h (fun x89 x1 h => K .normal (fs [(89, x89), (1, x1)]) h) := by
  kernel_rfl
noncomputable def c6arrrlr : Code := cR c6arrrl
noncomputable def p6arrrlr (C : CF) (L : Nat) {β : Type} (x89 : Value) (x1 : Value) (h : H) (kr : Value → H → Option β) (kn : Value → H → Option β) : Option β :=
  condV x89 (
  kr (.bool false) h) (
  kn x1 h)
theorem ep6arrrlr (C : CF) (L : Nat) {β : Type} (x89 : Value) (x1 : Value) (h : H) (K : Ex → T Value → H → Option β) :
    execK Try.prog C L 0 217 [0] c6arrrlr [1] [] (fs [(89, x89), (1, x1)]) h K =
      p6arrrlr C L x89 x1 h (fun x0 h => K .ret (fs [(0, x0)]) h) (fun x1 h => K .normal (fs [(1, x1)]) h) := by
  kernel_rfl
noncomputable def p6arrrl (C : CF) (L : Nat) {β : Type} (x1 : Value) (h : H) (kr : Value → H → Option β) (kn : Value → H → Option β) : Option β :=
  p6arrrll C L x1 h (fun x89 x1 h => p6arrrlr C L x89 x1 h kr kn)
theorem ep6arrrl (C : CF) (L : Nat) {β : Type} (x1 : Value) (h : H) (K : Ex → T Value → H → Option β) :
    execK Try.prog C L 0 217 [0] c6arrrl [1] [] (fs [(1, x1)]) h K =
      p6arrrl C L x1 h (fun x0 h => K .ret (fs [(0, x0)]) h) (fun x1 h => K .normal (fs [(1, x1)]) h) := by
  rw [execK_seq (a := c6arrrll) (b := c6arrrlr) (by kernel_rfl) (show live [0] c6arrrlr [1] [] = [89, 1] by kernel_rfl), ep6arrrll]
  unfold p6arrrl
  exact (congrArg (p6arrrll C L x1 h) (funext fun x89 => funext fun x1 => funext fun h => (seqK_n _ _ _).trans (ep6arrrlr C L x89 x1 h K)))
noncomputable def c6arrrr : Code := cR c6arrr
noncomputable def c6arrrrl : Code := cL c6arrrr
noncomputable def c6arrrrll : Code := cL c6arrrrl
noncomputable def p6arrrrll (C : CF) (L : Nat) {β : Type} (x1 : Value) (h : H) (kn : Value → Value → H → Option β) : Option β :=
  kn (.int .i64 0) x1 h
theorem ep6arrrrll (C : CF) (L : Nat) {β : Type} (x1 : Value) (h : H) (K : Ex → T Value → H → Option β) :
    execK Try.prog C L 0 217 [0] c6arrrrll [3, 1] [] (fs [(1, x1)]) h K =
      p6arrrrll C L x1 h (fun x3 x1 h => K .normal (fs [(3, x3), (1, x1)]) h) := by
  kernel_rfl
noncomputable def c6arrrrlr : Code := cR c6arrrrl
noncomputable def c6arrrrlrb : Code := cL c6arrrrlr
noncomputable def c6arrrrlrbo : Code := cL c6arrrrlrb
noncomputable def c6arrrrlrbol : Code := cL c6arrrrlrbo
noncomputable def p6arrrrlrbol (C : CF) (L : Nat) {β : Type} (x3 : Value) (x1 : Value) (h : H) (kn : Value → Value → H → Option β) (kx2 : H → Option β) : Option β :=
  bnd (A.bin Try.prog .lss 3 x3 (.int .i64 64)) fun t91 =>
  toBK t91 fun b =>
  (bif b then
  kn x3 x1 h
  else
  kx2 h)
theorem ep6arrrrlrbol (C : CF) (L : Nat) {β : Type} (x3 : Value) (x1 : Value) (h : H) (K : Ex → T Value → H → Option β) :
    execK Try.prog C L 0 217 [0] c6arrrrlrbol [3, 1] [(2, [])] (fs [(3, x3), (1, x1)]) h K =
      p6arrrrlrbol C L x3 x1 h (fun x3 x1 h => K .normal (fs [(3, x3), (1, x1)]) h) (fun h => K (.exit 2) (fs []) h) := by
  kernel_rfl
noncomputable def c6arrrrlrbor : Code := cR c6arrrrlrbo
noncomputable def c6arrrrlrborl : Code := cL c6arrrrlrbor
noncomputable def c6arrrrlrborlb : Code := cL c6arrrrlrborl
noncomputable def c6arrrrlrborlbl : Code := cL c6arrrrlrborlb
noncomputable def p6arrrrlrborlbl (C : CF) (L : Nat) {β : Type} (x3 : Value) (x1 : Value) (h : H) (kn : Value → Value → Value → Value → H → Option β) : Option β :=
  bnd2 (C 12 [x1, (.int .i64 63), (.int .i64 63), (.int .i64 7)] h) fun t96 hq1 =>
  bnd (A.extract 0 t96) fun t97 =>
  bnd (A.extract 1 t96) fun t98 =>
  toBK t98 fun b =>
  kn t97 (.bool b) x3 x1 hq1
theorem ep6arrrrlrborlbl (C : CF) (L : Nat) {β : Type} (x3 : Value) (x1 : Value) (h : H) (K : Ex → T Value → H → Option β) :
    execK Try.prog C L 0 217 [0] c6arrrrlrborlbl [4, 5, 3, 1] [(3, [3, 1]), (2, [])] (fs [(3, x3), (1, x1)]) h K =
      p6arrrrlrborlbl C L x3 x1 h (fun x4 x5 x3 x1 h => K .normal (fs [(4, x4), (5, x5), (3, x3), (1, x1)]) h) := by
  kernel_rfl
noncomputable def c6arrrrlrborlbr : Code := cR c6arrrrlrborlb
noncomputable def c6arrrrlrborlbrl : Code := cL c6arrrrlrborlbr
noncomputable def p6arrrrlrborlbrl (C : CF) (L : Nat) {β : Type} (x4 : Value) (x5 : Value) (x3 : Value) (x1 : Value) (h : H) (kn : Value → Value → Value → H → Option β) : Option β :=
  toBK x5 fun b =>
  bnd2 (C 30 [x4, (.bool b), x3] h) fun t102 hq1 =>
  toBK t102 fun bq1 =>
  bnd (A.un Try.prog .not (.bool bq1)) fun t103 =>
  toBK t103 fun bq2 =>
  (bif bq2 then
  kn (.bool true) x3 x1 hq1
  else
  bnd2 (C 21 [x1, (.int .i64 63), (.int .i64 6)] hq1) fun t106 hq2 =>
  toBK t106 fun bq3 =>
  bnd (A.un Try.prog .not (.bool bq3)) fun t107 =>
  toBK t107 fun bq4 =>
  (bif bq4 then
  kn (.bool true) x3 x1 hq2
  else
  bnd2 (C 21 [x1, (.int .i64 63), (.int .i64 0)] hq2) fun t111 hq3 =>
  toBK t111 fun bq5 =>
  (bif bq5 then
  kn (.bool true) x3 x1 hq3
  else
  bnd2 (C 21 [x1, (.int .i64 63), (.int .i64 1)] hq3) fun t115 hq4 =>
  toBK t115 fun bq6 =>
  bnd (A.un Try.prog .not (.bool bq6)) fun t116 =>
  toBK t116 fun bq7 =>
  kn (.bool bq7) x3 x1 hq4)))
theorem ep6arrrrlrborlbrl (C : CF) (L : Nat) {β : Type} (x4 : Value) (x5 : Value) (x3 : Value) (x1 : Value) (h : H) (K : Ex → T Value → H → Option β) :
    execK Try.prog C L 0 217 [0] c6arrrrlrborlbrl [117, 3, 1] [(3, [3, 1]), (2, [])] (fs [(4, x4), (5, x5), (3, x3), (1, x1)]) h K =
      p6arrrrlrborlbrl C L x4 x5 x3 x1 h (fun x117 x3 x1 h => K .normal (fs [(117, x117), (3, x3), (1, x1)]) h) := by
  kernel_rfl
noncomputable def c6arrrrlrborlbrr : Code := cR c6arrrrlrborlbr
noncomputable def p6arrrrlrborlbrr (C : CF) (L : Nat) {β : Type} (x117 : Value) (x3 : Value) (x1 : Value) (h : H) (kr : Value → H → Option β) (kn : Value → Value → H → Option β) : Option β :=
  condV x117 (
  kr (.bool false) h) (
  kn x3 x1 h)
theorem ep6arrrrlrborlbrr (C : CF) (L : Nat) {β : Type} (x117 : Value) (x3 : Value) (x1 : Value) (h : H) (K : Ex → T Value → H → Option β) :
    execK Try.prog C L 0 217 [0] c6arrrrlrborlbrr [3, 1] [(3, [3, 1]), (2, [])] (fs [(117, x117), (3, x3), (1, x1)]) h K =
      p6arrrrlrborlbrr C L x117 x3 x1 h (fun x0 h => K .ret (fs [(0, x0)]) h) (fun x3 x1 h => K .normal (fs [(3, x3), (1, x1)]) h) := by
  kernel_rfl
noncomputable def p6arrrrlrborlbr (C : CF) (L : Nat) {β : Type} (x4 : Value) (x5 : Value) (x3 : Value) (x1 : Value) (h : H) (kr : Value → H → Option β) (kn : Value → Value → H → Option β) : Option β :=
  p6arrrrlrborlbrl C L x4 x5 x3 x1 h (fun x117 x3 x1 h => p6arrrrlrborlbrr C L x117 x3 x1 h kr kn)
theorem ep6arrrrlrborlbr (C : CF) (L : Nat) {β : Type} (x4 : Value) (x5 : Value) (x3 : Value) (x1 : Value) (h : H) (K : Ex → T Value → H → Option β) :
    execK Try.prog C L 0 217 [0] c6arrrrlrborlbr [3, 1] [(3, [3, 1]), (2, [])] (fs [(4, x4), (5, x5), (3, x3), (1, x1)]) h K =
      p6arrrrlrborlbr C L x4 x5 x3 x1 h (fun x0 h => K .ret (fs [(0, x0)]) h) (fun x3 x1 h => K .normal (fs [(3, x3), (1, x1)]) h) := by
  rw [execK_seq (a := c6arrrrlrborlbrl) (b := c6arrrrlrborlbrr) (by kernel_rfl) (show live [0] c6arrrrlrborlbrr [3, 1] [(3, [3, 1]), (2, [])] = [117, 3, 1] by kernel_rfl), ep6arrrrlrborlbrl]
  unfold p6arrrrlrborlbr
  exact (congrArg (p6arrrrlrborlbrl C L x4 x5 x3 x1 h) (funext fun x117 => funext fun x3 => funext fun x1 => funext fun h => (seqK_n _ _ _).trans (ep6arrrrlrborlbrr C L x117 x3 x1 h K)))
noncomputable def p6arrrrlrborlb (C : CF) (L : Nat) {β : Type} (x3 : Value) (x1 : Value) (h : H) (kr : Value → H → Option β) (kn : Value → Value → H → Option β) : Option β :=
  p6arrrrlrborlbl C L x3 x1 h (fun x4 x5 x3 x1 h => p6arrrrlrborlbr C L x4 x5 x3 x1 h kr kn)
theorem ep6arrrrlrborlb (C : CF) (L : Nat) {β : Type} (x3 : Value) (x1 : Value) (h : H) (K : Ex → T Value → H → Option β) :
    execK Try.prog C L 0 217 [0] c6arrrrlrborlb [3, 1] [(3, [3, 1]), (2, [])] (fs [(3, x3), (1, x1)]) h K =
      p6arrrrlrborlb C L x3 x1 h (fun x0 h => K .ret (fs [(0, x0)]) h) (fun x3 x1 h => K .normal (fs [(3, x3), (1, x1)]) h) := by
  rw [execK_seq (a := c6arrrrlrborlbl) (b := c6arrrrlrborlbr) (by kernel_rfl) (show live [0] c6arrrrlrborlbr [3, 1] [(3, [3, 1]), (2, [])] = [4, 5, 3, 1] by kernel_rfl), ep6arrrrlrborlbl]
  unfold p6arrrrlrborlb
  exact (congrArg (p6arrrrlrborlbl C L x3 x1 h) (funext fun x4 => funext fun x5 => funext fun x3 => funext fun x1 => funext fun h => (seqK_n _ _ _).trans (ep6arrrrlrborlbr C L x4 x5 x3 x1 h K)))
noncomputable def p6arrrrlrborl (C : CF) (L : Nat) {β : Type} (x3 : Value) (x1 : Value) (h : H) (kr : Value → H → Option β) (kn : Value → Value → H → Option β) : Option β :=
  p6arrrrlrborlb C L x3 x1 h kr kn
theorem ep6arrrrlrborl (C : CF) (L : Nat) {β : Type} (x3 : Value) (x1 : Value) (h : H) (K : Ex → T Value → H → Option β) :
    execK Try.prog C L 0 217 [0] c6arrrrlrborl [3, 1] [(2, [])] (fs [(3, x3), (1, x1)]) h K =
      p6arrrrlrborl C L x3 x1 h (fun x0 h => K .ret (fs [(0, x0)]) h) (fun x3 x1 h => K .normal (fs [(3, x3), (1, x1)]) h) := by
  rw [execK_block (b := c6arrrrlrborlb) (id := 3) (by kernel_rfl), ep6arrrrlrborlb]
  unfold p6arrrrlrborl
  rfl
noncomputable def c6arrrrlrborr : Code := cR c6arrrrlrbor
noncomputable def p6arrrrlrborr (C : CF) (L : Nat) {β : Type} (x3 : Value) (x1 : Value) (h : H) (kn : Value → Value → H → Option β) : Option β :=
  bnd (A.bin Try.prog .add 3 x3 (.int .i64 1)) fun t93 =>
  kn t93 x1 h
theorem ep6arrrrlrborr (C : CF) (L : Nat) {β : Type} (x3 : Value) (x1 : Value) (h : H) (K : Ex → T Value → H → Option β) :
    execK Try.prog C L 0 217 [0] c6arrrrlrborr [3, 1] [(2, [])] (fs [(3, x3), (1, x1)]) h K =
      p6arrrrlrborr C L x3 x1 h (fun x3 x1 h => K .normal (fs [(3, x3), (1, x1)]) h) := by
  kernel_rfl
noncomputable def p6arrrrlrbor (C : CF) (L : Nat) {β : Type} (x3 : Value) (x1 : Value) (h : H) (kn : Value → Value → H → Option β) (kr : Value → H → Option β) : Option β :=
  p6arrrrlrborl C L x3 x1 h kr (fun x3 x1 h => p6arrrrlrborr C L x3 x1 h kn)
theorem ep6arrrrlrbor (C : CF) (L : Nat) {β : Type} (x3 : Value) (x1 : Value) (h : H) (K : Ex → T Value → H → Option β) :
    execK Try.prog C L 0 217 [0] c6arrrrlrbor [3, 1] [(2, [])] (fs [(3, x3), (1, x1)]) h K =
      p6arrrrlrbor C L x3 x1 h (fun x3 x1 h => K .normal (fs [(3, x3), (1, x1)]) h) (fun x0 h => K .ret (fs [(0, x0)]) h) := by
  rw [execK_seq (a := c6arrrrlrborl) (b := c6arrrrlrborr) (by kernel_rfl) (show live [0] c6arrrrlrborr [3, 1] [(2, [])] = [3, 1] by kernel_rfl), ep6arrrrlrborl]
  unfold p6arrrrlrbor
  exact (congr (congrArg (p6arrrrlrborl C L x3 x1 h) (funext fun x0 => funext fun h => seqK_r _ _ _)) (funext fun x3 => funext fun x1 => funext fun h => (seqK_n _ _ _).trans (ep6arrrrlrborr C L x3 x1 h K)))
noncomputable def p6arrrrlrbo (C : CF) (L : Nat) {β : Type} (x3 : Value) (x1 : Value) (h : H) (kn : Value → Value → H → Option β) (kr : Value → H → Option β) (kx2 : H → Option β) : Option β :=
  p6arrrrlrbol C L x3 x1 h (fun x3 x1 h => p6arrrrlrbor C L x3 x1 h kn kr) kx2
theorem ep6arrrrlrbo (C : CF) (L : Nat) {β : Type} (x3 : Value) (x1 : Value) (h : H) (K : Ex → T Value → H → Option β) :
    execK Try.prog C L 0 217 [0] c6arrrrlrbo [3, 1] [(2, [])] (fs [(3, x3), (1, x1)]) h K =
      p6arrrrlrbo C L x3 x1 h (fun x3 x1 h => K .normal (fs [(3, x3), (1, x1)]) h) (fun x0 h => K .ret (fs [(0, x0)]) h) (fun h => K (.exit 2) (fs []) h) := by
  rw [execK_seq (a := c6arrrrlrbol) (b := c6arrrrlrbor) (by kernel_rfl) (show live [0] c6arrrrlrbor [3, 1] [(2, [])] = [3, 1] by kernel_rfl), ep6arrrrlrbol]
  unfold p6arrrrlrbo
  exact (congr (congrArg (p6arrrrlrbol C L x3 x1 h) (funext fun x3 => funext fun x1 => funext fun h => (seqK_n _ _ _).trans (ep6arrrrlrbor C L x3 x1 h K))) (funext fun h => seqK_x _ _ _ _))
noncomputable def p6arrrrlrbw (C : CF) (L : Nat) {β : Type} (kr : Value → H → Option β) (kx2 : H → Option β) : Nat → Value → Value → H → Option β
  | 0, _, _, _ => none
  | n + 1, x3, x1, h => p6arrrrlrbo C L x3 x1 h (fun x3 x1 h => p6arrrrlrbw C L kr kx2 n x3 x1 h) kr kx2
theorem ep6arrrrlrbw (C : CF) (L : Nat) {β : Type} (K : Ex → T Value → H → Option β) : ∀ (n : Nat) (x3 : Value) (x1 : Value) (h : H),
    loopK (fun fr h K => execK Try.prog C L 0 217 [0] c6arrrrlrbo [3, 1] [(2, [])] fr h K) n (fs [(3, x3), (1, x1)]) h K =
      p6arrrrlrbw C L (fun x0 h => K .ret (fs [(0, x0)]) h) (fun h => K (.exit 2) (fs []) h) n x3 x1 h := by
  intro n
  induction n with
  | zero => intros; rfl
  | succ n ih =>
    intros
    simp only [loopK]
    rw [ep6arrrrlrbo]
    simp only [seqK_n, seqK_x, seqK_r, ih]
    rfl
noncomputable def p6arrrrlrb (C : CF) (L : Nat) {β : Type} (x3 : Value) (x1 : Value) (h : H) (kr : Value → H → Option β) (kx2 : H → Option β) : Option β :=
  p6arrrrlrbw C L kr kx2 L x3 x1 h
theorem ep6arrrrlrb (C : CF) (L : Nat) {β : Type} (x3 : Value) (x1 : Value) (h : H) (K : Ex → T Value → H → Option β) :
    execK Try.prog C L 0 217 [0] c6arrrrlrb [] [(2, [])] (fs [(3, x3), (1, x1)]) h K =
      p6arrrrlrb C L x3 x1 h (fun x0 h => K .ret (fs [(0, x0)]) h) (fun h => K (.exit 2) (fs []) h) := by
  rw [execK_loop (b := c6arrrrlrbo) (fr1 := (fs [(3, x3), (1, x1)])) (by kernel_rfl) (show live [0] c6arrrrlrbo [] [(2, [])] = [3, 1] by kernel_rfl) (by kernel_rfl), ep6arrrrlrbw]
  unfold p6arrrrlrb
  rfl
noncomputable def p6arrrrlr (C : CF) (L : Nat) {β : Type} (x3 : Value) (x1 : Value) (h : H) (kr : Value → H → Option β) (kn : H → Option β) : Option β :=
  p6arrrrlrb C L x3 x1 h kr kn
theorem ep6arrrrlr (C : CF) (L : Nat) {β : Type} (x3 : Value) (x1 : Value) (h : H) (K : Ex → T Value → H → Option β) :
    execK Try.prog C L 0 217 [0] c6arrrrlr [] [] (fs [(3, x3), (1, x1)]) h K =
      p6arrrrlr C L x3 x1 h (fun x0 h => K .ret (fs [(0, x0)]) h) (fun h => K .normal (fs []) h) := by
  rw [execK_block (b := c6arrrrlrb) (id := 2) (by kernel_rfl), ep6arrrrlrb]
  unfold p6arrrrlr
  rfl
noncomputable def p6arrrrl (C : CF) (L : Nat) {β : Type} (x1 : Value) (h : H) (kr : Value → H → Option β) (kn : H → Option β) : Option β :=
  p6arrrrll C L x1 h (fun x3 x1 h => p6arrrrlr C L x3 x1 h kr kn)
theorem ep6arrrrl (C : CF) (L : Nat) {β : Type} (x1 : Value) (h : H) (K : Ex → T Value → H → Option β) :
    execK Try.prog C L 0 217 [0] c6arrrrl [] [] (fs [(1, x1)]) h K =
      p6arrrrl C L x1 h (fun x0 h => K .ret (fs [(0, x0)]) h) (fun h => K .normal (fs []) h) := by
  rw [execK_seq (a := c6arrrrll) (b := c6arrrrlr) (by kernel_rfl) (show live [0] c6arrrrlr [] [] = [3, 1] by kernel_rfl), ep6arrrrll]
  unfold p6arrrrl
  exact (congrArg (p6arrrrll C L x1 h) (funext fun x3 => funext fun x1 => funext fun h => (seqK_n _ _ _).trans (ep6arrrrlr C L x3 x1 h K)))
noncomputable def c6arrrrr : Code := cR c6arrrr
noncomputable def c6arrrrrl : Code := cL c6arrrrr
noncomputable def c6arrrrrll : Code := cL c6arrrrrl
noncomputable def p6arrrrrll (C : CF) (L : Nat) {β : Type} (h : H) (kn : Value → H → Option β) : Option β :=
  bnd2 (C 10 [(.int .i64 0), (.int .i64 1)] h) fun t118 hq1 =>
  bnd (A.bin Try.prog .neq 25 t118 (.pointer none)) fun t119 =>
  toBK t119 fun b =>
  (bif b then
  kn (.bool true) hq1
  else
  bnd2 (C 10 [(.int .i64 65), (.int .i64 1)] hq1) fun t121 hq2 =>
  bnd (A.bin Try.prog .neq 25 t121 (.pointer none)) fun t122 =>
  toBK t122 fun bq1 =>
  (bif bq1 then
  kn (.bool true) hq2
  else
  bnd2 (C 10 [(.int .i64 1), (.int .i64 0)] hq2) fun t125 hq3 =>
  bnd (A.bin Try.prog .neq 25 t125 (.pointer none)) fun t126 =>
  toBK t126 fun bq2 =>
  (bif bq2 then
  kn (.bool true) hq3
  else
  bnd2 (C 10 [(.int .i64 1), (.int .i64 65)] hq3) fun t129 hq4 =>
  bnd (A.bin Try.prog .neq 25 t129 (.pointer none)) fun t130 =>
  toBK t130 fun bq3 =>
  (bif bq3 then
  kn (.bool true) hq4
  else
  bnd2 (C 29 [(.int .i64 1)] hq4) fun t133 hq5 =>
  bnd2 (C 29 [(.int .i64 2)] hq5) fun t134 hq6 =>
  bnd2 (C 31 [t133, t134] hq6) fun t135 hq7 =>
  toBK t135 fun bq4 =>
  (bif bq4 then
  kn (.bool true) hq7
  else
  bnd2 (A.buildSlice 38 0 Z71L [] hq7) fun t138 hq8 =>
  bnd2 (C 31 [(.slice none 0 0), t138] hq8) fun t139 hq9 =>
  toBK t139 fun bq5 =>
  bnd (A.un Try.prog .not (.bool bq5)) fun t140 =>
  toBK t140 fun bq6 =>
  (bif bq6 then
  kn (.bool true) hq9
  else
  bnd2 (C 32 [(.slice none 0 0)] hq9) fun t143 hq10 =>
  bnd (A.lenS t143) fun t144 =>
  bnd (A.bin Try.prog .neq 3 t144 (.int .i64 0)) fun t145 =>
  toBK t145 fun bq7 =>
  kn (.bool bq7) hq10))))))
theorem ep6arrrrrll (C : CF) (L : Nat) {β : Type} (h : H) (K : Ex → T Value → H → Option β) :
    execK Try.prog C L 0 217 [0] c6arrrrrll [146] [] (fs []) h K =
      p6arrrrrll C L h (fun x146 h => K .normal (fs [(146, x146)]) h) := by
  kernel_rfl
noncomputable def c6arrrrrlr : Code := cR c6arrrrrl
noncomputable def p6arrrrrlr (C : CF) (L : Nat) {β : Type} (x146 : Value) (h : H) (kr : Value → H → Option β) (kn : H → Option β) : Option β :=
  condV x146 (
  kr (.bool false) h) (
  kn h)
theorem ep6arrrrrlr (C : CF) (L : Nat) {β : Type} (x146 : Value) (h : H) (K : Ex → T Value → H → Option β) :
    execK Try.prog C L 0 217 [0] c6arrrrrlr [] [] (fs [(146, x146)]) h K =
      p6arrrrrlr C L x146 h (fun x0 h => K .ret (fs [(0, x0)]) h) (fun h => K .normal (fs []) h) := by
  kernel_rfl
noncomputable def p6arrrrrl (C : CF) (L : Nat) {β : Type} (h : H) (kr : Value → H → Option β) (kn : H → Option β) : Option β :=
  p6arrrrrll C L h (fun x146 h => p6arrrrrlr C L x146 h kr kn)
theorem ep6arrrrrl (C : CF) (L : Nat) {β : Type} (h : H) (K : Ex → T Value → H → Option β) :
    execK Try.prog C L 0 217 [0] c6arrrrrl [] [] (fs []) h K =
      p6arrrrrl C L h (fun x0 h => K .ret (fs [(0, x0)]) h) (fun h => K .normal (fs []) h) := by
  rw [execK_seq (a := c6arrrrrll) (b := c6arrrrrlr) (by kernel_rfl) (show live [0] c6arrrrrlr [] [] = [146] by kernel_rfl), ep6arrrrrll]
  unfold p6arrrrrl
  exact (congrArg (p6arrrrrll C L h) (funext fun x146 => funext fun h => (seqK_n _ _ _).trans (ep6arrrrrlr C L x146 h K)))
noncomputable def c6arrrrrr : Code := cR c6arrrrr
noncomputable def c6arrrrrrl : Code := cL c6arrrrrr
noncomputable def p6arrrrrrl (C : CF) (L : Nat) {β : Type} (h : H) (kn : Value → H → Option β) : Option β :=
  kn (.pointer none) h
theorem ep6arrrrrrl (C : CF) (L : Nat) {β : Type} (h : H) (K : Ex → T Value → H → Option β) :
    execK Try.prog C L 0 217 [0] c6arrrrrrl [6] [] (fs []) h K =
      p6arrrrrrl C L h (fun x6 h => K .normal (fs [(6, x6)]) h) := by
  kernel_rfl
noncomputable def c6arrrrrrr : Code := cR c6arrrrrr
noncomputable def c6arrrrrrrl : Code := cL c6arrrrrrr
noncomputable def p6arrrrrrrl (C : CF) (L : Nat) {β : Type} (x6 : Value) (h : H) (kn : Value → H → Option β) : Option β :=
  bnd (A.build Z48L []) fun t148 =>
  bnd2 (A.box 5 t148 h) fun t149 hq1 =>
  bnd2 (A.buildSlice 1 2 Z25L [(0, 1, x6), (1, 1, t149)] hq1) fun t150 hq2 =>
  kn t150 hq2
theorem ep6arrrrrrrl (C : CF) (L : Nat) {β : Type} (x6 : Value) (h : H) (K : Ex → T Value → H → Option β) :
    execK Try.prog C L 0 217 [0] c6arrrrrrrl [7] [] (fs [(6, x6)]) h K =
      p6arrrrrrrl C L x6 h (fun x7 h => K .normal (fs [(7, x7)]) h) := by
  kernel_rfl
noncomputable def c6arrrrrrrr : Code := cR c6arrrrrrr
noncomputable def c6arrrrrrrrl : Code := cL c6arrrrrrrr
noncomputable def c6arrrrrrrrll : Code := cL c6arrrrrrrrl
noncomputable def p6arrrrrrrrll (C : CF) (L : Nat) {β : Type} (x7 : Value) (h : H) (kn : Value → Value → H → Option β) : Option β :=
  kn (.int .i64 0) x7 h
theorem ep6arrrrrrrrll (C : CF) (L : Nat) {β : Type} (x7 : Value) (h : H) (K : Ex → T Value → H → Option β) :
    execK Try.prog C L 0 217 [0] c6arrrrrrrrll [8, 7] [] (fs [(7, x7)]) h K =
      p6arrrrrrrrll C L x7 h (fun x8 x7 h => K .normal (fs [(8, x8), (7, x7)]) h) := by
  kernel_rfl
noncomputable def c6arrrrrrrrlr : Code := cR c6arrrrrrrrl
noncomputable def c6arrrrrrrrlrb : Code := cL c6arrrrrrrrlr
noncomputable def c6arrrrrrrrlrbo : Code := cL c6arrrrrrrrlrb
noncomputable def c6arrrrrrrrlrbol : Code := cL c6arrrrrrrrlrbo
noncomputable def p6arrrrrrrrlrbol (C : CF) (L : Nat) {β : Type} (x8 : Value) (x7 : Value) (h : H) (kn : Value → Value → H → Option β) (kx4 : H → Option β) : Option β :=
  bnd (A.lenS x7) fun t153 =>
  bnd (A.bin Try.prog .lss 3 x8 t153) fun t154 =>
  toBK t154 fun b =>
  (bif b then
  kn x8 x7 h
  else
  kx4 h)
theorem ep6arrrrrrrrlrbol (C : CF) (L : Nat) {β : Type} (x8 : Value) (x7 : Value) (h : H) (K : Ex → T Value → H → Option β) :
    execK Try.prog C L 0 217 [0] c6arrrrrrrrlrbol [8, 7] [(4, [])] (fs [(8, x8), (7, x7)]) h K =
      p6arrrrrrrrlrbol C L x8 x7 h (fun x8 x7 h => K .normal (fs [(8, x8), (7, x7)]) h) (fun h => K (.exit 4) (fs []) h) := by
  kernel_rfl
noncomputable def c6arrrrrrrrlrbor : Code := cR c6arrrrrrrrlrbo
noncomputable def c6arrrrrrrrlrborl : Code := cL c6arrrrrrrrlrbor
noncomputable def c6arrrrrrrrlrborlb : Code := cL c6arrrrrrrrlrborl
noncomputable def c6arrrrrrrrlrborlbl : Code := cL c6arrrrrrrrlrborlb
noncomputable def p6arrrrrrrrlrborlbl (C : CF) (L : Nat) {β : Type} (x8 : Value) (x7 : Value) (h : H) (kn : Value → Value → Value → H → Option β) : Option β :=
  bnd (A.idxS 1 x7 x8) fun t160 =>
  bnd (A.load false 1 t160 h) fun t161 =>
  bnd2 (C 14 [t161, (.int .i64 0), (.int .i64 0), (.int .i64 1)] h) fun t162 hq1 =>
  bnd (A.extract 0 t162) fun t163 =>
  bnd (A.extract 1 t162) fun t164 =>
  toBK t164 fun b =>
  kn (.bool b) x8 x7 hq1
theorem ep6arrrrrrrrlrborlbl (C : CF) (L : Nat) {β : Type} (x8 : Value) (x7 : Value) (h : H) (K : Ex → T Value → H → Option β) :
    execK Try.prog C L 0 217 [0] c6arrrrrrrrlrborlbl [10, 8, 7] [(5, [8, 7]), (4, [])] (fs [(8, x8), (7, x7)]) h K =
      p6arrrrrrrrlrborlbl C L x8 x7 h (fun x10 x8 x7 h => K .normal (fs [(10, x10), (8, x8), (7, x7)]) h) := by
  kernel_rfl
noncomputable def c6arrrrrrrrlrborlbr : Code := cR c6arrrrrrrrlrborlb
noncomputable def c6arrrrrrrrlrborlbrl : Code := cL c6arrrrrrrrlrborlbr
noncomputable def p6arrrrrrrrlrborlbrl (C : CF) (L : Nat) {β : Type} (x10 : Value) (x8 : Value) (x7 : Value) (h : H) (kn : Value → Value → Value → Value → H → Option β) : Option β :=
  bnd (A.idxS 1 x7 x8) fun t168 =>
  bnd (A.load false 1 t168 h) fun t169 =>
  bnd2 (C 12 [t169, (.int .i64 0), (.int .i64 0), (.int .i64 1)] h) fun t170 hq1 =>
  bnd (A.extract 0 t170) fun t171 =>
  bnd (A.extract 1 t170) fun t172 =>
  toBK t172 fun b =>
  kn x10 (.bool b) x8 x7 hq1
theorem ep6arrrrrrrrlrborlbrl (C : CF) (L : Nat) {β : Type} (x10 : Value) (x8 : Value) (x7 : Value) (h : H) (K : Ex → T Value → H → Option β) :
    execK Try.prog C L 0 217 [0] c6arrrrrrrrlrborlbrl [10, 12, 8, 7] [(5, [8, 7]), (4, [])] (fs [(10, x10), (8, x8), (7, x7)]) h K =
      p6arrrrrrrrlrborlbrl C L x10 x8 x7 h (fun x10 x12 x8 x7 h => K .normal (fs [(10, x10), (12, x12), (8, x8), (7, x7)]) h) := by
  kernel_rfl
noncomputable def c6arrrrrrrrlrborlbrr : Code := cR c6arrrrrrrrlrborlbr
noncomputable def c6arrrrrrrrlrborlbrrl : Code := cL c6arrrrrrrrlrborlbrr
noncomputable def p6arrrrrrrrlrborlbrrl (C : CF) (L : Nat) {β : Type} (x10 : Value) (x12 : Value) (x8 : Value) (x7 : Value) (h : H) (kn : Value → Value → Value → H → Option β) : Option β :=
  toBK x10 fun b =>
  (bif b then
  kn (.bool true) x8 x7 h
  else
  toBK x12 fun bq1 =>
  (bif bq1 then
  kn (.bool true) x8 x7 h
  else
  bnd (A.idxS 1 x7 x8) fun t180 =>
  bnd (A.load false 1 t180 h) fun t181 =>
  bnd2 (C 29 [(.int .i64 1)] h) fun t182 hq1 =>
  bif (chk (bnd (A.load false 1 t180 hq1) fun v => some v) t181 && true) then
  bnd2 (C 17 [t181, (.int .i64 0), (.int .i64 0), (.int .i64 1), t182] hq1) fun t183 hq2 =>
  toBK t183 fun bq2 =>
  (bif bq2 then
  kn (.bool true) x8 x7 hq2
  else
  bnd (A.idxS 1 x7 x8) fun t188 =>
  bnd (A.load false 1 t188 hq2) fun t189 =>
  bnd2 (C 21 [t189, (.int .i64 0), (.int .i64 7)] hq2) fun t190 hq3 =>
  toBK t190 fun bq3 =>
  (bif bq3 then
  kn (.bool true) x8 x7 hq3
  else
  bnd (A.idxS 1 x7 x8) fun t195 =>
  bnd (A.load false 1 t195 hq3) fun t196 =>
  bnd2 (C 23 [t196, (.int .i64 0), (.int .i64 0), (.int .i64 1)] hq3) fun t197 hq4 =>
  bnd (A.bin Try.prog .neq 3 t197 (.int .i64 0)) fun t198 =>
  toBK t198 fun bq4 =>
  (bif bq4 then
  kn (.bool true) x8 x7 hq4
  else
  bnd (A.idxS 1 x7 x8) fun t203 =>
  bnd (A.load false 1 t203 hq4) fun t204 =>
  bnd2 (C 25 [t204] hq4) fun t205 hq5 =>
  bnd (A.bin Try.prog .neq 3 t205 (.int .i64 0)) fun t206 =>
  toBK t206 fun bq5 =>
  (bif bq5 then
  kn (.bool true) x8 x7 hq5
  else
  bnd (A.idxS 1 x7 x8) fun t211 =>
  bnd (A.load false 1 t211 hq5) fun t212 =>
  bnd2 (C 27 [t212] hq5) fun t213 hq6 =>
  toBK t213 fun bq6 =>
  bnd (A.un Try.prog .not (.bool bq6)) fun t214 =>
  toBK t214 fun bq7 =>
  kn (.bool bq7) x8 x7 hq6))))
  else none))
theorem ep6arrrrrrrrlrborlbrrl (C : CF) (L : Nat) {β : Type} (x10 : Value) (x12 : Value) (x8 : Value) (x7 : Value) (h : H) (K : Ex → T Value → H → Option β) :
    execK Try.prog C L 0 217 [0] c6arrrrrrrrlrborlbrrl [215, 8, 7] [(5, [8, 7]), (4, [])] (fs [(10, x10), (12, x12), (8, x8), (7, x7)]) h K =
      p6arrrrrrrrlrborlbrrl C L x10 x12 x8 x7 h (fun x215 x8 x7 h => K .normal (fs [(215, x215), (8, x8), (7, x7)]) h) := by
  kernel_rfl
noncomputable def c6arrrrrrrrlrborlbrrr : Code := cR c6arrrrrrrrlrborlbrr
noncomputable def p6arrrrrrrrlrborlbrrr (C : CF) (L : Nat) {β : Type} (x215 : Value) (x8 : Value) (x7 : Value) (h : H) (kr : Value → H → Option β) (kn : Value → Value → H → Option β) : Option β :=
  condV x215 (
  kr (.bool false) h) (
  kn x8 x7 h)
theorem ep6arrrrrrrrlrborlbrrr (C : CF) (L : Nat) {β : Type} (x215 : Value) (x8 : Value) (x7 : Value) (h : H) (K : Ex → T Value → H → Option β) :
    execK Try.prog C L 0 217 [0] c6arrrrrrrrlrborlbrrr [8, 7] [(5, [8, 7]), (4, [])] (fs [(215, x215), (8, x8), (7, x7)]) h K =
      p6arrrrrrrrlrborlbrrr C L x215 x8 x7 h (fun x0 h => K .ret (fs [(0, x0)]) h) (fun x8 x7 h => K .normal (fs [(8, x8), (7, x7)]) h) := by
  kernel_rfl
noncomputable def p6arrrrrrrrlrborlbrr (C : CF) (L : Nat) {β : Type} (x10 : Value) (x12 : Value) (x8 : Value) (x7 : Value) (h : H) (kr : Value → H → Option β) (kn : Value → Value → H → Option β) : Option β :=
  p6arrrrrrrrlrborlbrrl C L x10 x12 x8 x7 h (fun x215 x8 x7 h => p6arrrrrrrrlrborlbrrr C L x215 x8 x7 h kr kn)
theorem ep6arrrrrrrrlrborlbrr (C : CF) (L : Nat) {β : Type} (x10 : Value) (x12 : Value) (x8 : Value) (x7 : Value) (h : H) (K : Ex → T Value → H → Option β) :
    execK Try.prog C L 0 217 [0] c6arrrrrrrrlrborlbrr [8, 7] [(5, [8, 7]), (4, [])] (fs [(10, x10), (12, x12), (8, x8), (7, x7)]) h K =
      p6arrrrrrrrlrborlbrr C L x10 x12 x8 x7 h (fun x0 h => K .ret (fs [(0, x0)]) h) (fun x8 x7 h => K .normal (fs [(8, x8), (7, x7)]) h) := by
  rw [execK_seq (a := c6arrrrrrrrlrborlbrrl) (b := c6arrrrrrrrlrborlbrrr) (by kernel_rfl) (show live [0] c6arrrrrrrrlrborlbrrr [8, 7] [(5, [8, 7]), (4, [])] = [215, 8, 7] by kernel_rfl), ep6arrrrrrrrlrborlbrrl]
  unfold p6arrrrrrrrlrborlbrr
  exact (congrArg (p6arrrrrrrrlrborlbrrl C L x10 x12 x8 x7 h) (funext fun x215 => funext fun x8 => funext fun x7 => funext fun h => (seqK_n _ _ _).trans (ep6arrrrrrrrlrborlbrrr C L x215 x8 x7 h K)))
noncomputable def p6arrrrrrrrlrborlbr (C : CF) (L : Nat) {β : Type} (x10 : Value) (x8 : Value) (x7 : Value) (h : H) (kr : Value → H → Option β) (kn : Value → Value → H → Option β) : Option β :=
  p6arrrrrrrrlrborlbrl C L x10 x8 x7 h (fun x10 x12 x8 x7 h => p6arrrrrrrrlrborlbrr C L x10 x12 x8 x7 h kr kn)
theorem ep6arrrrrrrrlrborlbr (C : CF) (L : Nat) {β : Type} (x10 : Value) (x8 : Value) (x7 : Value) (h : H) (K : Ex → T Value → H → Option β) :
    execK Try.prog C L 0 217 [0] c6arrrrrrrrlrborlbr [8, 7] [(5, [8, 7]), (4, [])] (fs [(10, x10), (8, x8), (7, x7)]) h K =
      p6arrrrrrrrlrborlbr C L x10 x8 x7 h (fun x0 h => K .ret (fs [(0, x0)]) h) (fun x8 x7 h => K .normal (fs [(8, x8), (7, x7)]) h) := by
  rw [execK_seq (a := c6arrrrrrrrlrborlbrl) (b := c6arrrrrrrrlrborlbrr) (by kernel_rfl) (show live [0] c6arrrrrrrrlrborlbrr [8, 7] [(5, [8, 7]), (4, [])] = [10, 12, 8, 7] by kernel_rfl), ep6arrrrrrrrlrborlbrl]
  unfold p6arrrrrrrrlrborlbr
  exact (congrArg (p6arrrrrrrrlrborlbrl C L x10 x8 x7 h) (funext fun x10 => funext fun x12 => funext fun x8 => funext fun x7 => funext fun h => (seqK_n _ _ _).trans (ep6arrrrrrrrlrborlbrr C L x10 x12 x8 x7 h K)))
noncomputable def p6arrrrrrrrlrborlb (C : CF) (L : Nat) {β : Type} (x8 : Value) (x7 : Value) (h : H) (kr : Value → H → Option β) (kn : Value → Value → H → Option β) : Option β :=
  p6arrrrrrrrlrborlbl C L x8 x7 h (fun x10 x8 x7 h => p6arrrrrrrrlrborlbr C L x10 x8 x7 h kr kn)
theorem ep6arrrrrrrrlrborlb (C : CF) (L : Nat) {β : Type} (x8 : Value) (x7 : Value) (h : H) (K : Ex → T Value → H → Option β) :
    execK Try.prog C L 0 217 [0] c6arrrrrrrrlrborlb [8, 7] [(5, [8, 7]), (4, [])] (fs [(8, x8), (7, x7)]) h K =
      p6arrrrrrrrlrborlb C L x8 x7 h (fun x0 h => K .ret (fs [(0, x0)]) h) (fun x8 x7 h => K .normal (fs [(8, x8), (7, x7)]) h) := by
  rw [execK_seq (a := c6arrrrrrrrlrborlbl) (b := c6arrrrrrrrlrborlbr) (by kernel_rfl) (show live [0] c6arrrrrrrrlrborlbr [8, 7] [(5, [8, 7]), (4, [])] = [10, 8, 7] by kernel_rfl), ep6arrrrrrrrlrborlbl]
  unfold p6arrrrrrrrlrborlb
  exact (congrArg (p6arrrrrrrrlrborlbl C L x8 x7 h) (funext fun x10 => funext fun x8 => funext fun x7 => funext fun h => (seqK_n _ _ _).trans (ep6arrrrrrrrlrborlbr C L x10 x8 x7 h K)))
noncomputable def p6arrrrrrrrlrborl (C : CF) (L : Nat) {β : Type} (x8 : Value) (x7 : Value) (h : H) (kr : Value → H → Option β) (kn : Value → Value → H → Option β) : Option β :=
  p6arrrrrrrrlrborlb C L x8 x7 h kr kn
theorem ep6arrrrrrrrlrborl (C : CF) (L : Nat) {β : Type} (x8 : Value) (x7 : Value) (h : H) (K : Ex → T Value → H → Option β) :
    execK Try.prog C L 0 217 [0] c6arrrrrrrrlrborl [8, 7] [(4, [])] (fs [(8, x8), (7, x7)]) h K =
      p6arrrrrrrrlrborl C L x8 x7 h (fun x0 h => K .ret (fs [(0, x0)]) h) (fun x8 x7 h => K .normal (fs [(8, x8), (7, x7)]) h) := by
  rw [execK_block (b := c6arrrrrrrrlrborlb) (id := 5) (by kernel_rfl), ep6arrrrrrrrlrborlb]
  unfold p6arrrrrrrrlrborl
  rfl
noncomputable def c6arrrrrrrrlrborr : Code := cR c6arrrrrrrrlrbor
noncomputable def p6arrrrrrrrlrborr (C : CF) (L : Nat) {β : Type} (x8 : Value) (x7 : Value) (h : H) (kn : Value → Value → H → Option β) : Option β :=
  bnd (A.bin Try.prog .add 3 x8 (.int .i64 1)) fun t156 =>
  kn t156 x7 h
theorem ep6arrrrrrrrlrborr (C : CF) (L : Nat) {β : Type} (x8 : Value) (x7 : Value) (h : H) (K : Ex → T Value → H → Option β) :
    execK Try.prog C L 0 217 [0] c6arrrrrrrrlrborr [8, 7] [(4, [])] (fs [(8, x8), (7, x7)]) h K =
      p6arrrrrrrrlrborr C L x8 x7 h (fun x8 x7 h => K .normal (fs [(8, x8), (7, x7)]) h) := by
  kernel_rfl
noncomputable def p6arrrrrrrrlrbor (C : CF) (L : Nat) {β : Type} (x8 : Value) (x7 : Value) (h : H) (kn : Value → Value → H → Option β) (kr : Value → H → Option β) : Option β :=
  p6arrrrrrrrlrborl C L x8 x7 h kr (fun x8 x7 h => p6arrrrrrrrlrborr C L x8 x7 h kn)
theorem ep6arrrrrrrrlrbor (C : CF) (L : Nat) {β : Type} (x8 : Value) (x7 : Value) (h : H) (K : Ex → T Value → H → Option β) :
    execK Try.prog C L 0 217 [0] c6arrrrrrrrlrbor [8, 7] [(4, [])] (fs [(8, x8), (7, x7)]) h K =
      p6arrrrrrrrlrbor C L x8 x7 h (fun x8 x7 h => K .normal (fs [(8, x8), (7, x7)]) h) (fun x0 h => K .ret (fs [(0, x0)]) h) := by
  rw [execK_seq (a := c6arrrrrrrrlrborl) (b := c6arrrrrrrrlrborr) (by kernel_rfl) (show live [0] c6arrrrrrrrlrborr [8, 7] [(4, [])] = [8, 7] by kernel_rfl), ep6arrrrrrrrlrborl]
  unfold p6arrrrrrrrlrbor
  exact (congr (congrArg (p6arrrrrrrrlrborl C L x8 x7 h) (funext fun x0 => funext fun h => seqK_r _ _ _)) (funext fun x8 => funext fun x7 => funext fun h => (seqK_n _ _ _).trans (ep6arrrrrrrrlrborr C L x8 x7 h K)))
noncomputable def p6arrrrrrrrlrbo (C : CF) (L : Nat) {β : Type} (x8 : Value) (x7 : Value) (h : H) (kn : Value → Value → H → Option β) (kr : Value → H → Option β) (kx4 : H → Option β) : Option β :=
  p6arrrrrrrrlrbol C L x8 x7 h (fun x8 x7 h => p6arrrrrrrrlrbor C L x8 x7 h kn kr) kx4
theorem ep6arrrrrrrrlrbo (C : CF) (L : Nat) {β : Type} (x8 : Value) (x7 : Value) (h : H) (K : Ex → T Value → H → Option β) :
    execK Try.prog C L 0 217 [0] c6arrrrrrrrlrbo [8, 7] [(4, [])] (fs [(8, x8), (7, x7)]) h K =
      p6arrrrrrrrlrbo C L x8 x7 h (fun x8 x7 h => K .normal (fs [(8, x8), (7, x7)]) h) (fun x0 h => K .ret (fs [(0, x0)]) h) (fun h => K (.exit 4) (fs []) h) := by
  rw [execK_seq (a := c6arrrrrrrrlrbol) (b := c6arrrrrrrrlrbor) (by kernel_rfl) (show live [0] c6arrrrrrrrlrbor [8, 7] [(4, [])] = [8, 7] by kernel_rfl), ep6arrrrrrrrlrbol]
  unfold p6arrrrrrrrlrbo
  exact (congr (congrArg (p6arrrrrrrrlrbol C L x8 x7 h) (funext fun x8 => funext fun x7 => funext fun h => (seqK_n _ _ _).trans (ep6arrrrrrrrlrbor C L x8 x7 h K))) (funext fun h => seqK_x _ _ _ _))
noncomputable def p6arrrrrrrrlrbw (C : CF) (L : Nat) {β : Type} (kr : Value → H → Option β) (kx4 : H → Option β) : Nat → Value → Value → H → Option β
  | 0, _, _, _ => none
  | n + 1, x8, x7, h => p6arrrrrrrrlrbo C L x8 x7 h (fun x8 x7 h => p6arrrrrrrrlrbw C L kr kx4 n x8 x7 h) kr kx4
theorem ep6arrrrrrrrlrbw (C : CF) (L : Nat) {β : Type} (K : Ex → T Value → H → Option β) : ∀ (n : Nat) (x8 : Value) (x7 : Value) (h : H),
    loopK (fun fr h K => execK Try.prog C L 0 217 [0] c6arrrrrrrrlrbo [8, 7] [(4, [])] fr h K) n (fs [(8, x8), (7, x7)]) h K =
      p6arrrrrrrrlrbw C L (fun x0 h => K .ret (fs [(0, x0)]) h) (fun h => K (.exit 4) (fs []) h) n x8 x7 h := by
  intro n
  induction n with
  | zero => intros; rfl
  | succ n ih =>
    intros
    simp only [loopK]
    rw [ep6arrrrrrrrlrbo]
    simp only [seqK_n, seqK_x, seqK_r, ih]
    rfl
noncomputable def p6arrrrrrrrlrb (C : CF) (L : Nat) {β : Type} (x8 : Value) (x7 : Value) (h : H) (kr : Value → H → Option β) (kx4 : H → Option β) : Option β :=
  p6arrrrrrrrlrbw C L kr kx4 L x8 x7 h
theorem ep6arrrrrrrrlrb (C : CF) (L : Nat) {β : Type} (x8 : Value) (x7 : Value) (h : H) (K : Ex → T Value → H → Option β) :
    execK Try.prog C L 0 217 [0] c6arrrrrrrrlrb [] [(4, [])] (fs [(8, x8), (7, x7)]) h K =
      p6arrrrrrrrlrb C L x8 x7 h (fun x0 h => K .ret (fs [(0, x0)]) h) (fun h => K (.exit 4) (fs []) h) := by
  rw [execK_loop (b := c6arrrrrrrrlrbo) (fr1 := (fs [(8, x8), (7, x7)])) (by kernel_rfl) (show live [0] c6arrrrrrrrlrbo [] [(4, [])] = [8, 7] by kernel_rfl) (by kernel_rfl), ep6arrrrrrrrlrbw]
  unfold p6arrrrrrrrlrb
  rfl
noncomputable def p6arrrrrrrrlr (C : CF) (L : Nat) {β : Type} (x8 : Value) (x7 : Value) (h : H) (kr : Value → H → Option β) (kn : H → Option β) : Option β :=
  p6arrrrrrrrlrb C L x8 x7 h kr kn
theorem ep6arrrrrrrrlr (C : CF) (L : Nat) {β : Type} (x8 : Value) (x7 : Value) (h : H) (K : Ex → T Value → H → Option β) :
    execK Try.prog C L 0 217 [0] c6arrrrrrrrlr [] [] (fs [(8, x8), (7, x7)]) h K =
      p6arrrrrrrrlr C L x8 x7 h (fun x0 h => K .ret (fs [(0, x0)]) h) (fun h => K .normal (fs []) h) := by
  rw [execK_block (b := c6arrrrrrrrlrb) (id := 4) (by kernel_rfl), ep6arrrrrrrrlrb]
  unfold p6arrrrrrrrlr
  rfl
noncomputable def p6arrrrrrrrl (C : CF) (L : Nat) {β : Type} (x7 : Value) (h : H) (kr : Value → H → Option β) (kn : H → Option β) : Option β :=
  p6arrrrrrrrll C L x7 h (fun x8 x7 h => p6arrrrrrrrlr C L x8 x7 h kr kn)
theorem ep6arrrrrrrrl (C : CF) (L : Nat) {β : Type} (x7 : Value) (h : H) (K : Ex → T Value → H → Option β) :
    execK Try.prog C L 0 217 [0] c6arrrrrrrrl [] [] (fs [(7, x7)]) h K =
      p6arrrrrrrrl C L x7 h (fun x0 h => K .ret (fs [(0, x0)]) h) (fun h => K .normal (fs []) h) := by
  rw [execK_seq (a := c6arrrrrrrrll) (b := c6arrrrrrrrlr) (by kernel_rfl) (show live [0] c6arrrrrrrrlr [] [] = [8, 7] by kernel_rfl), ep6arrrrrrrrll]
  unfold p6arrrrrrrrl
  exact (congrArg (p6arrrrrrrrll C L x7 h) (funext fun x8 => funext fun x7 => funext fun h => (seqK_n _ _ _).trans (ep6arrrrrrrrlr C L x8 x7 h K)))
noncomputable def c6arrrrrrrrr : Code := cR c6arrrrrrrr
noncomputable def p6arrrrrrrrr (C : CF) (L : Nat) {β : Type} (h : H) (kr : Value → H → Option β) : Option β :=
  bnd2 (C 9 [] h) fun t216 hq1 =>
  toBK t216 fun b =>
  kr (.bool b) hq1
theorem ep6arrrrrrrrr (C : CF) (L : Nat) {β : Type} (h : H) (K : Ex → T Value → H → Option β) :
    execK Try.prog C L 0 217 [0] c6arrrrrrrrr [0] [] (fs []) h K =
      p6arrrrrrrrr C L h (fun x0 h => K .ret (fs [(0, x0)]) h) := by
  kernel_rfl
noncomputable def p6arrrrrrrr (C : CF) (L : Nat) {β : Type} (x7 : Value) (h : H) (kr : Value → H → Option β) : Option β :=
  p6arrrrrrrrl C L x7 h kr (fun h => p6arrrrrrrrr C L h kr)
theorem ep6arrrrrrrr (C : CF) (L : Nat) {β : Type} (x7 : Value) (h : H) (K : Ex → T Value → H → Option β) :
    execK Try.prog C L 0 217 [0] c6arrrrrrrr [0] [] (fs [(7, x7)]) h K =
      p6arrrrrrrr C L x7 h (fun x0 h => K .ret (fs [(0, x0)]) h) := by
  rw [execK_seq (a := c6arrrrrrrrl) (b := c6arrrrrrrrr) (by kernel_rfl) (show live [0] c6arrrrrrrrr [0] [] = [] by kernel_rfl), ep6arrrrrrrrl]
  unfold p6arrrrrrrr
  exact (congr (congrArg (p6arrrrrrrrl C L x7 h) (funext fun x0 => funext fun h => seqK_r _ _ _)) (funext fun h => (seqK_n _ _ _).trans (ep6arrrrrrrrr C L h K)))
noncomputable def p6arrrrrrr (C : CF) (L : Nat) {β : Type} (x6 : Value) (h : H) (kr : Value → H → Option β) : Option β :=
  p6arrrrrrrl C L x6 h (fun x7 h => p6arrrrrrrr C L x7 h kr)
theorem ep6arrrrrrr (C : CF) (L : Nat) {β : Type} (x6 : Value) (h : H) (K : Ex → T Value → H → Option β) :
    execK Try.prog C L 0 217 [0] c6arrrrrrr [0] [] (fs [(6, x6)]) h K =
      p6arrrrrrr C L x6 h (fun x0 h => K .ret (fs [(0, x0)]) h) := by
  rw [execK_seq (a := c6arrrrrrrl) (b := c6arrrrrrrr) (by kernel_rfl) (show live [0] c6arrrrrrrr [0] [] = [7] by kernel_rfl), ep6arrrrrrrl]
  unfold p6arrrrrrr
  exact (congrArg (p6arrrrrrrl C L x6 h) (funext fun x7 => funext fun h => (seqK_n _ _ _).trans (ep6arrrrrrrr C L x7 h K)))
noncomputable def p6arrrrrr (C : CF) (L : Nat) {β : Type} (h : H) (kr : Value → H → Option β) : Option β :=
  p6arrrrrrl C L h (fun x6 h => p6arrrrrrr C L x6 h kr)
theorem ep6arrrrrr (C : CF) (L : Nat) {β : Type} (h : H) (K : Ex → T Value → H → Option β) :
    execK Try.prog C L 0 217 [0] c6arrrrrr [0] [] (fs []) h K =
      p6arrrrrr C L h (fun x0 h => K .ret (fs [(0, x0)]) h) := by
  rw [execK_seq (a := c6arrrrrrl) (b := c6arrrrrrr) (by kernel_rfl) (show live [0] c6arrrrrrr [0] [] = [6] by kernel_rfl), ep6arrrrrrl]
  unfold p6arrrrrr
  exact (congrArg (p6arrrrrrl C L h) (funext fun x6 => funext fun h => (seqK_n _ _ _).trans (ep6arrrrrrr C L x6 h K)))
noncomputable def p6arrrrr (C : CF) (L : Nat) {β : Type} (h : H) (kr : Value → H → Option β) : Option β :=
  p6arrrrrl C L h kr (fun h => p6arrrrrr C L h kr)
theorem ep6arrrrr (C : CF) (L : Nat) {β : Type} (h : H) (K : Ex → T Value → H → Option β) :
    execK Try.prog C L 0 217 [0] c6arrrrr [0] [] (fs []) h K =
      p6arrrrr C L h (fun x0 h => K .ret (fs [(0, x0)]) h) := by
  rw [execK_seq (a := c6arrrrrl) (b := c6arrrrrr) (by kernel_rfl) (show live [0] c6arrrrrr [0] [] = [] by kernel_rfl), ep6arrrrrl]
  unfold p6arrrrr
  exact (congr (congrArg (p6arrrrrl C L h) (funext fun x0 => funext fun h => seqK_r _ _ _)) (funext fun h => (seqK_n _ _ _).trans (ep6arrrrrr C L h K)))
noncomputable def p6arrrr (C : CF) (L : Nat) {β : Type} (x1 : Value) (h : H) (kr : Value → H → Option β) : Option β :=
  p6arrrrl C L x1 h kr (fun h => p6arrrrr C L h kr)
theorem ep6arrrr (C : CF) (L : Nat) {β : Type} (x1 : Value) (h : H) (K : Ex → T Value → H → Option β) :
    execK Try.prog C L 0 217 [0] c6arrrr [0] [] (fs [(1, x1)]) h K =
      p6arrrr C L x1 h (fun x0 h => K .ret (fs [(0, x0)]) h) := by
  rw [execK_seq (a := c6arrrrl) (b := c6arrrrr) (by kernel_rfl) (show live [0] c6arrrrr [0] [] = [] by kernel_rfl), ep6arrrrl]
  unfold p6arrrr
  exact (congr (congrArg (p6arrrrl C L x1 h) (funext fun x0 => funext fun h => seqK_r _ _ _)) (funext fun h => (seqK_n _ _ _).trans (ep6arrrrr C L h K)))
noncomputable def p6arrr (C : CF) (L : Nat) {β : Type} (x1 : Value) (h : H) (kr : Value → H → Option β) : Option β :=
  p6arrrl C L x1 h kr (fun x1 h => p6arrrr C L x1 h kr)
theorem ep6arrr (C : CF) (L : Nat) {β : Type} (x1 : Value) (h : H) (K : Ex → T Value → H → Option β) :
    execK Try.prog C L 0 217 [0] c6arrr [0] [] (fs [(1, x1)]) h K =
      p6arrr C L x1 h (fun x0 h => K .ret (fs [(0, x0)]) h) := by
  rw [execK_seq (a := c6arrrl) (b := c6arrrr) (by kernel_rfl) (show live [0] c6arrrr [0] [] = [1] by kernel_rfl), ep6arrrl]
  unfold p6arrr
  exact (congr (congrArg (p6arrrl C L x1 h) (funext fun x0 => funext fun h => seqK_r _ _ _)) (funext fun x1 => funext fun h => (seqK_n _ _ _).trans (ep6arrrr C L x1 h K)))
noncomputable def p6arr (C : CF) (L : Nat) {β : Type} (x1 : Value) (h : H) (kr : Value → H → Option β) : Option β :=
  p6arrl C L x1 h kr (fun x1 h => p6arrr C L x1 h kr)
theorem ep6arr (C : CF) (L : Nat) {β : Type} (x1 : Value) (h : H) (K : Ex → T Value → H → Option β) :
    execK Try.prog C L 0 217 [0] c6arr [0] [] (fs [(1, x1)]) h K =
      p6arr C L x1 h (fun x0 h => K .ret (fs [(0, x0)]) h) := by
  rw [execK_seq (a := c6arrl) (b := c6arrr) (by kernel_rfl) (show live [0] c6arrr [0] [] = [1] by kernel_rfl), ep6arrl]
  unfold p6arr
  exact (congr (congrArg (p6arrl C L x1 h) (funext fun x0 => funext fun h => seqK_r _ _ _)) (funext fun x1 => funext fun h => (seqK_n _ _ _).trans (ep6arrr C L x1 h K)))
noncomputable def p6ar (C : CF) (L : Nat) {β : Type} (h : H) (kr : Value → H → Option β) : Option β :=
  p6arl C L h (fun x1 h => p6arr C L x1 h kr)
theorem ep6ar (C : CF) (L : Nat) {β : Type} (h : H) (K : Ex → T Value → H → Option β) :
    execK Try.prog C L 0 217 [0] c6ar [0] [] (fs []) h K =
      p6ar C L h (fun x0 h => K .ret (fs [(0, x0)]) h) := by
  rw [execK_seq (a := c6arl) (b := c6arr) (by kernel_rfl) (show live [0] c6arr [0] [] = [1] by kernel_rfl), ep6arl]
  unfold p6ar
  exact (congrArg (p6arl C L h) (funext fun x1 => funext fun h => (seqK_n _ _ _).trans (ep6arr C L x1 h K)))
noncomputable def p6a (C : CF) (L : Nat) {β : Type} (h : H) (kr : Value → H → Option β) : Option β :=
  p6al C L h (fun h => p6ar C L h kr)
theorem ep6a (C : CF) (L : Nat) {β : Type} (h : H) (K : Ex → T Value → H → Option β) :
    execK Try.prog C L 0 217 [0] c6a [0] [] (fs []) h K =
      p6a C L h (fun x0 h => K .ret (fs [(0, x0)]) h) := by
  rw [execK_seq (a := c6al) (b := c6ar) (by kernel_rfl) (show live [0] c6ar [0] [] = [] by kernel_rfl), ep6al]
  unfold p6a
  exact (congrArg (p6al C L h) (funext fun h => (seqK_n _ _ _).trans (ep6ar C L h K)))
noncomputable def F6 (C : CF) (L : Nat) (h : H) : Option (Value × H) :=
  p6a C L h
    (fun x0 h => some (x0, h))
theorem F6eq (O : List FuncId) (hO : O.any (Nat.beq 6) = false) (n : Nat) (h : H) : callB Try.prog 0 O (n + 1) 6 [] h = F6 (callB Try.prog 0 O n) n h := by
  rw [callB_eq hO (c := c6a) (nt := 217) (RR := [0]) (fr := (fs [])) Try.func6 (by kernel_rfl) (by kernel_rfl) (by kernel_rfl) (by kernel_rfl) (by kernel_rfl), ep6a]
  kernel_rfl

end Go.Proofs.Ytdjhkdogpbiglaa.MailF6
