/-
  Functions of the program over the abstract machine: printed by a program of mine (wip/tools/Dec.lean), each with its equation to the machine's call.
-/
import Derived.Test.YtlhppeikbgolbaaDoorProg
import Derived.Test.YtlhppeikbgolbaaDoorAmDec
set_option linter.unusedVariables false
set_option maxRecDepth 100000
namespace Go.Proofs.YtlhppeikbgolbaaDoor.IdsD
open Go Go.AM

noncomputable def Z52 : Value := (.int .u64 0)
noncomputable def Z52L : List Value := [(.int .u64 0)]
noncomputable def Z34 : Value := (.agg ⟨[(.slice none 0 0), (.int .i64 0), (.int .i64 0)]⟩)
noncomputable def Z34L : List Value := [(.slice none 0 0), (.int .i64 0), (.int .i64 0)]
noncomputable def Z30 : Value := (.slice none 0 0)
noncomputable def Z30L : List Value := [(.slice none 0 0)]
noncomputable def Z25 : Value := (.int .u16 0)
noncomputable def Z25L : List Value := [(.int .u16 0)]
noncomputable def Z42 : Value := (.agg ⟨[(.slice none 0 0)]⟩)
noncomputable def Z42L : List Value := [(.slice none 0 0)]
noncomputable def Z32 : Value := (.slice none 0 0)
noncomputable def Z32L : List Value := [(.slice none 0 0)]

/-! F8: relayhouse/ids.New -/
noncomputable def c8a : Code := (Tryd.f8.body).getD .skip
noncomputable def p8a (C : CF) (L : Nat) {β : Type} (h : H) (kr : Value → H → Option β) : Option β :=
  bnd2 (A.makeSlice 1 8 Z52L (.int .i64 1024) (.int .i64 1024) h) fun t2 hq1 =>
  bnd (A.build Z34L [(0, 1, t2)]) fun t3 =>
  bnd2 (A.box 3 t3 hq1) fun t4 hq2 =>
  bnd (A.nilCheck t4) fun t6 =>
  bnd (A.fieldAddr 0 t6) fun t7 =>
  bnd (A.load false 1 t7 hq2) fun t8 =>
  bnd (A.idxS 1 t8 (.int .i64 0)) fun t9 =>
  bnd (A.store 1 t9 (.int .u64 1) hq2) fun hq3 =>
  kr t4 hq3
theorem ep8a (C : CF) (L : Nat) {β : Type} (h : H) (K : Ex → T Value → H → Option β) :
    execK Tryd.prog C L 1 11 [0] c8a [0] [] (fs []) h K =
      p8a C L h (fun x0 h => K .ret (fs [(0, x0)]) h) := by
  kernel_rfl
noncomputable def F8 (C : CF) (L : Nat) (h : H) : Option (Value × H) :=
  p8a C L h
    (fun x0 h => some (x0, h))
theorem F8eq (O : List FuncId) (hO : O.any (Nat.beq 8) = false) (n : Nat) (h : H) : callB Tryd.prog 1 O (n + 1) 8 [] h = F8 (callB Tryd.prog 1 O n) n h := by
  rw [callB_eq hO (c := c8a) (nt := 11) (RR := [0]) (fr := (fs [])) Tryd.func8 (by kernel_rfl) (by kernel_rfl) (by kernel_rfl) (by kernel_rfl) (by kernel_rfl), ep8a]
  kernel_rfl

/-! F9: relayhouse/relayhouselaw11.takes -/
noncomputable def c9a : Code := (Tryd.f9.body).getD .skip
noncomputable def p9a (C : CF) (L : Nat) {β : Type} (x0 : Value) (x1 : Value) (h : H) (kr : Value → H → Option β) : Option β :=
  bnd2 (C 10 [x0] h) fun t9 hq1 =>
  bnd (A.extract 0 t9) fun t10 =>
  bnd (A.extract 1 t9) fun t11 =>
  bnd (A.bin Tryd.prog .eql 25 t10 x1) fun t14 =>
  toBK t14 fun b =>
  (bif b then
  bnd (A.bin Tryd.prog .eql 26 t11 (.int .i64 0)) fun t17 =>
  toBK t17 fun bq1 =>
  kr (.bool bq1) hq1
  else
  kr (.bool false) hq1)
theorem ep9a (C : CF) (L : Nat) {β : Type} (x0 : Value) (x1 : Value) (h : H) (K : Ex → T Value → H → Option β) :
    execK Tryd.prog C L 1 19 [4] c9a [4] [] (fs [(0, x0), (1, x1)]) h K =
      p9a C L x0 x1 h (fun x4 h => K .ret (fs [(4, x4)]) h) := by
  kernel_rfl
noncomputable def F9 (C : CF) (L : Nat) (x0 : Value) (x1 : Value) (h : H) : Option (Value × H) :=
  p9a C L x0 x1 h
    (fun x4 h => some (x4, h))
theorem F9eq (O : List FuncId) (hO : O.any (Nat.beq 9) = false) (n : Nat) (x0 : Value) (x1 : Value) (h : H) : callB Tryd.prog 1 O (n + 1) 9 [x0, x1] h = F9 (callB Tryd.prog 1 O n) n x0 x1 h := by
  rw [callB_eq hO (c := c9a) (nt := 19) (RR := [4]) (fr := (fs [(0, x0), (1, x1)])) Tryd.func9 (by kernel_rfl) (by kernel_rfl) (by kernel_rfl) (by kernel_rfl) (by kernel_rfl), ep9a]
  kernel_rfl

/-! F10: (*relayhouse/ids.Pool).Take -/
noncomputable def c10a : Code := (Tryd.f10.body).getD .skip
noncomputable def c10al : Code := cL c10a
noncomputable def p10al (C : CF) (L : Nat) {β : Type} (x0 : Value) (h : H) (kn : Value → H → Option β) : Option β :=
  kn x0 h
theorem ep10al (C : CF) (L : Nat) {β : Type} (x0 : Value) (h : H) (K : Ex → T Value → H → Option β) :
    execK Tryd.prog C L 1 73 [2, 3] c10al [0] [] (fs [(0, x0)]) h K =
      p10al C L x0 h (fun x0 h => K .normal (fs [(0, x0)]) h) := by
  kernel_rfl
noncomputable def c10ar : Code := cR c10a
noncomputable def c10arl : Code := cL c10ar
noncomputable def c10arlb : Code := cL c10arl
noncomputable def p10arlb (C : CF) (L : Nat) {β : Type} (x0 : Value) (h : H) (kr : Value → Value → H → Option β) (kn : Value → H → Option β) : Option β :=
  bnd2 (C 23 [x0] h) fun t7 hq1 =>
  toBK t7 fun b =>
  (bif b then
  kr (.int .u16 0) (.int .i64 8) hq1
  else
  bnd (A.nilCheck x0) fun t10 =>
  bnd (A.fieldAddr 1 t10) fun t11 =>
  bnd (A.load false 1 t11 hq1) fun t12 =>
  bnd (A.bin Tryd.prog .eql 3 t12 (.int .i64 65535)) fun t13 =>
  toBK t13 fun bq1 =>
  (bif bq1 then
  kr (.int .u16 0) (.int .i64 7) hq1
  else
  kn x0 hq1))
theorem ep10arlb (C : CF) (L : Nat) {β : Type} (x0 : Value) (h : H) (K : Ex → T Value → H → Option β) :
    execK Tryd.prog C L 1 73 [2, 3] c10arlb [0] [(0, [0])] (fs [(0, x0)]) h K =
      p10arlb C L x0 h (fun x2 x3 h => K .ret (fs [(2, x2), (3, x3)]) h) (fun x0 h => K .normal (fs [(0, x0)]) h) := by
  kernel_rfl
noncomputable def p10arl (C : CF) (L : Nat) {β : Type} (x0 : Value) (h : H) (kr : Value → Value → H → Option β) (kn : Value → H → Option β) : Option β :=
  p10arlb C L x0 h kr kn
theorem ep10arl (C : CF) (L : Nat) {β : Type} (x0 : Value) (h : H) (K : Ex → T Value → H → Option β) :
    execK Tryd.prog C L 1 73 [2, 3] c10arl [0] [] (fs [(0, x0)]) h K =
      p10arl C L x0 h (fun x2 x3 h => K .ret (fs [(2, x2), (3, x3)]) h) (fun x0 h => K .normal (fs [(0, x0)]) h) := by
  rw [execK_block (b := c10arlb) (id := 0) (by kernel_rfl), ep10arlb]
  unfold p10arl
  rfl
noncomputable def c10arr : Code := cR c10ar
noncomputable def c10arrl : Code := cL c10arr
noncomputable def c10arrlb : Code := cL c10arrl
noncomputable def c10arrlbo : Code := cL c10arrlb
noncomputable def p10arrlbo (C : CF) (L : Nat) {β : Type} (x0 : Value) (h : H) (kn : Value → H → Option β) (kx1 : Value → H → Option β) : Option β :=
  bnd (A.nilCheck x0) fun t15 =>
  bnd (A.fieldAddr 0 t15) fun t16 =>
  bnd (A.load false 1 t16 h) fun t17 =>
  bnd (A.nilCheck x0) fun t19 =>
  bnd (A.fieldAddr 2 t19) fun t20 =>
  bnd (A.load false 1 t20 h) fun t21 =>
  bnd (A.idxS 1 t17 t21) fun t22 =>
  bnd (A.load false 1 t22 h) fun t23 =>
  bnd (A.bin Tryd.prog .eql 52 t23 (.int .u64 18446744073709551615)) fun t24 =>
  toBK t24 fun b =>
  (bif b then
  bnd (A.nilCheck x0) fun t26 =>
  bnd (A.fieldAddr 2 t26) fun t27 =>
  bnd (A.load false 1 t27 h) fun t28 =>
  bnd (A.bin Tryd.prog .add 3 t28 (.int .i64 1)) fun t29 =>
  bnd (A.nilCheck x0) fun t30 =>
  bnd (A.fieldAddr 2 t30) fun t31 =>
  bnd (A.store 1 t31 t29 h) fun hq1 =>
  kn x0 hq1
  else
  kx1 x0 h)
theorem ep10arrlbo (C : CF) (L : Nat) {β : Type} (x0 : Value) (h : H) (K : Ex → T Value → H → Option β) :
    execK Tryd.prog C L 1 73 [2, 3] c10arrlbo [0] [(1, [0])] (fs [(0, x0)]) h K =
      p10arrlbo C L x0 h (fun x0 h => K .normal (fs [(0, x0)]) h) (fun x0 h => K (.exit 1) (fs [(0, x0)]) h) := by
  kernel_rfl
noncomputable def p10arrlbw (C : CF) (L : Nat) {β : Type} (kx1 : Value → H → Option β) : Nat → Value → H → Option β
  | 0, _, _ => none
  | n + 1, x0, h => p10arrlbo C L x0 h (fun x0 h => p10arrlbw C L kx1 n x0 h) kx1
theorem ep10arrlbw (C : CF) (L : Nat) {β : Type} (K : Ex → T Value → H → Option β) : ∀ (n : Nat) (x0 : Value) (h : H),
    loopK (fun fr h K => execK Tryd.prog C L 1 73 [2, 3] c10arrlbo [0] [(1, [0])] fr h K) n (fs [(0, x0)]) h K =
      p10arrlbw C L (fun x0 h => K (.exit 1) (fs [(0, x0)]) h) n x0 h := by
  intro n
  induction n with
  | zero => intros; rfl
  | succ n ih =>
    intros
    simp only [loopK]
    rw [ep10arrlbo]
    simp only [seqK_n, seqK_x, seqK_r, ih]
    rfl
noncomputable def p10arrlb (C : CF) (L : Nat) {β : Type} (x0 : Value) (h : H) (kx1 : Value → H → Option β) : Option β :=
  p10arrlbw C L kx1 L x0 h
theorem ep10arrlb (C : CF) (L : Nat) {β : Type} (x0 : Value) (h : H) (K : Ex → T Value → H → Option β) :
    execK Tryd.prog C L 1 73 [2, 3] c10arrlb [0] [(1, [0])] (fs [(0, x0)]) h K =
      p10arrlb C L x0 h (fun x0 h => K (.exit 1) (fs [(0, x0)]) h) := by
  rw [execK_loop (b := c10arrlbo) (fr1 := (fs [(0, x0)])) (by kernel_rfl) (show live [2, 3] c10arrlbo [] [(1, [0])] = [0] by kernel_rfl) (by kernel_rfl), ep10arrlbw]
  unfold p10arrlb
  rfl
noncomputable def p10arrl (C : CF) (L : Nat) {β : Type} (x0 : Value) (h : H) (kn : Value → H → Option β) : Option β :=
  p10arrlb C L x0 h kn
theorem ep10arrl (C : CF) (L : Nat) {β : Type} (x0 : Value) (h : H) (K : Ex → T Value → H → Option β) :
    execK Tryd.prog C L 1 73 [2, 3] c10arrl [0] [] (fs [(0, x0)]) h K =
      p10arrl C L x0 h (fun x0 h => K .normal (fs [(0, x0)]) h) := by
  rw [execK_block (b := c10arrlb) (id := 1) (by kernel_rfl), ep10arrlb]
  unfold p10arrl
  rfl
noncomputable def c10arrr : Code := cR c10arr
noncomputable def c10arrrl : Code := cL c10arrr
noncomputable def p10arrrl (C : CF) (L : Nat) {β : Type} (x0 : Value) (h : H) (kn : Value → Value → H → Option β) : Option β :=
  bnd (A.nilCheck x0) fun t33 =>
  bnd (A.fieldAddr 0 t33) fun t34 =>
  bnd (A.load false 1 t34 h) fun t35 =>
  bnd (A.nilCheck x0) fun t37 =>
  bnd (A.fieldAddr 2 t37) fun t38 =>
  bnd (A.load false 1 t38 h) fun t39 =>
  bnd (A.idxS 1 t35 t39) fun t40 =>
  bnd (A.load false 1 t40 h) fun t41 =>
  bnd (A.un Tryd.prog .xor t41) fun t42 =>
  bnd2 (C 24 [t42] h) fun t43 hq1 =>
  kn x0 t43 hq1
theorem ep10arrrl (C : CF) (L : Nat) {β : Type} (x0 : Value) (h : H) (K : Ex → T Value → H → Option β) :
    execK Tryd.prog C L 1 73 [2, 3] c10arrrl [0, 4] [] (fs [(0, x0)]) h K =
      p10arrrl C L x0 h (fun x0 x4 h => K .normal (fs [(0, x0), (4, x4)]) h) := by
  kernel_rfl
noncomputable def c10arrrr : Code := cR c10arrr
noncomputable def c10arrrrl : Code := cL c10arrrr
noncomputable def p10arrrrl (C : CF) (L : Nat) {β : Type} (x0 : Value) (x4 : Value) (h : H) (kn : Value → Value → H → Option β) : Option β :=
  bnd (A.nilCheck x0) fun t45 =>
  bnd (A.fieldAddr 0 t45) fun t46 =>
  bnd (A.load false 1 t46 h) fun t47 =>
  bnd (A.nilCheck x0) fun t49 =>
  bnd (A.fieldAddr 2 t49) fun t50 =>
  bnd (A.load false 1 t50 h) fun t51 =>
  bnd (A.idxS 1 t47 t51) fun t52 =>
  bnd (A.load false 1 t52 h) fun t53 =>
  bnd (A.bin Tryd.prog .shl 52 (.int .u64 1) x4) fun t55 =>
  bnd (A.bin Tryd.prog .or 52 t53 t55) fun t56 =>
  bnd (A.idxS 1 t47 t51) fun t57 =>
  bnd (A.store 1 t57 t56 h) fun hq1 =>
  kn x0 x4 hq1
theorem ep10arrrrl (C : CF) (L : Nat) {β : Type} (x0 : Value) (x4 : Value) (h : H) (K : Ex → T Value → H → Option β) :
    execK Tryd.prog C L 1 73 [2, 3] c10arrrrl [0, 4] [] (fs [(0, x0), (4, x4)]) h K =
      p10arrrrl C L x0 x4 h (fun x0 x4 h => K .normal (fs [(0, x0), (4, x4)]) h) := by
  kernel_rfl
noncomputable def c10arrrrr : Code := cR c10arrrr
noncomputable def p10arrrrr (C : CF) (L : Nat) {β : Type} (x0 : Value) (x4 : Value) (h : H) (kr : Value → Value → H → Option β) : Option β :=
  bnd (A.nilCheck x0) fun t59 =>
  bnd (A.fieldAddr 1 t59) fun t60 =>
  bnd (A.load false 1 t60 h) fun t61 =>
  bnd (A.bin Tryd.prog .add 3 t61 (.int .i64 1)) fun t62 =>
  bnd (A.nilCheck x0) fun t63 =>
  bnd (A.fieldAddr 1 t63) fun t64 =>
  bnd (A.store 1 t64 t62 h) fun hq1 =>
  bnd (A.nilCheck x0) fun t66 =>
  bnd (A.fieldAddr 2 t66) fun t67 =>
  bnd (A.load false 1 t67 hq1) fun t68 =>
  bnd (A.bin Tryd.prog .mul 3 t68 (.int .i64 64)) fun t69 =>
  bnd (A.bin Tryd.prog .add 3 t69 x4) fun t71 =>
  bnd (A.conv Tryd.prog 3 25 t71) fun t72 =>
  kr t72 (.int .i64 0) hq1
theorem ep10arrrrr (C : CF) (L : Nat) {β : Type} (x0 : Value) (x4 : Value) (h : H) (K : Ex → T Value → H → Option β) :
    execK Tryd.prog C L 1 73 [2, 3] c10arrrrr [2, 3] [] (fs [(0, x0), (4, x4)]) h K =
      p10arrrrr C L x0 x4 h (fun x2 x3 h => K .ret (fs [(2, x2), (3, x3)]) h) := by
  kernel_rfl
noncomputable def p10arrrr (C : CF) (L : Nat) {β : Type} (x0 : Value) (x4 : Value) (h : H) (kr : Value → Value → H → Option β) : Option β :=
  p10arrrrl C L x0 x4 h (fun x0 x4 h => p10arrrrr C L x0 x4 h kr)
theorem ep10arrrr (C : CF) (L : Nat) {β : Type} (x0 : Value) (x4 : Value) (h : H) (K : Ex → T Value → H → Option β) :
    execK Tryd.prog C L 1 73 [2, 3] c10arrrr [2, 3] [] (fs [(0, x0), (4, x4)]) h K =
      p10arrrr C L x0 x4 h (fun x2 x3 h => K .ret (fs [(2, x2), (3, x3)]) h) := by
  rw [execK_seq (a := c10arrrrl) (b := c10arrrrr) (by kernel_rfl) (show live [2, 3] c10arrrrr [2, 3] [] = [0, 4] by kernel_rfl), ep10arrrrl]
  unfold p10arrrr
  exact (congrArg (p10arrrrl C L x0 x4 h) (funext fun x0 => funext fun x4 => funext fun h => (seqK_n _ _ _).trans (ep10arrrrr C L x0 x4 h K)))
noncomputable def p10arrr (C : CF) (L : Nat) {β : Type} (x0 : Value) (h : H) (kr : Value → Value → H → Option β) : Option β :=
  p10arrrl C L x0 h (fun x0 x4 h => p10arrrr C L x0 x4 h kr)
theorem ep10arrr (C : CF) (L : Nat) {β : Type} (x0 : Value) (h : H) (K : Ex → T Value → H → Option β) :
    execK Tryd.prog C L 1 73 [2, 3] c10arrr [2, 3] [] (fs [(0, x0)]) h K =
      p10arrr C L x0 h (fun x2 x3 h => K .ret (fs [(2, x2), (3, x3)]) h) := by
  rw [execK_seq (a := c10arrrl) (b := c10arrrr) (by kernel_rfl) (show live [2, 3] c10arrrr [2, 3] [] = [0, 4] by kernel_rfl), ep10arrrl]
  unfold p10arrr
  exact (congrArg (p10arrrl C L x0 h) (funext fun x0 => funext fun x4 => funext fun h => (seqK_n _ _ _).trans (ep10arrrr C L x0 x4 h K)))
noncomputable def p10arr (C : CF) (L : Nat) {β : Type} (x0 : Value) (h : H) (kr : Value → Value → H → Option β) : Option β :=
  p10arrl C L x0 h (fun x0 h => p10arrr C L x0 h kr)
theorem ep10arr (C : CF) (L : Nat) {β : Type} (x0 : Value) (h : H) (K : Ex → T Value → H → Option β) :
    execK Tryd.prog C L 1 73 [2, 3] c10arr [2, 3] [] (fs [(0, x0)]) h K =
      p10arr C L x0 h (fun x2 x3 h => K .ret (fs [(2, x2), (3, x3)]) h) := by
  rw [execK_seq (a := c10arrl) (b := c10arrr) (by kernel_rfl) (show live [2, 3] c10arrr [2, 3] [] = [0] by kernel_rfl), ep10arrl]
  unfold p10arr
  exact (congrArg (p10arrl C L x0 h) (funext fun x0 => funext fun h => (seqK_n _ _ _).trans (ep10arrr C L x0 h K)))
noncomputable def p10ar (C : CF) (L : Nat) {β : Type} (x0 : Value) (h : H) (kr : Value → Value → H → Option β) : Option β :=
  p10arl C L x0 h kr (fun x0 h => p10arr C L x0 h kr)
theorem ep10ar (C : CF) (L : Nat) {β : Type} (x0 : Value) (h : H) (K : Ex → T Value → H → Option β) :
    execK Tryd.prog C L 1 73 [2, 3] c10ar [2, 3] [] (fs [(0, x0)]) h K =
      p10ar C L x0 h (fun x2 x3 h => K .ret (fs [(2, x2), (3, x3)]) h) := by
  rw [execK_seq (a := c10arl) (b := c10arr) (by kernel_rfl) (show live [2, 3] c10arr [2, 3] [] = [0] by kernel_rfl), ep10arl]
  unfold p10ar
  exact (congr (congrArg (p10arl C L x0 h) (funext fun x2 => funext fun x3 => funext fun h => seqK_r _ _ _)) (funext fun x0 => funext fun h => (seqK_n _ _ _).trans (ep10arr C L x0 h K)))
noncomputable def p10a (C : CF) (L : Nat) {β : Type} (x0 : Value) (h : H) (kr : Value → Value → H → Option β) : Option β :=
  p10al C L x0 h (fun x0 h => p10ar C L x0 h kr)
theorem ep10a (C : CF) (L : Nat) {β : Type} (x0 : Value) (h : H) (K : Ex → T Value → H → Option β) :
    execK Tryd.prog C L 1 73 [2, 3] c10a [2, 3] [] (fs [(0, x0)]) h K =
      p10a C L x0 h (fun x2 x3 h => K .ret (fs [(2, x2), (3, x3)]) h) := by
  rw [execK_seq (a := c10al) (b := c10ar) (by kernel_rfl) (show live [2, 3] c10ar [2, 3] [] = [0] by kernel_rfl), ep10al]
  unfold p10a
  exact (congrArg (p10al C L x0 h) (funext fun x0 => funext fun h => (seqK_n _ _ _).trans (ep10ar C L x0 h K)))
noncomputable def F10 (C : CF) (L : Nat) (x0 : Value) (h : H) : Option (Value × H) :=
  p10a C L x0 h
    (fun x2 x3 h => some (.tuple ⟨[x2, x3]⟩, h))
theorem F10eq (O : List FuncId) (hO : O.any (Nat.beq 10) = false) (n : Nat) (x0 : Value) (h : H) : callB Tryd.prog 1 O (n + 1) 10 [x0] h = F10 (callB Tryd.prog 1 O n) n x0 h := by
  rw [callB_eq hO (c := c10a) (nt := 73) (RR := [2, 3]) (fr := (fs [(0, x0)])) Tryd.func10 (by kernel_rfl) (by kernel_rfl) (by kernel_rfl) (by kernel_rfl) (by kernel_rfl), ep10a]
  kernel_rfl

/-! F11: (*relayhouse/ids.Pool).Len -/
noncomputable def c11a : Code := (Tryd.f11.body).getD .skip
noncomputable def p11a (C : CF) (L : Nat) {β : Type} (x0 : Value) (h : H) (kr : Value → H → Option β) : Option β :=
  bnd2 (C 23 [x0] h) fun t4 hq1 =>
  toBK t4 fun b =>
  (bif b then
  kr (.int .i64 0) hq1
  else
  bnd (A.nilCheck x0) fun t6 =>
  bnd (A.fieldAddr 1 t6) fun t7 =>
  bnd (A.load false 1 t7 hq1) fun t8 =>
  kr t8 hq1)
theorem ep11a (C : CF) (L : Nat) {β : Type} (x0 : Value) (h : H) (K : Ex → T Value → H → Option β) :
    execK Tryd.prog C L 1 9 [2] c11a [2] [] (fs [(0, x0)]) h K =
      p11a C L x0 h (fun x2 h => K .ret (fs [(2, x2)]) h) := by
  kernel_rfl
noncomputable def F11 (C : CF) (L : Nat) (x0 : Value) (h : H) : Option (Value × H) :=
  p11a C L x0 h
    (fun x2 h => some (x2, h))
theorem F11eq (O : List FuncId) (hO : O.any (Nat.beq 11) = false) (n : Nat) (x0 : Value) (h : H) : callB Tryd.prog 1 O (n + 1) 11 [x0] h = F11 (callB Tryd.prog 1 O n) n x0 h := by
  rw [callB_eq hO (c := c11a) (nt := 9) (RR := [2]) (fr := (fs [(0, x0)])) Tryd.func11 (by kernel_rfl) (by kernel_rfl) (by kernel_rfl) (by kernel_rfl) (by kernel_rfl), ep11a]
  kernel_rfl

/-! F12: (*relayhouse/ids.Pool).Free -/
noncomputable def c12a : Code := (Tryd.f12.body).getD .skip
noncomputable def c12al : Code := cL c12a
noncomputable def p12al (C : CF) (L : Nat) {β : Type} (x0 : Value) (x1 : Value) (h : H) (kn : Value → Value → H → Option β) : Option β :=
  kn x0 x1 h
theorem ep12al (C : CF) (L : Nat) {β : Type} (x0 : Value) (x1 : Value) (h : H) (K : Ex → T Value → H → Option β) :
    execK Tryd.prog C L 1 40 [4] c12al [0, 1] [] (fs [(0, x0), (1, x1)]) h K =
      p12al C L x0 x1 h (fun x0 x1 h => K .normal (fs [(0, x0), (1, x1)]) h) := by
  kernel_rfl
noncomputable def c12ar : Code := cR c12a
noncomputable def p12ar (C : CF) (L : Nat) {β : Type} (x0 : Value) (x1 : Value) (h : H) (kr : Value → H → Option β) : Option β :=
  bnd2 (C 13 [x0, x1] h) fun t7 hq1 =>
  toBK t7 fun b =>
  bnd (A.un Tryd.prog .not (.bool b)) fun t8 =>
  toBK t8 fun bq1 =>
  (bif bq1 then
  kr (.bool false) hq1
  else
  bnd (A.nilCheck x0) fun t10 =>
  bnd (A.fieldAddr 0 t10) fun t11 =>
  bnd (A.load false 1 t11 hq1) fun t12 =>
  bnd (A.bin Tryd.prog .quo 25 x1 (.int .u16 64)) fun t14 =>
  bnd (A.idxS 1 t12 t14) fun t15 =>
  bnd (A.load false 1 t15 hq1) fun t16 =>
  bnd (A.bin Tryd.prog .rem 25 x1 (.int .u16 64)) fun t18 =>
  bnd (A.bin Tryd.prog .shl 52 (.int .u64 1) t18) fun t19 =>
  bnd (A.bin Tryd.prog .andNot 52 t16 t19) fun t20 =>
  bnd (A.idxS 1 t12 t14) fun t21 =>
  bnd (A.store 1 t21 t20 hq1) fun hq2 =>
  bnd (A.nilCheck x0) fun t23 =>
  bnd (A.fieldAddr 1 t23) fun t24 =>
  bnd (A.load false 1 t24 hq2) fun t25 =>
  bnd (A.bin Tryd.prog .sub 3 t25 (.int .i64 1)) fun t26 =>
  bnd (A.nilCheck x0) fun t27 =>
  bnd (A.fieldAddr 1 t27) fun t28 =>
  bnd (A.store 1 t28 t26 hq2) fun hq3 =>
  bnd (A.nilCheck x0) fun t31 =>
  bnd (A.fieldAddr 2 t31) fun t32 =>
  bnd (A.load false 1 t32 hq3) fun t33 =>
  bnd (A.bin Tryd.prog .quo 25 x1 (.int .u16 64)) fun t35 =>
  bnd (A.conv Tryd.prog 25 3 t35) fun t36 =>
  bnd (A.pureB Tryd.prog .min ⟨[3, 3]⟩ 3 [t33, t36]) fun t37 =>
  bnd (A.nilCheck x0) fun t38 =>
  bnd (A.fieldAddr 2 t38) fun t39 =>
  bnd (A.store 1 t39 t37 hq3) fun hq4 =>
  kr (.bool true) hq4)
theorem ep12ar (C : CF) (L : Nat) {β : Type} (x0 : Value) (x1 : Value) (h : H) (K : Ex → T Value → H → Option β) :
    execK Tryd.prog C L 1 40 [4] c12ar [4] [] (fs [(0, x0), (1, x1)]) h K =
      p12ar C L x0 x1 h (fun x4 h => K .ret (fs [(4, x4)]) h) := by
  kernel_rfl
noncomputable def p12a (C : CF) (L : Nat) {β : Type} (x0 : Value) (x1 : Value) (h : H) (kr : Value → H → Option β) : Option β :=
  p12al C L x0 x1 h (fun x0 x1 h => p12ar C L x0 x1 h kr)
theorem ep12a (C : CF) (L : Nat) {β : Type} (x0 : Value) (x1 : Value) (h : H) (K : Ex → T Value → H → Option β) :
    execK Tryd.prog C L 1 40 [4] c12a [4] [] (fs [(0, x0), (1, x1)]) h K =
      p12a C L x0 x1 h (fun x4 h => K .ret (fs [(4, x4)]) h) := by
  rw [execK_seq (a := c12al) (b := c12ar) (by kernel_rfl) (show live [4] c12ar [4] [] = [0, 1] by kernel_rfl), ep12al]
  unfold p12a
  exact (congrArg (p12al C L x0 x1 h) (funext fun x0 => funext fun x1 => funext fun h => (seqK_n _ _ _).trans (ep12ar C L x0 x1 h K)))
noncomputable def F12 (C : CF) (L : Nat) (x0 : Value) (x1 : Value) (h : H) : Option (Value × H) :=
  p12a C L x0 x1 h
    (fun x4 h => some (x4, h))
theorem F12eq (O : List FuncId) (hO : O.any (Nat.beq 12) = false) (n : Nat) (x0 : Value) (x1 : Value) (h : H) : callB Tryd.prog 1 O (n + 1) 12 [x0, x1] h = F12 (callB Tryd.prog 1 O n) n x0 x1 h := by
  rw [callB_eq hO (c := c12a) (nt := 40) (RR := [4]) (fr := (fs [(0, x0), (1, x1)])) Tryd.func12 (by kernel_rfl) (by kernel_rfl) (by kernel_rfl) (by kernel_rfl) (by kernel_rfl), ep12a]
  kernel_rfl

/-! F13: (*relayhouse/ids.Pool).Has -/
noncomputable def c13a : Code := (Tryd.f13.body).getD .skip
noncomputable def p13a (C : CF) (L : Nat) {β : Type} (x0 : Value) (x1 : Value) (h : H) (kr : Value → H → Option β) : Option β :=
  bnd2 (C 23 [x0] h) fun t6 hq1 =>
  toBK t6 fun b =>
  bnd (A.un Tryd.prog .not (.bool b)) fun t7 =>
  toBK t7 fun bq1 =>
  (bif bq1 then
  bnd (A.bin Tryd.prog .gtr 25 x1 (.int .u16 0)) fun t10 =>
  toBK t10 fun bq2 =>
  (bif bq2 then
  bnd (A.nilCheck x0) fun t14 =>
  bnd (A.fieldAddr 0 t14) fun t15 =>
  bnd (A.load false 1 t15 hq1) fun t16 =>
  bnd (A.bin Tryd.prog .quo 25 x1 (.int .u16 64)) fun t18 =>
  bnd (A.idxS 1 t16 t18) fun t19 =>
  bnd (A.load false 1 t19 hq1) fun t20 =>
  bnd (A.bin Tryd.prog .rem 25 x1 (.int .u16 64)) fun t22 =>
  bnd (A.bin Tryd.prog .shr 52 t20 t22) fun t23 =>
  bnd (A.bin Tryd.prog .and 52 t23 (.int .u64 1)) fun t24 =>
  bnd (A.bin Tryd.prog .eql 52 t24 (.int .u64 1)) fun t25 =>
  toBK t25 fun bq3 =>
  kr (.bool bq3) hq1
  else
  kr (.bool false) hq1)
  else
  kr (.bool false) hq1)
theorem ep13a (C : CF) (L : Nat) {β : Type} (x0 : Value) (x1 : Value) (h : H) (K : Ex → T Value → H → Option β) :
    execK Tryd.prog C L 1 27 [4] c13a [4] [] (fs [(0, x0), (1, x1)]) h K =
      p13a C L x0 x1 h (fun x4 h => K .ret (fs [(4, x4)]) h) := by
  kernel_rfl
noncomputable def F13 (C : CF) (L : Nat) (x0 : Value) (x1 : Value) (h : H) : Option (Value × H) :=
  p13a C L x0 x1 h
    (fun x4 h => some (x4, h))
theorem F13eq (O : List FuncId) (hO : O.any (Nat.beq 13) = false) (n : Nat) (x0 : Value) (x1 : Value) (h : H) : callB Tryd.prog 1 O (n + 1) 13 [x0, x1] h = F13 (callB Tryd.prog 1 O n) n x0 x1 h := by
  rw [callB_eq hO (c := c13a) (nt := 27) (RR := [4]) (fr := (fs [(0, x0), (1, x1)])) Tryd.func13 (by kernel_rfl) (by kernel_rfl) (by kernel_rfl) (by kernel_rfl) (by kernel_rfl), ep13a]
  kernel_rfl

/-! F14: relayhouse/relayhouselaw11.all -/
noncomputable def c14a : Code := (Tryd.f14.body).getD .skip
noncomputable def c14al : Code := cL c14a
noncomputable def p14al (C : CF) (L : Nat) {β : Type} (x0 : Value) (h : H) (kn : Value → Value → Value → H → Option β) : Option β :=
  kn x0 (.bool false) (.slice none 0 0) h
theorem ep14al (C : CF) (L : Nat) {β : Type} (x0 : Value) (h : H) (K : Ex → T Value → H → Option β) :
    execK Tryd.prog C L 1 18 [2, 3] c14al [0, 3, 2, 12] [] (fs [(0, x0)]) h K =
      p14al C L x0 h (fun x0 x3 x2 h => K .normal (fs [(0, x0), (3, x3), (2, x2)]) h) := by
  kernel_rfl
noncomputable def c14ar : Code := cR c14a
noncomputable def c14arl : Code := cL c14ar
noncomputable def p14arl (C : CF) (L : Nat) {β : Type} (x0 : Value) (x3 : Value) (x2 : Value) (h : H) (kn : Value → Value → Value → Value → H → Option β) : Option β :=
  bnd2 (A.box 1 Z30 h) fun t4 hq1 =>
  kn x0 x3 x2 t4 hq1
theorem ep14arl (C : CF) (L : Nat) {β : Type} (x0 : Value) (x3 : Value) (x2 : Value) (h : H) (K : Ex → T Value → H → Option β) :
    execK Tryd.prog C L 1 18 [2, 3] c14arl [0, 3, 2, 12, 4] [] (fs [(0, x0), (3, x3), (2, x2)]) h K =
      p14arl C L x0 x3 x2 h (fun x0 x3 x2 x4 h => K .normal (fs [(0, x0), (3, x3), (2, x2), (4, x4)]) h) := by
  kernel_rfl
noncomputable def c14arr : Code := cR c14ar
noncomputable def c14arrl : Code := cL c14arr
noncomputable def p14arrl (C : CF) (L : Nat) {β : Type} (x0 : Value) (x3 : Value) (x2 : Value) (x4 : Value) (h : H) (kn : Value → Value → Value → Value → H → Option β) : Option β :=
  bnd2 (C 21 [x0] h) fun t8 hq1 =>
  kn t8 x3 x2 x4 hq1
theorem ep14arrl (C : CF) (L : Nat) {β : Type} (x0 : Value) (x3 : Value) (x2 : Value) (x4 : Value) (h : H) (K : Ex → T Value → H → Option β) :
    execK Tryd.prog C L 1 18 [2, 3] c14arrl [5, 3, 2, 12, 4] [] (fs [(0, x0), (3, x3), (2, x2), (4, x4)]) h K =
      p14arrl C L x0 x3 x2 x4 h (fun x5 x3 x2 x4 h => K .normal (fs [(5, x5), (3, x3), (2, x2), (4, x4)]) h) := by
  kernel_rfl
noncomputable def c14arrr : Code := cR c14arr
noncomputable def c14arrrl : Code := cL c14arrr
noncomputable def p14arrrl (C : CF) (L : Nat) {β : Type} (x5 : Value) (x3 : Value) (x2 : Value) (x4 : Value) (h : H) (kr : Value → Value → H → Option β) (kn : Value → Value → Value → Value → H → Option β) : Option β :=
  bnd (A.bin Tryd.prog .eql 47 x5 .nilFunc) fun t10 =>
  toBK t10 fun b =>
  (bif b then
  kr (.slice none 0 0) (.bool false) h
  else
  kn x5 x3 x2 x4 h)
theorem ep14arrrl (C : CF) (L : Nat) {β : Type} (x5 : Value) (x3 : Value) (x2 : Value) (x4 : Value) (h : H) (K : Ex → T Value → H → Option β) :
    execK Tryd.prog C L 1 18 [2, 3] c14arrrl [5, 3, 2, 12, 4] [] (fs [(5, x5), (3, x3), (2, x2), (4, x4)]) h K =
      p14arrrl C L x5 x3 x2 x4 h (fun x2 x3 h => K .ret (fs [(2, x2), (3, x3)]) h) (fun x5 x3 x2 x4 h => K .normal (fs [(5, x5), (3, x3), (2, x2), (4, x4)]) h) := by
  kernel_rfl
noncomputable def c14arrrr : Code := cR c14arrr
noncomputable def c14arrrrl : Code := cL c14arrrr
noncomputable def c14arrrrll : Code := cL c14arrrrl
noncomputable def p14arrrrll (C : CF) (L : Nat) {β : Type} (x5 : Value) (x3 : Value) (x2 : Value) (x4 : Value) (h : H) (kn : Value → Value → Value → Value → H → Option β) : Option β :=
  kn x5 x3 x2 x4 h
theorem ep14arrrrll (C : CF) (L : Nat) {β : Type} (x5 : Value) (x3 : Value) (x2 : Value) (x4 : Value) (h : H) (K : Ex → T Value → H → Option β) :
    execK Tryd.prog C L 1 18 [2, 3] c14arrrrll [11, 3, 2, 12, 4] [] (fs [(5, x5), (3, x3), (2, x2), (4, x4)]) h K =
      p14arrrrll C L x5 x3 x2 x4 h (fun x11 x3 x2 x4 h => K .normal (fs [(11, x11), (3, x3), (2, x2), (4, x4)]) h) := by
  kernel_rfl
noncomputable def c14arrrrlr : Code := cR c14arrrrl
noncomputable def c14arrrrlrb : Code := cL c14arrrrlr
noncomputable def c14arrrrlrby : Code := cL c14arrrrlrb
noncomputable def p14arrrrlrby (C : CF) (L : Nat) {β : Type} (x11 : Value) (x3 : Value) (x2 : Value) (x4 : Value) (x12 : Value) (h : H) (kn : Value → Value → H → Option β) : Option β :=
  kn x12 x4 h
theorem ep14arrrrlrby (C : CF) (L : Nat) {β : Type} (x11 : Value) (x3 : Value) (x2 : Value) (x4 : Value) (x12 : Value) (h : H) (K : Ex → T Value → H → Option β) :
    execK Tryd.prog C L 1 18 [] c14arrrrlrby [6, 4] [] (fs [(11, x11), (3, x3), (2, x2), (4, x4), (12, x12)]) h K =
      p14arrrrlrby C L x11 x3 x2 x4 x12 h (fun x6 x4 h => K .normal (fs [(6, x6), (4, x4)]) h) := by
  kernel_rfl
noncomputable def c14arrrrlrbz : Code := cR c14arrrrlrb
noncomputable def p14arrrrlrbz (C : CF) (L : Nat) {β : Type} (x6 : Value) (x4 : Value) (h : H) (kn : H → Option β) : Option β :=
  bnd (A.load false 1 x4 h) fun t13 =>
  bnd2 (A.buildSlice 1 1 Z25L [(0, 1, x6)] h) fun t15 hq1 =>
  bnd2 (A.append 1 2 t13 t15 hq1) fun t16 hq2 =>
  bnd (A.store 1 x4 t16 hq2) fun hq3 =>
  kn hq3
theorem ep14arrrrlrbz (C : CF) (L : Nat) {β : Type} (x6 : Value) (x4 : Value) (h : H) (K : Ex → T Value → H → Option β) :
    execK Tryd.prog C L 1 18 [] c14arrrrlrbz [] [] (fs [(6, x6), (4, x4)]) h K =
      p14arrrrlrbz C L x6 x4 h (fun h => K .normal (fs []) h) := by
  kernel_rfl
noncomputable def p14arrrrlrb (C : CF) (L : Nat) {β : Type} (x11 : Value) (x3 : Value) (x2 : Value) (x4 : Value) (h : H) (kn : Value → H → Option β) (kr : Value → Value → H → Option β) (kx0 : Value → H → Option β) : Option β :=
  bif isFn Tryd.prog x11 then (callV C x11 [.func (.yield h.next) #[] #[]] (h.push (.loop 18 (fs [(11, x11), (3, x3), (2, x2), (4, x4)]) [12] c14arrrrlrby c14arrrrlrbz .ready))).bind fun (_, h2) => rangeK h.next h2 (fun h => kn x4 h) (fun h => kr x2 x3 h) (exL [(0, fun h => kx0 x4 h)])
  else none
theorem ep14arrrrlrb (C : CF) (L : Nat) {β : Type} (x11 : Value) (x3 : Value) (x2 : Value) (x4 : Value) (h : H) (K : Ex → T Value → H → Option β) :
    execK Tryd.prog C L 1 18 [2, 3] c14arrrrlrb [4] [(0, [4])] (fs [(11, x11), (3, x3), (2, x2), (4, x4)]) h K =
      p14arrrrlrb C L x11 x3 x2 x4 h (fun x4 h => K .normal (fs [(4, x4)]) h) (fun x2 x3 h => K .ret (fs [(2, x2), (3, x3)]) h) (fun x4 h => K (.exit 0) (fs [(4, x4)]) h) := by
  rw [execK_range (g := (.tmp 11)) (gv := x11) (ps := [12]) (assign := c14arrrrlrby) (body := c14arrrrlrbz) (by kernel_rfl) (by kernel_rfl)]
  unfold p14arrrrlrb
  rfl
noncomputable def p14arrrrlr (C : CF) (L : Nat) {β : Type} (x11 : Value) (x3 : Value) (x2 : Value) (x4 : Value) (h : H) (kn : Value → H → Option β) (kr : Value → Value → H → Option β) : Option β :=
  p14arrrrlrb C L x11 x3 x2 x4 h kn kr kn
theorem ep14arrrrlr (C : CF) (L : Nat) {β : Type} (x11 : Value) (x3 : Value) (x2 : Value) (x4 : Value) (h : H) (K : Ex → T Value → H → Option β) :
    execK Tryd.prog C L 1 18 [2, 3] c14arrrrlr [4] [] (fs [(11, x11), (3, x3), (2, x2), (4, x4)]) h K =
      p14arrrrlr C L x11 x3 x2 x4 h (fun x4 h => K .normal (fs [(4, x4)]) h) (fun x2 x3 h => K .ret (fs [(2, x2), (3, x3)]) h) := by
  rw [execK_block (b := c14arrrrlrb) (id := 0) (by kernel_rfl), ep14arrrrlrb]
  unfold p14arrrrlr
  rfl
noncomputable def p14arrrrl (C : CF) (L : Nat) {β : Type} (x5 : Value) (x3 : Value) (x2 : Value) (x4 : Value) (h : H) (kn : Value → H → Option β) (kr : Value → Value → H → Option β) : Option β :=
  p14arrrrll C L x5 x3 x2 x4 h (fun x11 x3 x2 x4 h => p14arrrrlr C L x11 x3 x2 x4 h kn kr)
theorem ep14arrrrl (C : CF) (L : Nat) {β : Type} (x5 : Value) (x3 : Value) (x2 : Value) (x4 : Value) (h : H) (K : Ex → T Value → H → Option β) :
    execK Tryd.prog C L 1 18 [2, 3] c14arrrrl [4] [] (fs [(5, x5), (3, x3), (2, x2), (4, x4)]) h K =
      p14arrrrl C L x5 x3 x2 x4 h (fun x4 h => K .normal (fs [(4, x4)]) h) (fun x2 x3 h => K .ret (fs [(2, x2), (3, x3)]) h) := by
  rw [execK_seq (a := c14arrrrll) (b := c14arrrrlr) (by kernel_rfl) (show live [2, 3] c14arrrrlr [4] [] = [11, 3, 2, 12, 4] by kernel_rfl), ep14arrrrll]
  unfold p14arrrrl
  exact (congrArg (p14arrrrll C L x5 x3 x2 x4 h) (funext fun x11 => funext fun x3 => funext fun x2 => funext fun x4 => funext fun h => (seqK_n _ _ _).trans (ep14arrrrlr C L x11 x3 x2 x4 h K)))
noncomputable def c14arrrrr : Code := cR c14arrrr
noncomputable def p14arrrrr (C : CF) (L : Nat) {β : Type} (x4 : Value) (h : H) (kr : Value → Value → H → Option β) : Option β :=
  bnd (A.load false 1 x4 h) fun t17 =>
  kr t17 (.bool true) h
theorem ep14arrrrr (C : CF) (L : Nat) {β : Type} (x4 : Value) (h : H) (K : Ex → T Value → H → Option β) :
    execK Tryd.prog C L 1 18 [2, 3] c14arrrrr [2, 3] [] (fs [(4, x4)]) h K =
      p14arrrrr C L x4 h (fun x2 x3 h => K .ret (fs [(2, x2), (3, x3)]) h) := by
  kernel_rfl
noncomputable def p14arrrr (C : CF) (L : Nat) {β : Type} (x5 : Value) (x3 : Value) (x2 : Value) (x4 : Value) (h : H) (kr : Value → Value → H → Option β) : Option β :=
  p14arrrrl C L x5 x3 x2 x4 h (fun x4 h => p14arrrrr C L x4 h kr) kr
theorem ep14arrrr (C : CF) (L : Nat) {β : Type} (x5 : Value) (x3 : Value) (x2 : Value) (x4 : Value) (h : H) (K : Ex → T Value → H → Option β) :
    execK Tryd.prog C L 1 18 [2, 3] c14arrrr [2, 3] [] (fs [(5, x5), (3, x3), (2, x2), (4, x4)]) h K =
      p14arrrr C L x5 x3 x2 x4 h (fun x2 x3 h => K .ret (fs [(2, x2), (3, x3)]) h) := by
  rw [execK_seq (a := c14arrrrl) (b := c14arrrrr) (by kernel_rfl) (show live [2, 3] c14arrrrr [2, 3] [] = [4] by kernel_rfl), ep14arrrrl]
  unfold p14arrrr
  exact (congr (congrArg (p14arrrrl C L x5 x3 x2 x4 h) (funext fun x4 => funext fun h => (seqK_n _ _ _).trans (ep14arrrrr C L x4 h K))) (funext fun x2 => funext fun x3 => funext fun h => seqK_r _ _ _))
noncomputable def p14arrr (C : CF) (L : Nat) {β : Type} (x5 : Value) (x3 : Value) (x2 : Value) (x4 : Value) (h : H) (kr : Value → Value → H → Option β) : Option β :=
  p14arrrl C L x5 x3 x2 x4 h kr (fun x5 x3 x2 x4 h => p14arrrr C L x5 x3 x2 x4 h kr)
theorem ep14arrr (C : CF) (L : Nat) {β : Type} (x5 : Value) (x3 : Value) (x2 : Value) (x4 : Value) (h : H) (K : Ex → T Value → H → Option β) :
    execK Tryd.prog C L 1 18 [2, 3] c14arrr [2, 3] [] (fs [(5, x5), (3, x3), (2, x2), (4, x4)]) h K =
      p14arrr C L x5 x3 x2 x4 h (fun x2 x3 h => K .ret (fs [(2, x2), (3, x3)]) h) := by
  rw [execK_seq (a := c14arrrl) (b := c14arrrr) (by kernel_rfl) (show live [2, 3] c14arrrr [2, 3] [] = [5, 3, 2, 12, 4] by kernel_rfl), ep14arrrl]
  unfold p14arrr
  exact (congr (congrArg (p14arrrl C L x5 x3 x2 x4 h) (funext fun x2 => funext fun x3 => funext fun h => seqK_r _ _ _)) (funext fun x5 => funext fun x3 => funext fun x2 => funext fun x4 => funext fun h => (seqK_n _ _ _).trans (ep14arrrr C L x5 x3 x2 x4 h K)))
noncomputable def p14arr (C : CF) (L : Nat) {β : Type} (x0 : Value) (x3 : Value) (x2 : Value) (x4 : Value) (h : H) (kr : Value → Value → H → Option β) : Option β :=
  p14arrl C L x0 x3 x2 x4 h (fun x5 x3 x2 x4 h => p14arrr C L x5 x3 x2 x4 h kr)
theorem ep14arr (C : CF) (L : Nat) {β : Type} (x0 : Value) (x3 : Value) (x2 : Value) (x4 : Value) (h : H) (K : Ex → T Value → H → Option β) :
    execK Tryd.prog C L 1 18 [2, 3] c14arr [2, 3] [] (fs [(0, x0), (3, x3), (2, x2), (4, x4)]) h K =
      p14arr C L x0 x3 x2 x4 h (fun x2 x3 h => K .ret (fs [(2, x2), (3, x3)]) h) := by
  rw [execK_seq (a := c14arrl) (b := c14arrr) (by kernel_rfl) (show live [2, 3] c14arrr [2, 3] [] = [5, 3, 2, 12, 4] by kernel_rfl), ep14arrl]
  unfold p14arr
  exact (congrArg (p14arrl C L x0 x3 x2 x4 h) (funext fun x5 => funext fun x3 => funext fun x2 => funext fun x4 => funext fun h => (seqK_n _ _ _).trans (ep14arrr C L x5 x3 x2 x4 h K)))
noncomputable def p14ar (C : CF) (L : Nat) {β : Type} (x0 : Value) (x3 : Value) (x2 : Value) (h : H) (kr : Value → Value → H → Option β) : Option β :=
  p14arl C L x0 x3 x2 h (fun x0 x3 x2 x4 h => p14arr C L x0 x3 x2 x4 h kr)
theorem ep14ar (C : CF) (L : Nat) {β : Type} (x0 : Value) (x3 : Value) (x2 : Value) (h : H) (K : Ex → T Value → H → Option β) :
    execK Tryd.prog C L 1 18 [2, 3] c14ar [2, 3] [] (fs [(0, x0), (3, x3), (2, x2)]) h K =
      p14ar C L x0 x3 x2 h (fun x2 x3 h => K .ret (fs [(2, x2), (3, x3)]) h) := by
  rw [execK_seq (a := c14arl) (b := c14arr) (by kernel_rfl) (show live [2, 3] c14arr [2, 3] [] = [0, 3, 2, 12, 4] by kernel_rfl), ep14arl]
  unfold p14ar
  exact (congrArg (p14arl C L x0 x3 x2 h) (funext fun x0 => funext fun x3 => funext fun x2 => funext fun x4 => funext fun h => (seqK_n _ _ _).trans (ep14arr C L x0 x3 x2 x4 h K)))
noncomputable def p14a (C : CF) (L : Nat) {β : Type} (x0 : Value) (h : H) (kr : Value → Value → H → Option β) : Option β :=
  p14al C L x0 h (fun x0 x3 x2 h => p14ar C L x0 x3 x2 h kr)
theorem ep14a (C : CF) (L : Nat) {β : Type} (x0 : Value) (h : H) (K : Ex → T Value → H → Option β) :
    execK Tryd.prog C L 1 18 [2, 3] c14a [2, 3] [] (fs [(0, x0)]) h K =
      p14a C L x0 h (fun x2 x3 h => K .ret (fs [(2, x2), (3, x3)]) h) := by
  rw [execK_seq (a := c14al) (b := c14ar) (by kernel_rfl) (show live [2, 3] c14ar [2, 3] [] = [0, 3, 2, 12] by kernel_rfl), ep14al]
  unfold p14a
  exact (congrArg (p14al C L x0 h) (funext fun x0 => funext fun x3 => funext fun x2 => funext fun h => (seqK_n _ _ _).trans (ep14ar C L x0 x3 x2 h K)))
noncomputable def F14 (C : CF) (L : Nat) (x0 : Value) (h : H) : Option (Value × H) :=
  p14a C L x0 h
    (fun x2 x3 h => some (.tuple ⟨[x2, x3]⟩, h))
theorem F14eq (O : List FuncId) (hO : O.any (Nat.beq 14) = false) (n : Nat) (x0 : Value) (h : H) : callB Tryd.prog 1 O (n + 1) 14 [x0] h = F14 (callB Tryd.prog 1 O n) n x0 h := by
  rw [callB_eq hO (c := c14a) (nt := 18) (RR := [2, 3]) (fr := (fs [(0, x0)])) Tryd.func14 (by kernel_rfl) (by kernel_rfl) (by kernel_rfl) (by kernel_rfl) (by kernel_rfl), ep14a]
  kernel_rfl

/-! F15: relayhouse/relayhouselaw11.awake -/
noncomputable def c15a : Code := (Tryd.f15.body).getD .skip
noncomputable def c15al : Code := cL c15a
noncomputable def p15al (C : CF) (L : Nat) {β : Type} (h : H) (kn : H → Option β) : Option β :=
  kn h
theorem ep15al (C : CF) (L : Nat) {β : Type} (h : H) (K : Ex → T Value → H → Option β) :
    execK Tryd.prog C L 1 68 [0] c15al [] [] (fs []) h K =
      p15al C L h (fun h => K .normal (fs []) h) := by
  kernel_rfl
noncomputable def c15ar : Code := cR c15a
noncomputable def c15arl : Code := cL c15ar
noncomputable def p15arl (C : CF) (L : Nat) {β : Type} (h : H) (kn : Value → H → Option β) : Option β :=
  bnd2 (C 8 [] h) fun t4 hq1 =>
  kn t4 hq1
theorem ep15arl (C : CF) (L : Nat) {β : Type} (h : H) (K : Ex → T Value → H → Option β) :
    execK Tryd.prog C L 1 68 [0] c15arl [1] [] (fs []) h K =
      p15arl C L h (fun x1 h => K .normal (fs [(1, x1)]) h) := by
  kernel_rfl
noncomputable def c15arr : Code := cR c15ar
noncomputable def c15arrl : Code := cL c15arr
noncomputable def c15arrll : Code := cL c15arrl
noncomputable def p15arrll (C : CF) (L : Nat) {β : Type} (x1 : Value) (h : H) (kn : Value → Value → H → Option β) : Option β :=
  bnd2 (C 9 [x1, (.int .u16 1)] h) fun t6 hq1 =>
  toBK t6 fun b =>
  bnd (A.un Tryd.prog .not (.bool b)) fun t7 =>
  toBK t7 fun bq1 =>
  (bif bq1 then
  kn (.bool true) x1 hq1
  else
  bnd2 (C 9 [x1, (.int .u16 2)] hq1) fun t10 hq2 =>
  toBK t10 fun bq2 =>
  bnd (A.un Tryd.prog .not (.bool bq2)) fun t11 =>
  toBK t11 fun bq3 =>
  (bif bq3 then
  kn (.bool true) x1 hq2
  else
  bnd2 (C 9 [x1, (.int .u16 3)] hq2) fun t15 hq3 =>
  toBK t15 fun bq4 =>
  bnd (A.un Tryd.prog .not (.bool bq4)) fun t16 =>
  toBK t16 fun bq5 =>
  (bif bq5 then
  kn (.bool true) x1 hq3
  else
  bnd2 (C 12 [x1, (.int .u16 2)] hq3) fun t20 hq4 =>
  toBK t20 fun bq6 =>
  bnd (A.un Tryd.prog .not (.bool bq6)) fun t21 =>
  toBK t21 fun bq7 =>
  (bif bq7 then
  kn (.bool true) x1 hq4
  else
  bnd2 (C 9 [x1, (.int .u16 2)] hq4) fun t25 hq5 =>
  toBK t25 fun bq8 =>
  bnd (A.un Tryd.prog .not (.bool bq8)) fun t26 =>
  toBK t26 fun bq9 =>
  (bif bq9 then
  kn (.bool true) x1 hq5
  else
  bnd2 (C 9 [x1, (.int .u16 4)] hq5) fun t30 hq6 =>
  toBK t30 fun bq10 =>
  bnd (A.un Tryd.prog .not (.bool bq10)) fun t31 =>
  toBK t31 fun bq11 =>
  kn (.bool bq11) x1 hq6)))))
theorem ep15arrll (C : CF) (L : Nat) {β : Type} (x1 : Value) (h : H) (K : Ex → T Value → H → Option β) :
    execK Tryd.prog C L 1 68 [0] c15arrll [32, 1] [] (fs [(1, x1)]) h K =
      p15arrll C L x1 h (fun x32 x1 h => K .normal (fs [(32, x32), (1, x1)]) h) := by
  kernel_rfl
noncomputable def c15arrlr : Code := cR c15arrl
noncomputable def p15arrlr (C : CF) (L : Nat) {β : Type} (x32 : Value) (x1 : Value) (h : H) (kr : Value → H → Option β) (kn : Value → H → Option β) : Option β :=
  condV x32 (
  kr (.bool false) h) (
  kn x1 h)
theorem ep15arrlr (C : CF) (L : Nat) {β : Type} (x32 : Value) (x1 : Value) (h : H) (K : Ex → T Value → H → Option β) :
    execK Tryd.prog C L 1 68 [0] c15arrlr [1] [] (fs [(32, x32), (1, x1)]) h K =
      p15arrlr C L x32 x1 h (fun x0 h => K .ret (fs [(0, x0)]) h) (fun x1 h => K .normal (fs [(1, x1)]) h) := by
  kernel_rfl
noncomputable def p15arrl (C : CF) (L : Nat) {β : Type} (x1 : Value) (h : H) (kr : Value → H → Option β) (kn : Value → H → Option β) : Option β :=
  p15arrll C L x1 h (fun x32 x1 h => p15arrlr C L x32 x1 h kr kn)
theorem ep15arrl (C : CF) (L : Nat) {β : Type} (x1 : Value) (h : H) (K : Ex → T Value → H → Option β) :
    execK Tryd.prog C L 1 68 [0] c15arrl [1] [] (fs [(1, x1)]) h K =
      p15arrl C L x1 h (fun x0 h => K .ret (fs [(0, x0)]) h) (fun x1 h => K .normal (fs [(1, x1)]) h) := by
  rw [execK_seq (a := c15arrll) (b := c15arrlr) (by kernel_rfl) (show live [0] c15arrlr [1] [] = [32, 1] by kernel_rfl), ep15arrll]
  unfold p15arrl
  exact (congrArg (p15arrll C L x1 h) (funext fun x32 => funext fun x1 => funext fun h => (seqK_n _ _ _).trans (ep15arrlr C L x32 x1 h K)))
noncomputable def c15arrr : Code := cR c15arr
noncomputable def c15arrrl : Code := cL c15arrr
noncomputable def p15arrrl (C : CF) (L : Nat) {β : Type} (x1 : Value) (h : H) (kn : Value → Value → Value → H → Option β) : Option β :=
  bnd2 (C 14 [x1] h) fun t35 hq1 =>
  bnd (A.extract 0 t35) fun t36 =>
  bnd (A.extract 1 t35) fun t37 =>
  toBK t37 fun b =>
  kn x1 (.bool b) t36 hq1
theorem ep15arrrl (C : CF) (L : Nat) {β : Type} (x1 : Value) (h : H) (K : Ex → T Value → H → Option β) :
    execK Tryd.prog C L 1 68 [0] c15arrrl [1, 3, 2] [] (fs [(1, x1)]) h K =
      p15arrrl C L x1 h (fun x1 x3 x2 h => K .normal (fs [(1, x1), (3, x3), (2, x2)]) h) := by
  kernel_rfl
noncomputable def c15arrrr : Code := cR c15arrr
noncomputable def c15arrrrl : Code := cL c15arrrr
noncomputable def p15arrrrl (C : CF) (L : Nat) {β : Type} (x1 : Value) (x3 : Value) (x2 : Value) (h : H) (kn : Value → H → Option β) : Option β :=
  bnd2 (C 13 [x1, (.int .u16 4)] h) fun t39 hq1 =>
  toBK t39 fun b =>
  (bif b then
  bnd2 (C 13 [x1, (.int .u16 5)] hq1) fun t42 hq2 =>
  toBK t42 fun bq1 =>
  bnd (A.un Tryd.prog .not (.bool bq1)) fun t43 =>
  toBK t43 fun bq2 =>
  (bif bq2 then
  bnd2 (C 13 [x1, (.int .u16 0)] hq2) fun t47 hq3 =>
  toBK t47 fun bq3 =>
  bnd (A.un Tryd.prog .not (.bool bq3)) fun t48 =>
  toBK t48 fun bq4 =>
  (bif bq4 then
  bnd2 (C 12 [x1, (.int .u16 5)] hq3) fun t52 hq4 =>
  toBK t52 fun bq5 =>
  bnd (A.un Tryd.prog .not (.bool bq5)) fun t53 =>
  toBK t53 fun bq6 =>
  (bif bq6 then
  bnd2 (C 11 [x1] hq4) fun t57 hq5 =>
  bnd (A.bin Tryd.prog .eql 3 t57 (.int .i64 4)) fun t58 =>
  toBK t58 fun bq7 =>
  (bif bq7 then
  toBK x3 fun bq8 =>
  (bif bq8 then
  bnd2 (A.buildSlice 1 4 Z25L [(0, 1, (.int .u16 1)), (1, 1, (.int .u16 2)), (2, 1, (.int .u16 3)), (3, 1, (.int .u16 4))] hq5) fun t65 hq6 =>
  bnd2 (C 20 [x2, t65] hq6) fun t66 hq7 =>
  toBK t66 fun bq9 =>
  kn (.bool bq9) hq7
  else
  kn (.bool false) hq5)
  else
  kn (.bool false) hq5)
  else
  kn (.bool false) hq4)
  else
  kn (.bool false) hq3)
  else
  kn (.bool false) hq2)
  else
  kn (.bool false) hq1)
theorem ep15arrrrl (C : CF) (L : Nat) {β : Type} (x1 : Value) (x3 : Value) (x2 : Value) (h : H) (K : Ex → T Value → H → Option β) :
    execK Tryd.prog C L 1 68 [0] c15arrrrl [0] [] (fs [(1, x1), (3, x3), (2, x2)]) h K =
      p15arrrrl C L x1 x3 x2 h (fun x0 h => K .normal (fs [(0, x0)]) h) := by
  kernel_rfl
noncomputable def c15arrrrr : Code := cR c15arrrr
noncomputable def p15arrrrr (C : CF) (L : Nat) {β : Type} (x0 : Value) (h : H) (kr : Value → H → Option β) : Option β :=
  kr x0 h
theorem ep15arrrrr (C : CF) (L : Nat) {β : Type} (x0 : Value) (h : H) (K : Ex → T Value → H → Option β) :
    execK Tryd.prog C L 1 68 [0] c15arrrrr [0] [] (fs [(0, x0)]) h K =
      p15arrrrr C L x0 h (fun x0 h => K .ret (fs [(0, x0)]) h) := by
  kernel_rfl
noncomputable def p15arrrr (C : CF) (L : Nat) {β : Type} (x1 : Value) (x3 : Value) (x2 : Value) (h : H) (kr : Value → H → Option β) : Option β :=
  p15arrrrl C L x1 x3 x2 h (fun x0 h => p15arrrrr C L x0 h kr)
theorem ep15arrrr (C : CF) (L : Nat) {β : Type} (x1 : Value) (x3 : Value) (x2 : Value) (h : H) (K : Ex → T Value → H → Option β) :
    execK Tryd.prog C L 1 68 [0] c15arrrr [0] [] (fs [(1, x1), (3, x3), (2, x2)]) h K =
      p15arrrr C L x1 x3 x2 h (fun x0 h => K .ret (fs [(0, x0)]) h) := by
  rw [execK_seq (a := c15arrrrl) (b := c15arrrrr) (by kernel_rfl) (show live [0] c15arrrrr [0] [] = [0] by kernel_rfl), ep15arrrrl]
  unfold p15arrrr
  exact (congrArg (p15arrrrl C L x1 x3 x2 h) (funext fun x0 => funext fun h => (seqK_n _ _ _).trans (ep15arrrrr C L x0 h K)))
noncomputable def p15arrr (C : CF) (L : Nat) {β : Type} (x1 : Value) (h : H) (kr : Value → H → Option β) : Option β :=
  p15arrrl C L x1 h (fun x1 x3 x2 h => p15arrrr C L x1 x3 x2 h kr)
theorem ep15arrr (C : CF) (L : Nat) {β : Type} (x1 : Value) (h : H) (K : Ex → T Value → H → Option β) :
    execK Tryd.prog C L 1 68 [0] c15arrr [0] [] (fs [(1, x1)]) h K =
      p15arrr C L x1 h (fun x0 h => K .ret (fs [(0, x0)]) h) := by
  rw [execK_seq (a := c15arrrl) (b := c15arrrr) (by kernel_rfl) (show live [0] c15arrrr [0] [] = [1, 3, 2] by kernel_rfl), ep15arrrl]
  unfold p15arrr
  exact (congrArg (p15arrrl C L x1 h) (funext fun x1 => funext fun x3 => funext fun x2 => funext fun h => (seqK_n _ _ _).trans (ep15arrrr C L x1 x3 x2 h K)))
noncomputable def p15arr (C : CF) (L : Nat) {β : Type} (x1 : Value) (h : H) (kr : Value → H → Option β) : Option β :=
  p15arrl C L x1 h kr (fun x1 h => p15arrr C L x1 h kr)
theorem ep15arr (C : CF) (L : Nat) {β : Type} (x1 : Value) (h : H) (K : Ex → T Value → H → Option β) :
    execK Tryd.prog C L 1 68 [0] c15arr [0] [] (fs [(1, x1)]) h K =
      p15arr C L x1 h (fun x0 h => K .ret (fs [(0, x0)]) h) := by
  rw [execK_seq (a := c15arrl) (b := c15arrr) (by kernel_rfl) (show live [0] c15arrr [0] [] = [1] by kernel_rfl), ep15arrl]
  unfold p15arr
  exact (congr (congrArg (p15arrl C L x1 h) (funext fun x0 => funext fun h => seqK_r _ _ _)) (funext fun x1 => funext fun h => (seqK_n _ _ _).trans (ep15arrr C L x1 h K)))
noncomputable def p15ar (C : CF) (L : Nat) {β : Type} (h : H) (kr : Value → H → Option β) : Option β :=
  p15arl C L h (fun x1 h => p15arr C L x1 h kr)
theorem ep15ar (C : CF) (L : Nat) {β : Type} (h : H) (K : Ex → T Value → H → Option β) :
    execK Tryd.prog C L 1 68 [0] c15ar [0] [] (fs []) h K =
      p15ar C L h (fun x0 h => K .ret (fs [(0, x0)]) h) := by
  rw [execK_seq (a := c15arl) (b := c15arr) (by kernel_rfl) (show live [0] c15arr [0] [] = [1] by kernel_rfl), ep15arl]
  unfold p15ar
  exact (congrArg (p15arl C L h) (funext fun x1 => funext fun h => (seqK_n _ _ _).trans (ep15arr C L x1 h K)))
noncomputable def p15a (C : CF) (L : Nat) {β : Type} (h : H) (kr : Value → H → Option β) : Option β :=
  p15al C L h (fun h => p15ar C L h kr)
theorem ep15a (C : CF) (L : Nat) {β : Type} (h : H) (K : Ex → T Value → H → Option β) :
    execK Tryd.prog C L 1 68 [0] c15a [0] [] (fs []) h K =
      p15a C L h (fun x0 h => K .ret (fs [(0, x0)]) h) := by
  rw [execK_seq (a := c15al) (b := c15ar) (by kernel_rfl) (show live [0] c15ar [0] [] = [] by kernel_rfl), ep15al]
  unfold p15a
  exact (congrArg (p15al C L h) (funext fun h => (seqK_n _ _ _).trans (ep15ar C L h K)))
noncomputable def F15 (C : CF) (L : Nat) (h : H) : Option (Value × H) :=
  p15a C L h
    (fun x0 h => some (x0, h))
theorem F15eq (O : List FuncId) (hO : O.any (Nat.beq 15) = false) (n : Nat) (h : H) : callB Tryd.prog 1 O (n + 1) 15 [] h = F15 (callB Tryd.prog 1 O n) n h := by
  rw [callB_eq hO (c := c15a) (nt := 68) (RR := [0]) (fr := (fs [])) Tryd.func15 (by kernel_rfl) (by kernel_rfl) (by kernel_rfl) (by kernel_rfl) (by kernel_rfl), ep15a]
  kernel_rfl

/-! F16: relayhouse/relayhouseref11.New -/
noncomputable def c16a : Code := (Tryd.f16.body).getD .skip
noncomputable def p16a (C : CF) (L : Nat) {β : Type} (h : H) (kr : Value → H → Option β) : Option β :=
  bnd (A.build Z42L []) fun t1 =>
  bnd2 (A.box 1 t1 h) fun t2 hq1 =>
  kr t2 hq1
theorem ep16a (C : CF) (L : Nat) {β : Type} (h : H) (K : Ex → T Value → H → Option β) :
    execK Tryd.prog C L 1 3 [0] c16a [0] [] (fs []) h K =
      p16a C L h (fun x0 h => K .ret (fs [(0, x0)]) h) := by
  kernel_rfl
noncomputable def F16 (C : CF) (L : Nat) (h : H) : Option (Value × H) :=
  p16a C L h
    (fun x0 h => some (x0, h))
theorem F16eq (O : List FuncId) (hO : O.any (Nat.beq 16) = false) (n : Nat) (h : H) : callB Tryd.prog 1 O (n + 1) 16 [] h = F16 (callB Tryd.prog 1 O n) n h := by
  rw [callB_eq hO (c := c16a) (nt := 3) (RR := [0]) (fr := (fs [])) Tryd.func16 (by kernel_rfl) (by kernel_rfl) (by kernel_rfl) (by kernel_rfl) (by kernel_rfl), ep16a]
  kernel_rfl

/-! F17: (*relayhouse/relayhouseref11.Pool).Take -/
noncomputable def c17a : Code := (Tryd.f17.body).getD .skip
noncomputable def c17al : Code := cL c17a
noncomputable def p17al (C : CF) (L : Nat) {β : Type} (x0 : Value) (h : H) (kn : Value → H → Option β) : Option β :=
  kn x0 h
theorem ep17al (C : CF) (L : Nat) {β : Type} (x0 : Value) (h : H) (K : Ex → T Value → H → Option β) :
    execK Tryd.prog C L 1 62 [2, 3] c17al [0] [] (fs [(0, x0)]) h K =
      p17al C L x0 h (fun x0 h => K .normal (fs [(0, x0)]) h) := by
  kernel_rfl
noncomputable def c17ar : Code := cR c17a
noncomputable def c17arl : Code := cL c17ar
noncomputable def p17arl (C : CF) (L : Nat) {β : Type} (x0 : Value) (h : H) (kr : Value → Value → H → Option β) (kn : Value → H → Option β) : Option β :=
  bnd (A.nilCheck x0) fun t7 =>
  bnd (A.fieldAddr 0 t7) fun t8 =>
  bnd (A.load false 1 t8 h) fun t9 =>
  bnd (A.lenS t9) fun t10 =>
  bnd (A.bin Tryd.prog .eql 3 t10 (.int .i64 65535)) fun t11 =>
  toBK t11 fun b =>
  (bif b then
  kr (.int .u16 0) (.int .i64 7) h
  else
  kn x0 h)
theorem ep17arl (C : CF) (L : Nat) {β : Type} (x0 : Value) (h : H) (K : Ex → T Value → H → Option β) :
    execK Tryd.prog C L 1 62 [2, 3] c17arl [0] [] (fs [(0, x0)]) h K =
      p17arl C L x0 h (fun x2 x3 h => K .ret (fs [(2, x2), (3, x3)]) h) (fun x0 h => K .normal (fs [(0, x0)]) h) := by
  kernel_rfl
noncomputable def c17arr : Code := cR c17ar
noncomputable def c17arrl : Code := cL c17arr
noncomputable def p17arrl (C : CF) (L : Nat) {β : Type} (x0 : Value) (h : H) (kn : Value → Value → H → Option β) : Option β :=
  kn x0 (.int .i64 0) h
theorem ep17arrl (C : CF) (L : Nat) {β : Type} (x0 : Value) (h : H) (K : Ex → T Value → H → Option β) :
    execK Tryd.prog C L 1 62 [2, 3] c17arrl [0, 4] [] (fs [(0, x0)]) h K =
      p17arrl C L x0 h (fun x0 x4 h => K .normal (fs [(0, x0), (4, x4)]) h) := by
  kernel_rfl
noncomputable def c17arrr : Code := cR c17arr
noncomputable def c17arrrl : Code := cL c17arrr
noncomputable def c17arrrlb : Code := cL c17arrrl
noncomputable def c17arrrlbo : Code := cL c17arrrlb
noncomputable def p17arrrlbo (C : CF) (L : Nat) {β : Type} (x0 : Value) (x4 : Value) (h : H) (kn : Value → Value → H → Option β) (kx0 : Value → Value → H → Option β) : Option β :=
  bnd (A.nilCheck x0) fun t14 =>
  bnd (A.fieldAddr 0 t14) fun t15 =>
  bnd (A.load false 1 t15 h) fun t16 =>
  bnd (A.lenS t16) fun t17 =>
  bnd (A.bin Tryd.prog .lss 3 x4 t17) fun t18 =>
  toBK t18 fun b =>
  (bif b then
  bnd (A.nilCheck x0) fun t21 =>
  bnd (A.fieldAddr 0 t21) fun t22 =>
  bnd (A.load false 1 t22 h) fun t23 =>
  bnd (A.idxS 1 t23 x4) fun t25 =>
  bnd (A.load false 1 t25 h) fun t26 =>
  bnd (A.conv Tryd.prog 25 3 t26) fun t27 =>
  bnd (A.bin Tryd.prog .add 3 x4 (.int .i64 1)) fun t29 =>
  bnd (A.bin Tryd.prog .eql 3 t27 t29) fun t30 =>
  toBK t30 fun bq1 =>
  (bif bq1 then
  bnd (A.bin Tryd.prog .add 3 x4 (.int .i64 1)) fun t33 =>
  kn x0 t33 h
  else
  kx0 x0 x4 h)
  else
  kx0 x0 x4 h)
theorem ep17arrrlbo (C : CF) (L : Nat) {β : Type} (x0 : Value) (x4 : Value) (h : H) (K : Ex → T Value → H → Option β) :
    execK Tryd.prog C L 1 62 [2, 3] c17arrrlbo [0, 4] [(0, [0, 4])] (fs [(0, x0), (4, x4)]) h K =
      p17arrrlbo C L x0 x4 h (fun x0 x4 h => K .normal (fs [(0, x0), (4, x4)]) h) (fun x0 x4 h => K (.exit 0) (fs [(0, x0), (4, x4)]) h) := by
  kernel_rfl
noncomputable def p17arrrlbw (C : CF) (L : Nat) {β : Type} (kx0 : Value → Value → H → Option β) : Nat → Value → Value → H → Option β
  | 0, _, _, _ => none
  | n + 1, x0, x4, h => p17arrrlbo C L x0 x4 h (fun x0 x4 h => p17arrrlbw C L kx0 n x0 x4 h) kx0
theorem ep17arrrlbw (C : CF) (L : Nat) {β : Type} (K : Ex → T Value → H → Option β) : ∀ (n : Nat) (x0 : Value) (x4 : Value) (h : H),
    loopK (fun fr h K => execK Tryd.prog C L 1 62 [2, 3] c17arrrlbo [0, 4] [(0, [0, 4])] fr h K) n (fs [(0, x0), (4, x4)]) h K =
      p17arrrlbw C L (fun x0 x4 h => K (.exit 0) (fs [(0, x0), (4, x4)]) h) n x0 x4 h := by
  intro n
  induction n with
  | zero => intros; rfl
  | succ n ih =>
    intros
    simp only [loopK]
    rw [ep17arrrlbo]
    simp only [seqK_n, seqK_x, seqK_r, ih]
    rfl
noncomputable def p17arrrlb (C : CF) (L : Nat) {β : Type} (x0 : Value) (x4 : Value) (h : H) (kx0 : Value → Value → H → Option β) : Option β :=
  p17arrrlbw C L kx0 L x0 x4 h
theorem ep17arrrlb (C : CF) (L : Nat) {β : Type} (x0 : Value) (x4 : Value) (h : H) (K : Ex → T Value → H → Option β) :
    execK Tryd.prog C L 1 62 [2, 3] c17arrrlb [0, 4] [(0, [0, 4])] (fs [(0, x0), (4, x4)]) h K =
      p17arrrlb C L x0 x4 h (fun x0 x4 h => K (.exit 0) (fs [(0, x0), (4, x4)]) h) := by
  rw [execK_loop (b := c17arrrlbo) (fr1 := (fs [(0, x0), (4, x4)])) (by kernel_rfl) (show live [2, 3] c17arrrlbo [] [(0, [0, 4])] = [0, 4] by kernel_rfl) (by kernel_rfl), ep17arrrlbw]
  unfold p17arrrlb
  rfl
noncomputable def p17arrrl (C : CF) (L : Nat) {β : Type} (x0 : Value) (x4 : Value) (h : H) (kn : Value → Value → H → Option β) : Option β :=
  p17arrrlb C L x0 x4 h kn
theorem ep17arrrl (C : CF) (L : Nat) {β : Type} (x0 : Value) (x4 : Value) (h : H) (K : Ex → T Value → H → Option β) :
    execK Tryd.prog C L 1 62 [2, 3] c17arrrl [0, 4] [] (fs [(0, x0), (4, x4)]) h K =
      p17arrrl C L x0 x4 h (fun x0 x4 h => K .normal (fs [(0, x0), (4, x4)]) h) := by
  rw [execK_block (b := c17arrrlb) (id := 0) (by kernel_rfl), ep17arrrlb]
  unfold p17arrrl
  rfl
noncomputable def c17arrrr : Code := cR c17arrr
noncomputable def p17arrrr (C : CF) (L : Nat) {β : Type} (x0 : Value) (x4 : Value) (h : H) (kr : Value → Value → H → Option β) : Option β :=
  bnd (A.nilCheck x0) fun t36 =>
  bnd (A.fieldAddr 0 t36) fun t37 =>
  bnd (A.load false 1 t37 h) fun t38 =>
  bnd (A.sliceS 1 t38 none (some x4) none h) fun t40 =>
  bnd2 (A.append 1 2 (.slice none 0 0) t40 h) fun t41 hq1 =>
  bnd (A.bin Tryd.prog .add 3 x4 (.int .i64 1)) fun t44 =>
  bnd (A.conv Tryd.prog 3 25 t44) fun t45 =>
  bnd2 (A.buildSlice 1 1 Z25L [(0, 1, t45)] hq1) fun t46 hq2 =>
  bnd2 (A.append 1 2 t41 t46 hq2) fun t47 hq3 =>
  bnd (A.nilCheck x0) fun t51 =>
  bnd (A.fieldAddr 0 t51) fun t52 =>
  bnd (A.load false 1 t52 hq3) fun t53 =>
  bnd (A.sliceS 1 t53 (some x4) none none hq3) fun t55 =>
  bnd2 (A.append 1 2 t47 t55 hq3) fun t56 hq4 =>
  bnd (A.nilCheck x0) fun t57 =>
  bnd (A.fieldAddr 0 t57) fun t58 =>
  bnd (A.store 1 t58 t56 hq4) fun hq5 =>
  bnd (A.bin Tryd.prog .add 3 x4 (.int .i64 1)) fun t60 =>
  bnd (A.conv Tryd.prog 3 25 t60) fun t61 =>
  kr t61 (.int .i64 0) hq5
theorem ep17arrrr (C : CF) (L : Nat) {β : Type} (x0 : Value) (x4 : Value) (h : H) (K : Ex → T Value → H → Option β) :
    execK Tryd.prog C L 1 62 [2, 3] c17arrrr [2, 3] [] (fs [(0, x0), (4, x4)]) h K =
      p17arrrr C L x0 x4 h (fun x2 x3 h => K .ret (fs [(2, x2), (3, x3)]) h) := by
  kernel_rfl
noncomputable def p17arrr (C : CF) (L : Nat) {β : Type} (x0 : Value) (x4 : Value) (h : H) (kr : Value → Value → H → Option β) : Option β :=
  p17arrrl C L x0 x4 h (fun x0 x4 h => p17arrrr C L x0 x4 h kr)
theorem ep17arrr (C : CF) (L : Nat) {β : Type} (x0 : Value) (x4 : Value) (h : H) (K : Ex → T Value → H → Option β) :
    execK Tryd.prog C L 1 62 [2, 3] c17arrr [2, 3] [] (fs [(0, x0), (4, x4)]) h K =
      p17arrr C L x0 x4 h (fun x2 x3 h => K .ret (fs [(2, x2), (3, x3)]) h) := by
  rw [execK_seq (a := c17arrrl) (b := c17arrrr) (by kernel_rfl) (show live [2, 3] c17arrrr [2, 3] [] = [0, 4] by kernel_rfl), ep17arrrl]
  unfold p17arrr
  exact (congrArg (p17arrrl C L x0 x4 h) (funext fun x0 => funext fun x4 => funext fun h => (seqK_n _ _ _).trans (ep17arrrr C L x0 x4 h K)))
noncomputable def p17arr (C : CF) (L : Nat) {β : Type} (x0 : Value) (h : H) (kr : Value → Value → H → Option β) : Option β :=
  p17arrl C L x0 h (fun x0 x4 h => p17arrr C L x0 x4 h kr)
theorem ep17arr (C : CF) (L : Nat) {β : Type} (x0 : Value) (h : H) (K : Ex → T Value → H → Option β) :
    execK Tryd.prog C L 1 62 [2, 3] c17arr [2, 3] [] (fs [(0, x0)]) h K =
      p17arr C L x0 h (fun x2 x3 h => K .ret (fs [(2, x2), (3, x3)]) h) := by
  rw [execK_seq (a := c17arrl) (b := c17arrr) (by kernel_rfl) (show live [2, 3] c17arrr [2, 3] [] = [0, 4] by kernel_rfl), ep17arrl]
  unfold p17arr
  exact (congrArg (p17arrl C L x0 h) (funext fun x0 => funext fun x4 => funext fun h => (seqK_n _ _ _).trans (ep17arrr C L x0 x4 h K)))
noncomputable def p17ar (C : CF) (L : Nat) {β : Type} (x0 : Value) (h : H) (kr : Value → Value → H → Option β) : Option β :=
  p17arl C L x0 h kr (fun x0 h => p17arr C L x0 h kr)
theorem ep17ar (C : CF) (L : Nat) {β : Type} (x0 : Value) (h : H) (K : Ex → T Value → H → Option β) :
    execK Tryd.prog C L 1 62 [2, 3] c17ar [2, 3] [] (fs [(0, x0)]) h K =
      p17ar C L x0 h (fun x2 x3 h => K .ret (fs [(2, x2), (3, x3)]) h) := by
  rw [execK_seq (a := c17arl) (b := c17arr) (by kernel_rfl) (show live [2, 3] c17arr [2, 3] [] = [0] by kernel_rfl), ep17arl]
  unfold p17ar
  exact (congr (congrArg (p17arl C L x0 h) (funext fun x2 => funext fun x3 => funext fun h => seqK_r _ _ _)) (funext fun x0 => funext fun h => (seqK_n _ _ _).trans (ep17arr C L x0 h K)))
noncomputable def p17a (C : CF) (L : Nat) {β : Type} (x0 : Value) (h : H) (kr : Value → Value → H → Option β) : Option β :=
  p17al C L x0 h (fun x0 h => p17ar C L x0 h kr)
theorem ep17a (C : CF) (L : Nat) {β : Type} (x0 : Value) (h : H) (K : Ex → T Value → H → Option β) :
    execK Tryd.prog C L 1 62 [2, 3] c17a [2, 3] [] (fs [(0, x0)]) h K =
      p17a C L x0 h (fun x2 x3 h => K .ret (fs [(2, x2), (3, x3)]) h) := by
  rw [execK_seq (a := c17al) (b := c17ar) (by kernel_rfl) (show live [2, 3] c17ar [2, 3] [] = [0] by kernel_rfl), ep17al]
  unfold p17a
  exact (congrArg (p17al C L x0 h) (funext fun x0 => funext fun h => (seqK_n _ _ _).trans (ep17ar C L x0 h K)))
noncomputable def F17 (C : CF) (L : Nat) (x0 : Value) (h : H) : Option (Value × H) :=
  p17a C L x0 h
    (fun x2 x3 h => some (.tuple ⟨[x2, x3]⟩, h))
theorem F17eq (O : List FuncId) (hO : O.any (Nat.beq 17) = false) (n : Nat) (x0 : Value) (h : H) : callB Tryd.prog 1 O (n + 1) 17 [x0] h = F17 (callB Tryd.prog 1 O n) n x0 h := by
  rw [callB_eq hO (c := c17a) (nt := 62) (RR := [2, 3]) (fr := (fs [(0, x0)])) Tryd.func17 (by kernel_rfl) (by kernel_rfl) (by kernel_rfl) (by kernel_rfl) (by kernel_rfl), ep17a]
  kernel_rfl

/-! F18: (*relayhouse/relayhouseref11.Pool).Has -/
noncomputable def c18a : Code := (Tryd.f18.body).getD .skip
noncomputable def p18a (C : CF) (L : Nat) {β : Type} (x0 : Value) (x1 : Value) (h : H) (kr : Value → H → Option β) : Option β :=
  bnd2 (C 25 [x0, x1] h) fun t8 hq1 =>
  bnd (A.nilCheck x0) fun t11 =>
  bnd (A.fieldAddr 0 t11) fun t12 =>
  bnd (A.load false 1 t12 hq1) fun t13 =>
  bnd (A.lenS t13) fun t14 =>
  bnd (A.bin Tryd.prog .lss 3 t8 t14) fun t15 =>
  toBK t15 fun b =>
  (bif b then
  bnd (A.nilCheck x0) fun t18 =>
  bnd (A.fieldAddr 0 t18) fun t19 =>
  bnd (A.load false 1 t19 hq1) fun t20 =>
  bnd (A.idxS 1 t20 t8) fun t22 =>
  bnd (A.load false 1 t22 hq1) fun t23 =>
  bnd (A.bin Tryd.prog .eql 25 t23 x1) fun t25 =>
  toBK t25 fun bq1 =>
  kr (.bool bq1) hq1
  else
  kr (.bool false) hq1)
theorem ep18a (C : CF) (L : Nat) {β : Type} (x0 : Value) (x1 : Value) (h : H) (K : Ex → T Value → H → Option β) :
    execK Tryd.prog C L 1 27 [4] c18a [4] [] (fs [(0, x0), (1, x1)]) h K =
      p18a C L x0 x1 h (fun x4 h => K .ret (fs [(4, x4)]) h) := by
  kernel_rfl
noncomputable def F18 (C : CF) (L : Nat) (x0 : Value) (x1 : Value) (h : H) : Option (Value × H) :=
  p18a C L x0 x1 h
    (fun x4 h => some (x4, h))
theorem F18eq (O : List FuncId) (hO : O.any (Nat.beq 18) = false) (n : Nat) (x0 : Value) (x1 : Value) (h : H) : callB Tryd.prog 1 O (n + 1) 18 [x0, x1] h = F18 (callB Tryd.prog 1 O n) n x0 x1 h := by
  rw [callB_eq hO (c := c18a) (nt := 27) (RR := [4]) (fr := (fs [(0, x0), (1, x1)])) Tryd.func18 (by kernel_rfl) (by kernel_rfl) (by kernel_rfl) (by kernel_rfl) (by kernel_rfl), ep18a]
  kernel_rfl

/-! F19: (*relayhouse/relayhouseref11.Pool).Free -/
noncomputable def c19a : Code := (Tryd.f19.body).getD .skip
noncomputable def p19a (C : CF) (L : Nat) {β : Type} (x0 : Value) (x1 : Value) (h : H) (kr : Value → H → Option β) : Option β :=
  bnd2 (C 18 [x0, x1] h) fun t9 hq1 =>
  toBK t9 fun b =>
  bnd (A.un Tryd.prog .not (.bool b)) fun t10 =>
  toBK t10 fun bq1 =>
  (bif bq1 then
  kr (.bool false) hq1
  else
  bnd2 (C 25 [x0, x1] hq1) fun t13 hq2 =>
  bnd (A.nilCheck x0) fun t16 =>
  bnd (A.fieldAddr 0 t16) fun t17 =>
  bnd (A.load false 1 t17 hq2) fun t18 =>
  bnd (A.sliceS 1 t18 none (some t13) none hq2) fun t20 =>
  bnd2 (A.append 1 2 (.slice none 0 0) t20 hq2) fun t21 hq3 =>
  bnd (A.nilCheck x0) fun t25 =>
  bnd (A.fieldAddr 0 t25) fun t26 =>
  bnd (A.load false 1 t26 hq3) fun t27 =>
  bnd (A.bin Tryd.prog .add 3 t13 (.int .i64 1)) fun t29 =>
  bnd (A.sliceS 1 t27 (some t29) none none hq3) fun t30 =>
  bnd2 (A.append 1 2 t21 t30 hq3) fun t31 hq4 =>
  bnd (A.nilCheck x0) fun t32 =>
  bnd (A.fieldAddr 0 t32) fun t33 =>
  bnd (A.store 1 t33 t31 hq4) fun hq5 =>
  kr (.bool true) hq5)
theorem ep19a (C : CF) (L : Nat) {β : Type} (x0 : Value) (x1 : Value) (h : H) (K : Ex → T Value → H → Option β) :
    execK Tryd.prog C L 1 34 [4] c19a [4] [] (fs [(0, x0), (1, x1)]) h K =
      p19a C L x0 x1 h (fun x4 h => K .ret (fs [(4, x4)]) h) := by
  kernel_rfl
noncomputable def F19 (C : CF) (L : Nat) (x0 : Value) (x1 : Value) (h : H) : Option (Value × H) :=
  p19a C L x0 x1 h
    (fun x4 h => some (x4, h))
theorem F19eq (O : List FuncId) (hO : O.any (Nat.beq 19) = false) (n : Nat) (x0 : Value) (x1 : Value) (h : H) : callB Tryd.prog 1 O (n + 1) 19 [x0, x1] h = F19 (callB Tryd.prog 1 O n) n x0 x1 h := by
  rw [callB_eq hO (c := c19a) (nt := 34) (RR := [4]) (fr := (fs [(0, x0), (1, x1)])) Tryd.func19 (by kernel_rfl) (by kernel_rfl) (by kernel_rfl) (by kernel_rfl) (by kernel_rfl), ep19a]
  kernel_rfl

/-! F20: relayhouse/relayhouselaw11.same -/
noncomputable def c20a : Code := (Tryd.f20.body).getD .skip
noncomputable def c20al : Code := cL c20a
noncomputable def p20al (C : CF) (L : Nat) {β : Type} (x0 : Value) (x1 : Value) (h : H) (kn : Value → Value → H → Option β) : Option β :=
  kn x1 x0 h
theorem ep20al (C : CF) (L : Nat) {β : Type} (x0 : Value) (x1 : Value) (h : H) (K : Ex → T Value → H → Option β) :
    execK Tryd.prog C L 1 26 [4] c20al [1, 0] [] (fs [(0, x0), (1, x1)]) h K =
      p20al C L x0 x1 h (fun x1 x0 h => K .normal (fs [(1, x1), (0, x0)]) h) := by
  kernel_rfl
noncomputable def c20ar : Code := cR c20a
noncomputable def c20arl : Code := cL c20ar
noncomputable def p20arl (C : CF) (L : Nat) {β : Type} (x1 : Value) (x0 : Value) (h : H) (kr : Value → H → Option β) (kn : Value → Value → H → Option β) : Option β :=
  bnd (A.lenS x0) fun t7 =>
  bnd (A.lenS x1) fun t9 =>
  bnd (A.bin Tryd.prog .neq 3 t7 t9) fun t10 =>
  toBK t10 fun b =>
  (bif b then
  kr (.bool false) h
  else
  kn x1 x0 h)
theorem ep20arl (C : CF) (L : Nat) {β : Type} (x1 : Value) (x0 : Value) (h : H) (K : Ex → T Value → H → Option β) :
    execK Tryd.prog C L 1 26 [4] c20arl [1, 0] [] (fs [(1, x1), (0, x0)]) h K =
      p20arl C L x1 x0 h (fun x4 h => K .ret (fs [(4, x4)]) h) (fun x1 x0 h => K .normal (fs [(1, x1), (0, x0)]) h) := by
  kernel_rfl
noncomputable def c20arr : Code := cR c20ar
noncomputable def c20arrl : Code := cL c20arr
noncomputable def c20arrll : Code := cL c20arrl
noncomputable def p20arrll (C : CF) (L : Nat) {β : Type} (x1 : Value) (x0 : Value) (h : H) (kn : Value → Value → Value → H → Option β) : Option β :=
  kn (.int .i64 0) x1 x0 h
theorem ep20arrll (C : CF) (L : Nat) {β : Type} (x1 : Value) (x0 : Value) (h : H) (K : Ex → T Value → H → Option β) :
    execK Tryd.prog C L 1 26 [4] c20arrll [5, 1, 0] [] (fs [(1, x1), (0, x0)]) h K =
      p20arrll C L x1 x0 h (fun x5 x1 x0 h => K .normal (fs [(5, x5), (1, x1), (0, x0)]) h) := by
  kernel_rfl
noncomputable def c20arrlr : Code := cR c20arrl
noncomputable def c20arrlrb : Code := cL c20arrlr
noncomputable def c20arrlrbo : Code := cL c20arrlrb
noncomputable def p20arrlrbo (C : CF) (L : Nat) {β : Type} (x5 : Value) (x1 : Value) (x0 : Value) (h : H) (kr : Value → H → Option β) (kn : Value → Value → Value → H → Option β) (kx0 : H → Option β) : Option β :=
  bnd (A.lenS x0) fun t13 =>
  bnd (A.bin Tryd.prog .lss 3 x5 t13) fun t14 =>
  toBK t14 fun b =>
  (bif b then
  bnd (A.idxS 1 x0 x5) fun t19 =>
  bnd (A.load false 1 t19 h) fun t20 =>
  bnd (A.idxS 1 x1 x5) fun t23 =>
  bnd (A.load false 1 t23 h) fun t24 =>
  bnd (A.bin Tryd.prog .neq 25 t20 t24) fun t25 =>
  toBK t25 fun bq1 =>
  (bif bq1 then
  kr (.bool false) h
  else
  bnd (A.bin Tryd.prog .add 3 x5 (.int .i64 1)) fun t16 =>
  kn t16 x1 x0 h)
  else
  kx0 h)
theorem ep20arrlrbo (C : CF) (L : Nat) {β : Type} (x5 : Value) (x1 : Value) (x0 : Value) (h : H) (K : Ex → T Value → H → Option β) :
    execK Tryd.prog C L 1 26 [4] c20arrlrbo [5, 1, 0] [(0, [])] (fs [(5, x5), (1, x1), (0, x0)]) h K =
      p20arrlrbo C L x5 x1 x0 h (fun x4 h => K .ret (fs [(4, x4)]) h) (fun x5 x1 x0 h => K .normal (fs [(5, x5), (1, x1), (0, x0)]) h) (fun h => K (.exit 0) (fs []) h) := by
  kernel_rfl
noncomputable def p20arrlrbw (C : CF) (L : Nat) {β : Type} (kr : Value → H → Option β) (kx0 : H → Option β) : Nat → Value → Value → Value → H → Option β
  | 0, _, _, _, _ => none
  | n + 1, x5, x1, x0, h => p20arrlrbo C L x5 x1 x0 h kr (fun x5 x1 x0 h => p20arrlrbw C L kr kx0 n x5 x1 x0 h) kx0
theorem ep20arrlrbw (C : CF) (L : Nat) {β : Type} (K : Ex → T Value → H → Option β) : ∀ (n : Nat) (x5 : Value) (x1 : Value) (x0 : Value) (h : H),
    loopK (fun fr h K => execK Tryd.prog C L 1 26 [4] c20arrlrbo [5, 1, 0] [(0, [])] fr h K) n (fs [(5, x5), (1, x1), (0, x0)]) h K =
      p20arrlrbw C L (fun x4 h => K .ret (fs [(4, x4)]) h) (fun h => K (.exit 0) (fs []) h) n x5 x1 x0 h := by
  intro n
  induction n with
  | zero => intros; rfl
  | succ n ih =>
    intros
    simp only [loopK]
    rw [ep20arrlrbo]
    simp only [seqK_n, seqK_x, seqK_r, ih]
    rfl
noncomputable def p20arrlrb (C : CF) (L : Nat) {β : Type} (x5 : Value) (x1 : Value) (x0 : Value) (h : H) (kr : Value → H → Option β) (kx0 : H → Option β) : Option β :=
  p20arrlrbw C L kr kx0 L x5 x1 x0 h
theorem ep20arrlrb (C : CF) (L : Nat) {β : Type} (x5 : Value) (x1 : Value) (x0 : Value) (h : H) (K : Ex → T Value → H → Option β) :
    execK Tryd.prog C L 1 26 [4] c20arrlrb [] [(0, [])] (fs [(5, x5), (1, x1), (0, x0)]) h K =
      p20arrlrb C L x5 x1 x0 h (fun x4 h => K .ret (fs [(4, x4)]) h) (fun h => K (.exit 0) (fs []) h) := by
  rw [execK_loop (b := c20arrlrbo) (fr1 := (fs [(5, x5), (1, x1), (0, x0)])) (by kernel_rfl) (show live [4] c20arrlrbo [] [(0, [])] = [5, 1, 0] by kernel_rfl) (by kernel_rfl), ep20arrlrbw]
  unfold p20arrlrb
  rfl
noncomputable def p20arrlr (C : CF) (L : Nat) {β : Type} (x5 : Value) (x1 : Value) (x0 : Value) (h : H) (kr : Value → H → Option β) (kn : H → Option β) : Option β :=
  p20arrlrb C L x5 x1 x0 h kr kn
theorem ep20arrlr (C : CF) (L : Nat) {β : Type} (x5 : Value) (x1 : Value) (x0 : Value) (h : H) (K : Ex → T Value → H → Option β) :
    execK Tryd.prog C L 1 26 [4] c20arrlr [] [] (fs [(5, x5), (1, x1), (0, x0)]) h K =
      p20arrlr C L x5 x1 x0 h (fun x4 h => K .ret (fs [(4, x4)]) h) (fun h => K .normal (fs []) h) := by
  rw [execK_block (b := c20arrlrb) (id := 0) (by kernel_rfl), ep20arrlrb]
  unfold p20arrlr
  rfl
noncomputable def p20arrl (C : CF) (L : Nat) {β : Type} (x1 : Value) (x0 : Value) (h : H) (kr : Value → H → Option β) (kn : H → Option β) : Option β :=
  p20arrll C L x1 x0 h (fun x5 x1 x0 h => p20arrlr C L x5 x1 x0 h kr kn)
theorem ep20arrl (C : CF) (L : Nat) {β : Type} (x1 : Value) (x0 : Value) (h : H) (K : Ex → T Value → H → Option β) :
    execK Tryd.prog C L 1 26 [4] c20arrl [] [] (fs [(1, x1), (0, x0)]) h K =
      p20arrl C L x1 x0 h (fun x4 h => K .ret (fs [(4, x4)]) h) (fun h => K .normal (fs []) h) := by
  rw [execK_seq (a := c20arrll) (b := c20arrlr) (by kernel_rfl) (show live [4] c20arrlr [] [] = [5, 1, 0] by kernel_rfl), ep20arrll]
  unfold p20arrl
  exact (congrArg (p20arrll C L x1 x0 h) (funext fun x5 => funext fun x1 => funext fun x0 => funext fun h => (seqK_n _ _ _).trans (ep20arrlr C L x5 x1 x0 h K)))
noncomputable def c20arrr : Code := cR c20arr
noncomputable def p20arrr (C : CF) (L : Nat) {β : Type} (h : H) (kr : Value → H → Option β) : Option β :=
  kr (.bool true) h
theorem ep20arrr (C : CF) (L : Nat) {β : Type} (h : H) (K : Ex → T Value → H → Option β) :
    execK Tryd.prog C L 1 26 [4] c20arrr [4] [] (fs []) h K =
      p20arrr C L h (fun x4 h => K .ret (fs [(4, x4)]) h) := by
  kernel_rfl
noncomputable def p20arr (C : CF) (L : Nat) {β : Type} (x1 : Value) (x0 : Value) (h : H) (kr : Value → H → Option β) : Option β :=
  p20arrl C L x1 x0 h kr (fun h => p20arrr C L h kr)
theorem ep20arr (C : CF) (L : Nat) {β : Type} (x1 : Value) (x0 : Value) (h : H) (K : Ex → T Value → H → Option β) :
    execK Tryd.prog C L 1 26 [4] c20arr [4] [] (fs [(1, x1), (0, x0)]) h K =
      p20arr C L x1 x0 h (fun x4 h => K .ret (fs [(4, x4)]) h) := by
  rw [execK_seq (a := c20arrl) (b := c20arrr) (by kernel_rfl) (show live [4] c20arrr [4] [] = [] by kernel_rfl), ep20arrl]
  unfold p20arr
  exact (congr (congrArg (p20arrl C L x1 x0 h) (funext fun x4 => funext fun h => seqK_r _ _ _)) (funext fun h => (seqK_n _ _ _).trans (ep20arrr C L h K)))
noncomputable def p20ar (C : CF) (L : Nat) {β : Type} (x1 : Value) (x0 : Value) (h : H) (kr : Value → H → Option β) : Option β :=
  p20arl C L x1 x0 h kr (fun x1 x0 h => p20arr C L x1 x0 h kr)
theorem ep20ar (C : CF) (L : Nat) {β : Type} (x1 : Value) (x0 : Value) (h : H) (K : Ex → T Value → H → Option β) :
    execK Tryd.prog C L 1 26 [4] c20ar [4] [] (fs [(1, x1), (0, x0)]) h K =
      p20ar C L x1 x0 h (fun x4 h => K .ret (fs [(4, x4)]) h) := by
  rw [execK_seq (a := c20arl) (b := c20arr) (by kernel_rfl) (show live [4] c20arr [4] [] = [1, 0] by kernel_rfl), ep20arl]
  unfold p20ar
  exact (congr (congrArg (p20arl C L x1 x0 h) (funext fun x4 => funext fun h => seqK_r _ _ _)) (funext fun x1 => funext fun x0 => funext fun h => (seqK_n _ _ _).trans (ep20arr C L x1 x0 h K)))
noncomputable def p20a (C : CF) (L : Nat) {β : Type} (x0 : Value) (x1 : Value) (h : H) (kr : Value → H → Option β) : Option β :=
  p20al C L x0 x1 h (fun x1 x0 h => p20ar C L x1 x0 h kr)
theorem ep20a (C : CF) (L : Nat) {β : Type} (x0 : Value) (x1 : Value) (h : H) (K : Ex → T Value → H → Option β) :
    execK Tryd.prog C L 1 26 [4] c20a [4] [] (fs [(0, x0), (1, x1)]) h K =
      p20a C L x0 x1 h (fun x4 h => K .ret (fs [(4, x4)]) h) := by
  rw [execK_seq (a := c20al) (b := c20ar) (by kernel_rfl) (show live [4] c20ar [4] [] = [1, 0] by kernel_rfl), ep20al]
  unfold p20a
  exact (congrArg (p20al C L x0 x1 h) (funext fun x1 => funext fun x0 => funext fun h => (seqK_n _ _ _).trans (ep20ar C L x1 x0 h K)))
noncomputable def F20 (C : CF) (L : Nat) (x0 : Value) (x1 : Value) (h : H) : Option (Value × H) :=
  p20a C L x0 x1 h
    (fun x4 h => some (x4, h))
theorem F20eq (O : List FuncId) (hO : O.any (Nat.beq 20) = false) (n : Nat) (x0 : Value) (x1 : Value) (h : H) : callB Tryd.prog 1 O (n + 1) 20 [x0, x1] h = F20 (callB Tryd.prog 1 O n) n x0 x1 h := by
  rw [callB_eq hO (c := c20a) (nt := 26) (RR := [4]) (fr := (fs [(0, x0), (1, x1)])) Tryd.func20 (by kernel_rfl) (by kernel_rfl) (by kernel_rfl) (by kernel_rfl) (by kernel_rfl), ep20a]
  kernel_rfl

/-! F21: (*relayhouse/ids.Pool).All -/
noncomputable def c21a : Code := (Tryd.f21.body).getD .skip
noncomputable def p21a (C : CF) (L : Nat) {β : Type} (x0 : Value) (h : H) (kr : Value → H → Option β) : Option β :=
  bnd2 (A.box 1 Z32 h) fun t3 hq1 =>
  bnd2 (C 23 [x0] hq1) fun t5 hq2 =>
  toBK t5 fun b =>
  bnd (A.un Tryd.prog .not (.bool b)) fun t6 =>
  toBK t6 fun bq1 =>
  (bif bq1 then
  bnd (A.load false 1 t3 hq2) fun t7 =>
  bnd (A.nilCheck x0) fun t9 =>
  bnd (A.fieldAddr 0 t9) fun t10 =>
  bnd (A.load false 1 t10 hq2) fun t11 =>
  bnd2 (A.append 1 8 t7 t11 hq2) fun t12 hq3 =>
  bnd (A.store 1 t3 t12 hq3) fun hq4 =>
  kr (.func (.func 26) ⟨[]⟩ ⟨[t3]⟩) hq4
  else
  kr (.func (.func 26) ⟨[]⟩ ⟨[t3]⟩) hq2)
theorem ep21a (C : CF) (L : Nat) {β : Type} (x0 : Value) (h : H) (K : Ex → T Value → H → Option β) :
    execK Tryd.prog C L 1 14 [2] c21a [2] [] (fs [(0, x0)]) h K =
      p21a C L x0 h (fun x2 h => K .ret (fs [(2, x2)]) h) := by
  kernel_rfl
noncomputable def F21 (C : CF) (L : Nat) (x0 : Value) (h : H) : Option (Value × H) :=
  p21a C L x0 h
    (fun x2 h => some (x2, h))
theorem F21eq (O : List FuncId) (hO : O.any (Nat.beq 21) = false) (n : Nat) (x0 : Value) (h : H) : callB Tryd.prog 1 O (n + 1) 21 [x0] h = F21 (callB Tryd.prog 1 O n) n x0 h := by
  rw [callB_eq hO (c := c21a) (nt := 14) (RR := [2]) (fr := (fs [(0, x0)])) Tryd.func21 (by kernel_rfl) (by kernel_rfl) (by kernel_rfl) (by kernel_rfl) (by kernel_rfl), ep21a]
  kernel_rfl

/-! F22: relayhouse/relayhouselaw11.again -/
noncomputable def c22a : Code := (Tryd.f22.body).getD .skip
noncomputable def c22al : Code := cL c22a
noncomputable def p22al (C : CF) (L : Nat) {β : Type} (x0 : Value) (x1 : Value) (h : H) (kn : Value → Value → H → Option β) : Option β :=
  kn x1 x0 h
theorem ep22al (C : CF) (L : Nat) {β : Type} (x0 : Value) (x1 : Value) (h : H) (K : Ex → T Value → H → Option β) :
    execK Tryd.prog C L 1 18 [4] c22al [1, 0] [] (fs [(0, x0), (1, x1)]) h K =
      p22al C L x0 x1 h (fun x1 x0 h => K .normal (fs [(1, x1), (0, x0)]) h) := by
  kernel_rfl
noncomputable def c22ar : Code := cR c22a
noncomputable def c22arl : Code := cL c22ar
noncomputable def c22arll : Code := cL c22arl
noncomputable def p22arll (C : CF) (L : Nat) {β : Type} (x1 : Value) (x0 : Value) (h : H) (kn : Value → Value → Value → H → Option β) : Option β :=
  kn (.int .i64 0) x1 x0 h
theorem ep22arll (C : CF) (L : Nat) {β : Type} (x1 : Value) (x0 : Value) (h : H) (K : Ex → T Value → H → Option β) :
    execK Tryd.prog C L 1 18 [4] c22arll [5, 1, 0] [] (fs [(1, x1), (0, x0)]) h K =
      p22arll C L x1 x0 h (fun x5 x1 x0 h => K .normal (fs [(5, x5), (1, x1), (0, x0)]) h) := by
  kernel_rfl
noncomputable def c22arlr : Code := cR c22arl
noncomputable def c22arlrb : Code := cL c22arlr
noncomputable def c22arlrbo : Code := cL c22arlrb
noncomputable def p22arlrbo (C : CF) (L : Nat) {β : Type} (x5 : Value) (x1 : Value) (x0 : Value) (h : H) (kr : Value → H → Option β) (kn : Value → Value → Value → H → Option β) (kx0 : H → Option β) : Option β :=
  bnd (A.lenS x0) fun t8 =>
  bnd (A.bin Tryd.prog .lss 3 x5 t8) fun t9 =>
  toBK t9 fun b =>
  (bif b then
  bnd (A.idxS 1 x0 x5) fun t14 =>
  bnd (A.load false 1 t14 h) fun t15 =>
  bnd (A.bin Tryd.prog .eql 25 t15 x1) fun t17 =>
  toBK t17 fun bq1 =>
  (bif bq1 then
  kr (.bool true) h
  else
  bnd (A.bin Tryd.prog .add 3 x5 (.int .i64 1)) fun t11 =>
  kn t11 x1 x0 h)
  else
  kx0 h)
theorem ep22arlrbo (C : CF) (L : Nat) {β : Type} (x5 : Value) (x1 : Value) (x0 : Value) (h : H) (K : Ex → T Value → H → Option β) :
    execK Tryd.prog C L 1 18 [4] c22arlrbo [5, 1, 0] [(0, [])] (fs [(5, x5), (1, x1), (0, x0)]) h K =
      p22arlrbo C L x5 x1 x0 h (fun x4 h => K .ret (fs [(4, x4)]) h) (fun x5 x1 x0 h => K .normal (fs [(5, x5), (1, x1), (0, x0)]) h) (fun h => K (.exit 0) (fs []) h) := by
  kernel_rfl
noncomputable def p22arlrbw (C : CF) (L : Nat) {β : Type} (kr : Value → H → Option β) (kx0 : H → Option β) : Nat → Value → Value → Value → H → Option β
  | 0, _, _, _, _ => none
  | n + 1, x5, x1, x0, h => p22arlrbo C L x5 x1 x0 h kr (fun x5 x1 x0 h => p22arlrbw C L kr kx0 n x5 x1 x0 h) kx0
theorem ep22arlrbw (C : CF) (L : Nat) {β : Type} (K : Ex → T Value → H → Option β) : ∀ (n : Nat) (x5 : Value) (x1 : Value) (x0 : Value) (h : H),
    loopK (fun fr h K => execK Tryd.prog C L 1 18 [4] c22arlrbo [5, 1, 0] [(0, [])] fr h K) n (fs [(5, x5), (1, x1), (0, x0)]) h K =
      p22arlrbw C L (fun x4 h => K .ret (fs [(4, x4)]) h) (fun h => K (.exit 0) (fs []) h) n x5 x1 x0 h := by
  intro n
  induction n with
  | zero => intros; rfl
  | succ n ih =>
    intros
    simp only [loopK]
    rw [ep22arlrbo]
    simp only [seqK_n, seqK_x, seqK_r, ih]
    rfl
noncomputable def p22arlrb (C : CF) (L : Nat) {β : Type} (x5 : Value) (x1 : Value) (x0 : Value) (h : H) (kr : Value → H → Option β) (kx0 : H → Option β) : Option β :=
  p22arlrbw C L kr kx0 L x5 x1 x0 h
theorem ep22arlrb (C : CF) (L : Nat) {β : Type} (x5 : Value) (x1 : Value) (x0 : Value) (h : H) (K : Ex → T Value → H → Option β) :
    execK Tryd.prog C L 1 18 [4] c22arlrb [] [(0, [])] (fs [(5, x5), (1, x1), (0, x0)]) h K =
      p22arlrb C L x5 x1 x0 h (fun x4 h => K .ret (fs [(4, x4)]) h) (fun h => K (.exit 0) (fs []) h) := by
  rw [execK_loop (b := c22arlrbo) (fr1 := (fs [(5, x5), (1, x1), (0, x0)])) (by kernel_rfl) (show live [4] c22arlrbo [] [(0, [])] = [5, 1, 0] by kernel_rfl) (by kernel_rfl), ep22arlrbw]
  unfold p22arlrb
  rfl
noncomputable def p22arlr (C : CF) (L : Nat) {β : Type} (x5 : Value) (x1 : Value) (x0 : Value) (h : H) (kr : Value → H → Option β) (kn : H → Option β) : Option β :=
  p22arlrb C L x5 x1 x0 h kr kn
theorem ep22arlr (C : CF) (L : Nat) {β : Type} (x5 : Value) (x1 : Value) (x0 : Value) (h : H) (K : Ex → T Value → H → Option β) :
    execK Tryd.prog C L 1 18 [4] c22arlr [] [] (fs [(5, x5), (1, x1), (0, x0)]) h K =
      p22arlr C L x5 x1 x0 h (fun x4 h => K .ret (fs [(4, x4)]) h) (fun h => K .normal (fs []) h) := by
  rw [execK_block (b := c22arlrb) (id := 0) (by kernel_rfl), ep22arlrb]
  unfold p22arlr
  rfl
noncomputable def p22arl (C : CF) (L : Nat) {β : Type} (x1 : Value) (x0 : Value) (h : H) (kr : Value → H → Option β) (kn : H → Option β) : Option β :=
  p22arll C L x1 x0 h (fun x5 x1 x0 h => p22arlr C L x5 x1 x0 h kr kn)
theorem ep22arl (C : CF) (L : Nat) {β : Type} (x1 : Value) (x0 : Value) (h : H) (K : Ex → T Value → H → Option β) :
    execK Tryd.prog C L 1 18 [4] c22arl [] [] (fs [(1, x1), (0, x0)]) h K =
      p22arl C L x1 x0 h (fun x4 h => K .ret (fs [(4, x4)]) h) (fun h => K .normal (fs []) h) := by
  rw [execK_seq (a := c22arll) (b := c22arlr) (by kernel_rfl) (show live [4] c22arlr [] [] = [5, 1, 0] by kernel_rfl), ep22arll]
  unfold p22arl
  exact (congrArg (p22arll C L x1 x0 h) (funext fun x5 => funext fun x1 => funext fun x0 => funext fun h => (seqK_n _ _ _).trans (ep22arlr C L x5 x1 x0 h K)))
noncomputable def c22arr : Code := cR c22ar
noncomputable def p22arr (C : CF) (L : Nat) {β : Type} (h : H) (kr : Value → H → Option β) : Option β :=
  kr (.bool false) h
theorem ep22arr (C : CF) (L : Nat) {β : Type} (h : H) (K : Ex → T Value → H → Option β) :
    execK Tryd.prog C L 1 18 [4] c22arr [4] [] (fs []) h K =
      p22arr C L h (fun x4 h => K .ret (fs [(4, x4)]) h) := by
  kernel_rfl
noncomputable def p22ar (C : CF) (L : Nat) {β : Type} (x1 : Value) (x0 : Value) (h : H) (kr : Value → H → Option β) : Option β :=
  p22arl C L x1 x0 h kr (fun h => p22arr C L h kr)
theorem ep22ar (C : CF) (L : Nat) {β : Type} (x1 : Value) (x0 : Value) (h : H) (K : Ex → T Value → H → Option β) :
    execK Tryd.prog C L 1 18 [4] c22ar [4] [] (fs [(1, x1), (0, x0)]) h K =
      p22ar C L x1 x0 h (fun x4 h => K .ret (fs [(4, x4)]) h) := by
  rw [execK_seq (a := c22arl) (b := c22arr) (by kernel_rfl) (show live [4] c22arr [4] [] = [] by kernel_rfl), ep22arl]
  unfold p22ar
  exact (congr (congrArg (p22arl C L x1 x0 h) (funext fun x4 => funext fun h => seqK_r _ _ _)) (funext fun h => (seqK_n _ _ _).trans (ep22arr C L h K)))
noncomputable def p22a (C : CF) (L : Nat) {β : Type} (x0 : Value) (x1 : Value) (h : H) (kr : Value → H → Option β) : Option β :=
  p22al C L x0 x1 h (fun x1 x0 h => p22ar C L x1 x0 h kr)
theorem ep22a (C : CF) (L : Nat) {β : Type} (x0 : Value) (x1 : Value) (h : H) (K : Ex → T Value → H → Option β) :
    execK Tryd.prog C L 1 18 [4] c22a [4] [] (fs [(0, x0), (1, x1)]) h K =
      p22a C L x0 x1 h (fun x4 h => K .ret (fs [(4, x4)]) h) := by
  rw [execK_seq (a := c22al) (b := c22ar) (by kernel_rfl) (show live [4] c22ar [4] [] = [1, 0] by kernel_rfl), ep22al]
  unfold p22a
  exact (congrArg (p22al C L x0 x1 h) (funext fun x1 => funext fun x0 => funext fun h => (seqK_n _ _ _).trans (ep22ar C L x1 x0 h K)))
noncomputable def F22 (C : CF) (L : Nat) (x0 : Value) (x1 : Value) (h : H) : Option (Value × H) :=
  p22a C L x0 x1 h
    (fun x4 h => some (x4, h))
theorem F22eq (O : List FuncId) (hO : O.any (Nat.beq 22) = false) (n : Nat) (x0 : Value) (x1 : Value) (h : H) : callB Tryd.prog 1 O (n + 1) 22 [x0, x1] h = F22 (callB Tryd.prog 1 O n) n x0 x1 h := by
  rw [callB_eq hO (c := c22a) (nt := 18) (RR := [4]) (fr := (fs [(0, x0), (1, x1)])) Tryd.func22 (by kernel_rfl) (by kernel_rfl) (by kernel_rfl) (by kernel_rfl) (by kernel_rfl), ep22a]
  kernel_rfl

/-! F23: (*relayhouse/ids.Pool).none -/
noncomputable def c23a : Code := (Tryd.f23.body).getD .skip
noncomputable def p23a (C : CF) (L : Nat) {β : Type} (x0 : Value) (h : H) (kr : Value → H → Option β) : Option β :=
  bnd (A.bin Tryd.prog .eql 22 x0 (.pointer none)) fun t4 =>
  toBK t4 fun b =>
  (bif b then
  kr (.bool true) h
  else
  bnd (A.nilCheck x0) fun t7 =>
  bnd (A.fieldAddr 0 t7) fun t8 =>
  bnd (A.load false 1 t8 h) fun t9 =>
  bnd (A.bin Tryd.prog .eql 32 t9 (.slice none 0 0)) fun t10 =>
  toBK t10 fun bq1 =>
  kr (.bool bq1) h)
theorem ep23a (C : CF) (L : Nat) {β : Type} (x0 : Value) (h : H) (K : Ex → T Value → H → Option β) :
    execK Tryd.prog C L 1 12 [2] c23a [2] [] (fs [(0, x0)]) h K =
      p23a C L x0 h (fun x2 h => K .ret (fs [(2, x2)]) h) := by
  kernel_rfl
noncomputable def F23 (C : CF) (L : Nat) (x0 : Value) (h : H) : Option (Value × H) :=
  p23a C L x0 h
    (fun x2 h => some (x2, h))
theorem F23eq (O : List FuncId) (hO : O.any (Nat.beq 23) = false) (n : Nat) (x0 : Value) (h : H) : callB Tryd.prog 1 O (n + 1) 23 [x0] h = F23 (callB Tryd.prog 1 O n) n x0 h := by
  rw [callB_eq hO (c := c23a) (nt := 12) (RR := [2]) (fr := (fs [(0, x0)])) Tryd.func23 (by kernel_rfl) (by kernel_rfl) (by kernel_rfl) (by kernel_rfl) (by kernel_rfl), ep23a]
  kernel_rfl

/-! F24: math/bits.TrailingZeros64 -/
noncomputable def c24a : Code := (Tryd.f24.body).getD .skip
noncomputable def p24a (C : CF) (L : Nat) {β : Type} (x0 : Value) (h : H) (kr : Value → H → Option β) : Option β :=
  bnd (A.bin Tryd.prog .eql 52 x0 (.int .u64 0)) fun t4 =>
  toBK t4 fun b =>
  (bif b then
  kr (.int .i64 64) h
  else
  bnd (A.un Tryd.prog .neg x0) fun t7 =>
  bnd (A.bin Tryd.prog .and 52 x0 t7) fun t8 =>
  bnd (A.bin Tryd.prog .mul 52 t8 (.int .u64 285870213051353865)) fun t9 =>
  bnd (A.bin Tryd.prog .shr 52 t9 (.int .u64 58)) fun t10 =>
  bnd (A.idxA 64 1 (.pointer (some ⟨0, 0, none⟩)) t10) fun t11 =>
  bnd (A.load false 1 t11 h) fun t12 =>
  bnd (A.conv Tryd.prog 5 3 t12) fun t13 =>
  kr t13 h)
theorem ep24a (C : CF) (L : Nat) {β : Type} (x0 : Value) (h : H) (K : Ex → T Value → H → Option β) :
    execK Tryd.prog C L 1 14 [2] c24a [2] [] (fs [(0, x0)]) h K =
      p24a C L x0 h (fun x2 h => K .ret (fs [(2, x2)]) h) := by
  kernel_rfl
noncomputable def F24 (C : CF) (L : Nat) (x0 : Value) (h : H) : Option (Value × H) :=
  p24a C L x0 h
    (fun x2 h => some (x2, h))
theorem F24eq (O : List FuncId) (hO : O.any (Nat.beq 24) = false) (n : Nat) (x0 : Value) (h : H) : callB Tryd.prog 1 O (n + 1) 24 [x0] h = F24 (callB Tryd.prog 1 O n) n x0 h := by
  rw [callB_eq hO (c := c24a) (nt := 14) (RR := [2]) (fr := (fs [(0, x0)])) Tryd.func24 (by kernel_rfl) (by kernel_rfl) (by kernel_rfl) (by kernel_rfl) (by kernel_rfl), ep24a]
  kernel_rfl

/-! F25: (*relayhouse/relayhouseref11.Pool).place -/
noncomputable def c25a : Code := (Tryd.f25.body).getD .skip
noncomputable def c25al : Code := cL c25a
noncomputable def p25al (C : CF) (L : Nat) {β : Type} (x0 : Value) (x1 : Value) (h : H) (kn : Value → Value → H → Option β) : Option β :=
  kn x0 x1 h
theorem ep25al (C : CF) (L : Nat) {β : Type} (x0 : Value) (x1 : Value) (h : H) (K : Ex → T Value → H → Option β) :
    execK Tryd.prog C L 1 27 [4] c25al [0, 1] [] (fs [(0, x0), (1, x1)]) h K =
      p25al C L x0 x1 h (fun x0 x1 h => K .normal (fs [(0, x0), (1, x1)]) h) := by
  kernel_rfl
noncomputable def c25ar : Code := cR c25a
noncomputable def c25arl : Code := cL c25ar
noncomputable def p25arl (C : CF) (L : Nat) {β : Type} (x0 : Value) (x1 : Value) (h : H) (kn : Value → Value → Value → H → Option β) : Option β :=
  kn x0 x1 (.int .i64 0) h
theorem ep25arl (C : CF) (L : Nat) {β : Type} (x0 : Value) (x1 : Value) (h : H) (K : Ex → T Value → H → Option β) :
    execK Tryd.prog C L 1 27 [4] c25arl [0, 1, 5] [] (fs [(0, x0), (1, x1)]) h K =
      p25arl C L x0 x1 h (fun x0 x1 x5 h => K .normal (fs [(0, x0), (1, x1), (5, x5)]) h) := by
  kernel_rfl
noncomputable def c25arr : Code := cR c25ar
noncomputable def c25arrl : Code := cL c25arr
noncomputable def c25arrlb : Code := cL c25arrl
noncomputable def c25arrlbo : Code := cL c25arrlb
noncomputable def p25arrlbo (C : CF) (L : Nat) {β : Type} (x0 : Value) (x1 : Value) (x5 : Value) (h : H) (kn : Value → Value → Value → H → Option β) (kx0 : Value → H → Option β) : Option β :=
  bnd (A.nilCheck x0) fun t8 =>
  bnd (A.fieldAddr 0 t8) fun t9 =>
  bnd (A.load false 1 t9 h) fun t10 =>
  bnd (A.lenS t10) fun t11 =>
  bnd (A.bin Tryd.prog .lss 3 x5 t11) fun t12 =>
  toBK t12 fun b =>
  (bif b then
  bnd (A.nilCheck x0) fun t15 =>
  bnd (A.fieldAddr 0 t15) fun t16 =>
  bnd (A.load false 1 t16 h) fun t17 =>
  bnd (A.idxS 1 t17 x5) fun t19 =>
  bnd (A.load false 1 t19 h) fun t20 =>
  bnd (A.bin Tryd.prog .lss 25 t20 x1) fun t22 =>
  toBK t22 fun bq1 =>
  (bif bq1 then
  bnd (A.bin Tryd.prog .add 3 x5 (.int .i64 1)) fun t25 =>
  kn x0 x1 t25 h
  else
  kx0 x5 h)
  else
  kx0 x5 h)
theorem ep25arrlbo (C : CF) (L : Nat) {β : Type} (x0 : Value) (x1 : Value) (x5 : Value) (h : H) (K : Ex → T Value → H → Option β) :
    execK Tryd.prog C L 1 27 [4] c25arrlbo [0, 1, 5] [(0, [5])] (fs [(0, x0), (1, x1), (5, x5)]) h K =
      p25arrlbo C L x0 x1 x5 h (fun x0 x1 x5 h => K .normal (fs [(0, x0), (1, x1), (5, x5)]) h) (fun x5 h => K (.exit 0) (fs [(5, x5)]) h) := by
  kernel_rfl
noncomputable def p25arrlbw (C : CF) (L : Nat) {β : Type} (kx0 : Value → H → Option β) : Nat → Value → Value → Value → H → Option β
  | 0, _, _, _, _ => none
  | n + 1, x0, x1, x5, h => p25arrlbo C L x0 x1 x5 h (fun x0 x1 x5 h => p25arrlbw C L kx0 n x0 x1 x5 h) kx0
theorem ep25arrlbw (C : CF) (L : Nat) {β : Type} (K : Ex → T Value → H → Option β) : ∀ (n : Nat) (x0 : Value) (x1 : Value) (x5 : Value) (h : H),
    loopK (fun fr h K => execK Tryd.prog C L 1 27 [4] c25arrlbo [0, 1, 5] [(0, [5])] fr h K) n (fs [(0, x0), (1, x1), (5, x5)]) h K =
      p25arrlbw C L (fun x5 h => K (.exit 0) (fs [(5, x5)]) h) n x0 x1 x5 h := by
  intro n
  induction n with
  | zero => intros; rfl
  | succ n ih =>
    intros
    simp only [loopK]
    rw [ep25arrlbo]
    simp only [seqK_n, seqK_x, seqK_r, ih]
    rfl
noncomputable def p25arrlb (C : CF) (L : Nat) {β : Type} (x0 : Value) (x1 : Value) (x5 : Value) (h : H) (kx0 : Value → H → Option β) : Option β :=
  p25arrlbw C L kx0 L x0 x1 x5 h
theorem ep25arrlb (C : CF) (L : Nat) {β : Type} (x0 : Value) (x1 : Value) (x5 : Value) (h : H) (K : Ex → T Value → H → Option β) :
    execK Tryd.prog C L 1 27 [4] c25arrlb [5] [(0, [5])] (fs [(0, x0), (1, x1), (5, x5)]) h K =
      p25arrlb C L x0 x1 x5 h (fun x5 h => K (.exit 0) (fs [(5, x5)]) h) := by
  rw [execK_loop (b := c25arrlbo) (fr1 := (fs [(0, x0), (1, x1), (5, x5)])) (by kernel_rfl) (show live [4] c25arrlbo [] [(0, [5])] = [0, 1, 5] by kernel_rfl) (by kernel_rfl), ep25arrlbw]
  unfold p25arrlb
  rfl
noncomputable def p25arrl (C : CF) (L : Nat) {β : Type} (x0 : Value) (x1 : Value) (x5 : Value) (h : H) (kn : Value → H → Option β) : Option β :=
  p25arrlb C L x0 x1 x5 h kn
theorem ep25arrl (C : CF) (L : Nat) {β : Type} (x0 : Value) (x1 : Value) (x5 : Value) (h : H) (K : Ex → T Value → H → Option β) :
    execK Tryd.prog C L 1 27 [4] c25arrl [5] [] (fs [(0, x0), (1, x1), (5, x5)]) h K =
      p25arrl C L x0 x1 x5 h (fun x5 h => K .normal (fs [(5, x5)]) h) := by
  rw [execK_block (b := c25arrlb) (id := 0) (by kernel_rfl), ep25arrlb]
  unfold p25arrl
  rfl
noncomputable def c25arrr : Code := cR c25arr
noncomputable def p25arrr (C : CF) (L : Nat) {β : Type} (x5 : Value) (h : H) (kr : Value → H → Option β) : Option β :=
  kr x5 h
theorem ep25arrr (C : CF) (L : Nat) {β : Type} (x5 : Value) (h : H) (K : Ex → T Value → H → Option β) :
    execK Tryd.prog C L 1 27 [4] c25arrr [4] [] (fs [(5, x5)]) h K =
      p25arrr C L x5 h (fun x4 h => K .ret (fs [(4, x4)]) h) := by
  kernel_rfl
noncomputable def p25arr (C : CF) (L : Nat) {β : Type} (x0 : Value) (x1 : Value) (x5 : Value) (h : H) (kr : Value → H → Option β) : Option β :=
  p25arrl C L x0 x1 x5 h (fun x5 h => p25arrr C L x5 h kr)
theorem ep25arr (C : CF) (L : Nat) {β : Type} (x0 : Value) (x1 : Value) (x5 : Value) (h : H) (K : Ex → T Value → H → Option β) :
    execK Tryd.prog C L 1 27 [4] c25arr [4] [] (fs [(0, x0), (1, x1), (5, x5)]) h K =
      p25arr C L x0 x1 x5 h (fun x4 h => K .ret (fs [(4, x4)]) h) := by
  rw [execK_seq (a := c25arrl) (b := c25arrr) (by kernel_rfl) (show live [4] c25arrr [4] [] = [5] by kernel_rfl), ep25arrl]
  unfold p25arr
  exact (congrArg (p25arrl C L x0 x1 x5 h) (funext fun x5 => funext fun h => (seqK_n _ _ _).trans (ep25arrr C L x5 h K)))
noncomputable def p25ar (C : CF) (L : Nat) {β : Type} (x0 : Value) (x1 : Value) (h : H) (kr : Value → H → Option β) : Option β :=
  p25arl C L x0 x1 h (fun x0 x1 x5 h => p25arr C L x0 x1 x5 h kr)
theorem ep25ar (C : CF) (L : Nat) {β : Type} (x0 : Value) (x1 : Value) (h : H) (K : Ex → T Value → H → Option β) :
    execK Tryd.prog C L 1 27 [4] c25ar [4] [] (fs [(0, x0), (1, x1)]) h K =
      p25ar C L x0 x1 h (fun x4 h => K .ret (fs [(4, x4)]) h) := by
  rw [execK_seq (a := c25arl) (b := c25arr) (by kernel_rfl) (show live [4] c25arr [4] [] = [0, 1, 5] by kernel_rfl), ep25arl]
  unfold p25ar
  exact (congrArg (p25arl C L x0 x1 h) (funext fun x0 => funext fun x1 => funext fun x5 => funext fun h => (seqK_n _ _ _).trans (ep25arr C L x0 x1 x5 h K)))
noncomputable def p25a (C : CF) (L : Nat) {β : Type} (x0 : Value) (x1 : Value) (h : H) (kr : Value → H → Option β) : Option β :=
  p25al C L x0 x1 h (fun x0 x1 h => p25ar C L x0 x1 h kr)
theorem ep25a (C : CF) (L : Nat) {β : Type} (x0 : Value) (x1 : Value) (h : H) (K : Ex → T Value → H → Option β) :
    execK Tryd.prog C L 1 27 [4] c25a [4] [] (fs [(0, x0), (1, x1)]) h K =
      p25a C L x0 x1 h (fun x4 h => K .ret (fs [(4, x4)]) h) := by
  rw [execK_seq (a := c25al) (b := c25ar) (by kernel_rfl) (show live [4] c25ar [4] [] = [0, 1] by kernel_rfl), ep25al]
  unfold p25a
  exact (congrArg (p25al C L x0 x1 h) (funext fun x0 => funext fun x1 => funext fun h => (seqK_n _ _ _).trans (ep25ar C L x0 x1 h K)))
noncomputable def F25 (C : CF) (L : Nat) (x0 : Value) (x1 : Value) (h : H) : Option (Value × H) :=
  p25a C L x0 x1 h
    (fun x4 h => some (x4, h))
theorem F25eq (O : List FuncId) (hO : O.any (Nat.beq 25) = false) (n : Nat) (x0 : Value) (x1 : Value) (h : H) : callB Tryd.prog 1 O (n + 1) 25 [x0, x1] h = F25 (callB Tryd.prog 1 O n) n x0 x1 h := by
  rw [callB_eq hO (c := c25a) (nt := 27) (RR := [4]) (fr := (fs [(0, x0), (1, x1)])) Tryd.func25 (by kernel_rfl) (by kernel_rfl) (by kernel_rfl) (by kernel_rfl) (by kernel_rfl), ep25a]
  kernel_rfl

/-! F26: (*relayhouse/ids.Pool).All$1 -/
noncomputable def c26a : Code := (Tryd.f26.body).getD .skip
noncomputable def c26al : Code := cL c26a
noncomputable def p26al (C : CF) (L : Nat) {β : Type} (x0 : Value) (x1 : Value) (h : H) (kn : Value → Value → Value → Value → H → Option β) : Option β :=
  bnd (A.load false 1 x1 h) fun t5 =>
  bnd (A.lenS t5) fun t6 =>
  kn t6 (.int .i64 0) x0 t5 h
theorem ep26al (C : CF) (L : Nat) {β : Type} (x0 : Value) (x1 : Value) (h : H) (K : Ex → T Value → H → Option β) :
    execK Tryd.prog C L 1 32 [] c26al [6, 7, 0, 5] [] (fs [(0, x0), (1, x1)]) h K =
      p26al C L x0 x1 h (fun x6 x7 x0 x5 h => K .normal (fs [(6, x6), (7, x7), (0, x0), (5, x5)]) h) := by
  kernel_rfl
noncomputable def c26ar : Code := cR c26a
noncomputable def c26arb : Code := cL c26ar
noncomputable def c26arbo : Code := cL c26arb
noncomputable def c26arbol : Code := cL c26arbo
noncomputable def p26arbol (C : CF) (L : Nat) {β : Type} (x6 : Value) (x7 : Value) (x0 : Value) (x5 : Value) (h : H) (kn : Value → Value → Value → Value → Value → H → Option β) : Option β :=
  bnd (A.bin Tryd.prog .lss 3 x7 x6) fun t8 =>
  kn t8 x5 x0 x6 x7 h
theorem ep26arbol (C : CF) (L : Nat) {β : Type} (x6 : Value) (x7 : Value) (x0 : Value) (x5 : Value) (h : H) (K : Ex → T Value → H → Option β) :
    execK Tryd.prog C L 1 32 [] c26arbol [8, 5, 0, 6, 7] [(0, [])] (fs [(6, x6), (7, x7), (0, x0), (5, x5)]) h K =
      p26arbol C L x6 x7 x0 x5 h (fun x8 x5 x0 x6 x7 h => K .normal (fs [(8, x8), (5, x5), (0, x0), (6, x6), (7, x7)]) h) := by
  kernel_rfl
noncomputable def c26arbor : Code := cR c26arbo
noncomputable def c26arborl : Code := cL c26arbor
noncomputable def p26arborl (C : CF) (L : Nat) {β : Type} (x8 : Value) (x5 : Value) (x0 : Value) (x6 : Value) (x7 : Value) (h : H) (kn : Value → Value → Value → Value → H → Option β) (kx0 : H → Option β) : Option β :=
  condV x8 (
  kn x7 x6 x0 x5 h) (
  kx0 h)
theorem ep26arborl (C : CF) (L : Nat) {β : Type} (x8 : Value) (x5 : Value) (x0 : Value) (x6 : Value) (x7 : Value) (h : H) (K : Ex → T Value → H → Option β) :
    execK Tryd.prog C L 1 32 [] c26arborl [7, 6, 0, 5] [(0, [])] (fs [(8, x8), (5, x5), (0, x0), (6, x6), (7, x7)]) h K =
      p26arborl C L x8 x5 x0 x6 x7 h (fun x7 x6 x0 x5 h => K .normal (fs [(7, x7), (6, x6), (0, x0), (5, x5)]) h) (fun h => K (.exit 0) (fs []) h) := by
  kernel_rfl
noncomputable def c26arborr : Code := cR c26arbor
noncomputable def c26arborrl : Code := cL c26arborr
noncomputable def c26arborrlb : Code := cL c26arborrl
noncomputable def c26arborrlbl : Code := cL c26arborrlb
noncomputable def p26arborrlbl (C : CF) (L : Nat) {β : Type} (x7 : Value) (x6 : Value) (x0 : Value) (x5 : Value) (h : H) (kn : Value → Value → Value → Value → Value → Value → H → Option β) : Option β :=
  bnd (A.idxS 1 x5 x7) fun t10 =>
  bnd (A.load false 1 t10 h) fun t11 =>
  kn t11 x7 x7 x6 x0 x5 h
theorem ep26arborrlbl (C : CF) (L : Nat) {β : Type} (x7 : Value) (x6 : Value) (x0 : Value) (x5 : Value) (h : H) (K : Ex → T Value → H → Option β) :
    execK Tryd.prog C L 1 32 [] c26arborrlbl [4, 3, 7, 6, 0, 5] [(1, [7, 6, 0, 5]), (0, [])] (fs [(7, x7), (6, x6), (0, x0), (5, x5)]) h K =
      p26arborrlbl C L x7 x6 x0 x5 h (fun x4 x3 x7 x6 x0 x5 h => K .normal (fs [(4, x4), (3, x3), (7, x7), (6, x6), (0, x0), (5, x5)]) h) := by
  kernel_rfl
noncomputable def c26arborrlbr : Code := cR c26arborrlb
noncomputable def c26arborrlbrl : Code := cL c26arborrlbr
noncomputable def p26arborrlbrl (C : CF) (L : Nat) {β : Type} (x4 : Value) (x3 : Value) (x7 : Value) (x6 : Value) (x0 : Value) (x5 : Value) (h : H) (kn : Value → Value → Value → Value → Value → Value → H → Option β) : Option β :=
  bnd (A.bin Tryd.prog .eql 3 x3 (.int .i64 0)) fun t13 =>
  toBK t13 fun b =>
  (bif b then
  bnd (A.bin Tryd.prog .andNot 52 x4 (.int .u64 1)) fun t15 =>
  kn t15 x3 x7 x6 x0 x5 h
  else
  kn x4 x3 x7 x6 x0 x5 h)
theorem ep26arborrlbrl (C : CF) (L : Nat) {β : Type} (x4 : Value) (x3 : Value) (x7 : Value) (x6 : Value) (x0 : Value) (x5 : Value) (h : H) (K : Ex → T Value → H → Option β) :
    execK Tryd.prog C L 1 32 [] c26arborrlbrl [4, 3, 7, 6, 0, 5] [(1, [7, 6, 0, 5]), (0, [])] (fs [(4, x4), (3, x3), (7, x7), (6, x6), (0, x0), (5, x5)]) h K =
      p26arborrlbrl C L x4 x3 x7 x6 x0 x5 h (fun x4 x3 x7 x6 x0 x5 h => K .normal (fs [(4, x4), (3, x3), (7, x7), (6, x6), (0, x0), (5, x5)]) h) := by
  kernel_rfl
noncomputable def c26arborrlbrr : Code := cR c26arborrlbr
noncomputable def c26arborrlbrrb : Code := cL c26arborrlbrr
noncomputable def c26arborrlbrrbo : Code := cL c26arborrlbrrb
noncomputable def p26arborrlbrrbo (C : CF) (L : Nat) {β : Type} (x4 : Value) (x3 : Value) (x7 : Value) (x6 : Value) (x0 : Value) (x5 : Value) (h : H) (kr : H → Option β) (kn : Value → Value → Value → Value → Value → Value → H → Option β) (kx2 : Value → Value → Value → Value → H → Option β) : Option β :=
  bnd (A.bin Tryd.prog .neq 52 x4 (.int .u64 0)) fun t17 =>
  toBK t17 fun b =>
  (bif b then
  bnd (A.bin Tryd.prog .mul 3 x3 (.int .i64 64)) fun t24 =>
  bnd2 (C 24 [x4] h) fun t26 hq1 =>
  bnd (A.bin Tryd.prog .add 3 t24 t26) fun t27 =>
  bnd (A.conv Tryd.prog 3 25 t27) fun t28 =>
  bnd2 (callV C x0 [t28] hq1) fun t29 hq2 =>
  toBK t29 fun bq1 =>
  bnd (A.un Tryd.prog .not (.bool bq1)) fun t30 =>
  toBK t30 fun bq2 =>
  (bif bq2 then
  kr hq2
  else
  bnd (A.bin Tryd.prog .sub 52 x4 (.int .u64 1)) fun t20 =>
  bnd (A.bin Tryd.prog .and 52 x4 t20) fun t21 =>
  kn t21 x3 x7 x6 x0 x5 hq2)
  else
  kx2 x7 x6 x0 x5 h)
theorem ep26arborrlbrrbo (C : CF) (L : Nat) {β : Type} (x4 : Value) (x3 : Value) (x7 : Value) (x6 : Value) (x0 : Value) (x5 : Value) (h : H) (K : Ex → T Value → H → Option β) :
    execK Tryd.prog C L 1 32 [] c26arborrlbrrbo [4, 3, 7, 6, 0, 5] [(2, [7, 6, 0, 5]), (1, [7, 6, 0, 5]), (0, [])] (fs [(4, x4), (3, x3), (7, x7), (6, x6), (0, x0), (5, x5)]) h K =
      p26arborrlbrrbo C L x4 x3 x7 x6 x0 x5 h (fun h => K .ret (fs []) h) (fun x4 x3 x7 x6 x0 x5 h => K .normal (fs [(4, x4), (3, x3), (7, x7), (6, x6), (0, x0), (5, x5)]) h) (fun x7 x6 x0 x5 h => K (.exit 2) (fs [(7, x7), (6, x6), (0, x0), (5, x5)]) h) := by
  kernel_rfl
noncomputable def p26arborrlbrrbw (C : CF) (L : Nat) {β : Type} (kr : H → Option β) (kx2 : Value → Value → Value → Value → H → Option β) : Nat → Value → Value → Value → Value → Value → Value → H → Option β
  | 0, _, _, _, _, _, _, _ => none
  | n + 1, x4, x3, x7, x6, x0, x5, h => p26arborrlbrrbo C L x4 x3 x7 x6 x0 x5 h kr (fun x4 x3 x7 x6 x0 x5 h => p26arborrlbrrbw C L kr kx2 n x4 x3 x7 x6 x0 x5 h) kx2
theorem ep26arborrlbrrbw (C : CF) (L : Nat) {β : Type} (K : Ex → T Value → H → Option β) : ∀ (n : Nat) (x4 : Value) (x3 : Value) (x7 : Value) (x6 : Value) (x0 : Value) (x5 : Value) (h : H),
    loopK (fun fr h K => execK Tryd.prog C L 1 32 [] c26arborrlbrrbo [4, 3, 7, 6, 0, 5] [(2, [7, 6, 0, 5]), (1, [7, 6, 0, 5]), (0, [])] fr h K) n (fs [(4, x4), (3, x3), (7, x7), (6, x6), (0, x0), (5, x5)]) h K =
      p26arborrlbrrbw C L (fun h => K .ret (fs []) h) (fun x7 x6 x0 x5 h => K (.exit 2) (fs [(7, x7), (6, x6), (0, x0), (5, x5)]) h) n x4 x3 x7 x6 x0 x5 h := by
  intro n
  induction n with
  | zero => intros; rfl
  | succ n ih =>
    intros
    simp only [loopK]
    rw [ep26arborrlbrrbo]
    simp only [seqK_n, seqK_x, seqK_r, ih]
    rfl
noncomputable def p26arborrlbrrb (C : CF) (L : Nat) {β : Type} (x4 : Value) (x3 : Value) (x7 : Value) (x6 : Value) (x0 : Value) (x5 : Value) (h : H) (kr : H → Option β) (kx2 : Value → Value → Value → Value → H → Option β) : Option β :=
  p26arborrlbrrbw C L kr kx2 L x4 x3 x7 x6 x0 x5 h
theorem ep26arborrlbrrb (C : CF) (L : Nat) {β : Type} (x4 : Value) (x3 : Value) (x7 : Value) (x6 : Value) (x0 : Value) (x5 : Value) (h : H) (K : Ex → T Value → H → Option β) :
    execK Tryd.prog C L 1 32 [] c26arborrlbrrb [7, 6, 0, 5] [(2, [7, 6, 0, 5]), (1, [7, 6, 0, 5]), (0, [])] (fs [(4, x4), (3, x3), (7, x7), (6, x6), (0, x0), (5, x5)]) h K =
      p26arborrlbrrb C L x4 x3 x7 x6 x0 x5 h (fun h => K .ret (fs []) h) (fun x7 x6 x0 x5 h => K (.exit 2) (fs [(7, x7), (6, x6), (0, x0), (5, x5)]) h) := by
  rw [execK_loop (b := c26arborrlbrrbo) (fr1 := (fs [(4, x4), (3, x3), (7, x7), (6, x6), (0, x0), (5, x5)])) (by kernel_rfl) (show live [] c26arborrlbrrbo [] [(2, [7, 6, 0, 5]), (1, [7, 6, 0, 5]), (0, [])] = [4, 3, 7, 6, 0, 5] by kernel_rfl) (by kernel_rfl), ep26arborrlbrrbw]
  unfold p26arborrlbrrb
  rfl
noncomputable def p26arborrlbrr (C : CF) (L : Nat) {β : Type} (x4 : Value) (x3 : Value) (x7 : Value) (x6 : Value) (x0 : Value) (x5 : Value) (h : H) (kr : H → Option β) (kn : Value → Value → Value → Value → H → Option β) : Option β :=
  p26arborrlbrrb C L x4 x3 x7 x6 x0 x5 h kr kn
theorem ep26arborrlbrr (C : CF) (L : Nat) {β : Type} (x4 : Value) (x3 : Value) (x7 : Value) (x6 : Value) (x0 : Value) (x5 : Value) (h : H) (K : Ex → T Value → H → Option β) :
    execK Tryd.prog C L 1 32 [] c26arborrlbrr [7, 6, 0, 5] [(1, [7, 6, 0, 5]), (0, [])] (fs [(4, x4), (3, x3), (7, x7), (6, x6), (0, x0), (5, x5)]) h K =
      p26arborrlbrr C L x4 x3 x7 x6 x0 x5 h (fun h => K .ret (fs []) h) (fun x7 x6 x0 x5 h => K .normal (fs [(7, x7), (6, x6), (0, x0), (5, x5)]) h) := by
  rw [execK_block (b := c26arborrlbrrb) (id := 2) (by kernel_rfl), ep26arborrlbrrb]
  unfold p26arborrlbrr
  rfl
noncomputable def p26arborrlbr (C : CF) (L : Nat) {β : Type} (x4 : Value) (x3 : Value) (x7 : Value) (x6 : Value) (x0 : Value) (x5 : Value) (h : H) (kr : H → Option β) (kn : Value → Value → Value → Value → H → Option β) : Option β :=
  p26arborrlbrl C L x4 x3 x7 x6 x0 x5 h (fun x4 x3 x7 x6 x0 x5 h => p26arborrlbrr C L x4 x3 x7 x6 x0 x5 h kr kn)
theorem ep26arborrlbr (C : CF) (L : Nat) {β : Type} (x4 : Value) (x3 : Value) (x7 : Value) (x6 : Value) (x0 : Value) (x5 : Value) (h : H) (K : Ex → T Value → H → Option β) :
    execK Tryd.prog C L 1 32 [] c26arborrlbr [7, 6, 0, 5] [(1, [7, 6, 0, 5]), (0, [])] (fs [(4, x4), (3, x3), (7, x7), (6, x6), (0, x0), (5, x5)]) h K =
      p26arborrlbr C L x4 x3 x7 x6 x0 x5 h (fun h => K .ret (fs []) h) (fun x7 x6 x0 x5 h => K .normal (fs [(7, x7), (6, x6), (0, x0), (5, x5)]) h) := by
  rw [execK_seq (a := c26arborrlbrl) (b := c26arborrlbrr) (by kernel_rfl) (show live [] c26arborrlbrr [7, 6, 0, 5] [(1, [7, 6, 0, 5]), (0, [])] = [4, 3, 7, 6, 0, 5] by kernel_rfl), ep26arborrlbrl]
  unfold p26arborrlbr
  exact (congrArg (p26arborrlbrl C L x4 x3 x7 x6 x0 x5 h) (funext fun x4 => funext fun x3 => funext fun x7 => funext fun x6 => funext fun x0 => funext fun x5 => funext fun h => (seqK_n _ _ _).trans (ep26arborrlbrr C L x4 x3 x7 x6 x0 x5 h K)))
noncomputable def p26arborrlb (C : CF) (L : Nat) {β : Type} (x7 : Value) (x6 : Value) (x0 : Value) (x5 : Value) (h : H) (kr : H → Option β) (kn : Value → Value → Value → Value → H → Option β) : Option β :=
  p26arborrlbl C L x7 x6 x0 x5 h (fun x4 x3 x7 x6 x0 x5 h => p26arborrlbr C L x4 x3 x7 x6 x0 x5 h kr kn)
theorem ep26arborrlb (C : CF) (L : Nat) {β : Type} (x7 : Value) (x6 : Value) (x0 : Value) (x5 : Value) (h : H) (K : Ex → T Value → H → Option β) :
    execK Tryd.prog C L 1 32 [] c26arborrlb [7, 6, 0, 5] [(1, [7, 6, 0, 5]), (0, [])] (fs [(7, x7), (6, x6), (0, x0), (5, x5)]) h K =
      p26arborrlb C L x7 x6 x0 x5 h (fun h => K .ret (fs []) h) (fun x7 x6 x0 x5 h => K .normal (fs [(7, x7), (6, x6), (0, x0), (5, x5)]) h) := by
  rw [execK_seq (a := c26arborrlbl) (b := c26arborrlbr) (by kernel_rfl) (show live [] c26arborrlbr [7, 6, 0, 5] [(1, [7, 6, 0, 5]), (0, [])] = [4, 3, 7, 6, 0, 5] by kernel_rfl), ep26arborrlbl]
  unfold p26arborrlb
  exact (congrArg (p26arborrlbl C L x7 x6 x0 x5 h) (funext fun x4 => funext fun x3 => funext fun x7 => funext fun x6 => funext fun x0 => funext fun x5 => funext fun h => (seqK_n _ _ _).trans (ep26arborrlbr C L x4 x3 x7 x6 x0 x5 h K)))
noncomputable def p26arborrl (C : CF) (L : Nat) {β : Type} (x7 : Value) (x6 : Value) (x0 : Value) (x5 : Value) (h : H) (kr : H → Option β) (kn : Value → Value → Value → Value → H → Option β) : Option β :=
  p26arborrlb C L x7 x6 x0 x5 h kr kn
theorem ep26arborrl (C : CF) (L : Nat) {β : Type} (x7 : Value) (x6 : Value) (x0 : Value) (x5 : Value) (h : H) (K : Ex → T Value → H → Option β) :
    execK Tryd.prog C L 1 32 [] c26arborrl [7, 6, 0, 5] [(0, [])] (fs [(7, x7), (6, x6), (0, x0), (5, x5)]) h K =
      p26arborrl C L x7 x6 x0 x5 h (fun h => K .ret (fs []) h) (fun x7 x6 x0 x5 h => K .normal (fs [(7, x7), (6, x6), (0, x0), (5, x5)]) h) := by
  rw [execK_block (b := c26arborrlb) (id := 1) (by kernel_rfl), ep26arborrlb]
  unfold p26arborrl
  rfl
noncomputable def c26arborrr : Code := cR c26arborr
noncomputable def p26arborrr (C : CF) (L : Nat) {β : Type} (x7 : Value) (x6 : Value) (x0 : Value) (x5 : Value) (h : H) (kn : Value → Value → Value → Value → H → Option β) : Option β :=
  bnd (A.bin Tryd.prog .add 3 x7 (.int .i64 1)) fun t31 =>
  kn x6 t31 x0 x5 h
theorem ep26arborrr (C : CF) (L : Nat) {β : Type} (x7 : Value) (x6 : Value) (x0 : Value) (x5 : Value) (h : H) (K : Ex → T Value → H → Option β) :
    execK Tryd.prog C L 1 32 [] c26arborrr [6, 7, 0, 5] [(0, [])] (fs [(7, x7), (6, x6), (0, x0), (5, x5)]) h K =
      p26arborrr C L x7 x6 x0 x5 h (fun x6 x7 x0 x5 h => K .normal (fs [(6, x6), (7, x7), (0, x0), (5, x5)]) h) := by
  kernel_rfl
noncomputable def p26arborr (C : CF) (L : Nat) {β : Type} (x7 : Value) (x6 : Value) (x0 : Value) (x5 : Value) (h : H) (kn : Value → Value → Value → Value → H → Option β) (kr : H → Option β) : Option β :=
  p26arborrl C L x7 x6 x0 x5 h kr (fun x7 x6 x0 x5 h => p26arborrr C L x7 x6 x0 x5 h kn)
theorem ep26arborr (C : CF) (L : Nat) {β : Type} (x7 : Value) (x6 : Value) (x0 : Value) (x5 : Value) (h : H) (K : Ex → T Value → H → Option β) :
    execK Tryd.prog C L 1 32 [] c26arborr [6, 7, 0, 5] [(0, [])] (fs [(7, x7), (6, x6), (0, x0), (5, x5)]) h K =
      p26arborr C L x7 x6 x0 x5 h (fun x6 x7 x0 x5 h => K .normal (fs [(6, x6), (7, x7), (0, x0), (5, x5)]) h) (fun h => K .ret (fs []) h) := by
  rw [execK_seq (a := c26arborrl) (b := c26arborrr) (by kernel_rfl) (show live [] c26arborrr [6, 7, 0, 5] [(0, [])] = [7, 6, 0, 5] by kernel_rfl), ep26arborrl]
  unfold p26arborr
  exact (congr (congrArg (p26arborrl C L x7 x6 x0 x5 h) (funext fun h => seqK_r _ _ _)) (funext fun x7 => funext fun x6 => funext fun x0 => funext fun x5 => funext fun h => (seqK_n _ _ _).trans (ep26arborrr C L x7 x6 x0 x5 h K)))
noncomputable def p26arbor (C : CF) (L : Nat) {β : Type} (x8 : Value) (x5 : Value) (x0 : Value) (x6 : Value) (x7 : Value) (h : H) (kn : Value → Value → Value → Value → H → Option β) (kr : H → Option β) (kx0 : H → Option β) : Option β :=
  p26arborl C L x8 x5 x0 x6 x7 h (fun x7 x6 x0 x5 h => p26arborr C L x7 x6 x0 x5 h kn kr) kx0
theorem ep26arbor (C : CF) (L : Nat) {β : Type} (x8 : Value) (x5 : Value) (x0 : Value) (x6 : Value) (x7 : Value) (h : H) (K : Ex → T Value → H → Option β) :
    execK Tryd.prog C L 1 32 [] c26arbor [6, 7, 0, 5] [(0, [])] (fs [(8, x8), (5, x5), (0, x0), (6, x6), (7, x7)]) h K =
      p26arbor C L x8 x5 x0 x6 x7 h (fun x6 x7 x0 x5 h => K .normal (fs [(6, x6), (7, x7), (0, x0), (5, x5)]) h) (fun h => K .ret (fs []) h) (fun h => K (.exit 0) (fs []) h) := by
  rw [execK_seq (a := c26arborl) (b := c26arborr) (by kernel_rfl) (show live [] c26arborr [6, 7, 0, 5] [(0, [])] = [7, 6, 0, 5] by kernel_rfl), ep26arborl]
  unfold p26arbor
  exact (congr (congrArg (p26arborl C L x8 x5 x0 x6 x7 h) (funext fun x7 => funext fun x6 => funext fun x0 => funext fun x5 => funext fun h => (seqK_n _ _ _).trans (ep26arborr C L x7 x6 x0 x5 h K))) (funext fun h => seqK_x _ _ _ _))
noncomputable def p26arbo (C : CF) (L : Nat) {β : Type} (x6 : Value) (x7 : Value) (x0 : Value) (x5 : Value) (h : H) (kn : Value → Value → Value → Value → H → Option β) (kr : H → Option β) (kx0 : H → Option β) : Option β :=
  p26arbol C L x6 x7 x0 x5 h (fun x8 x5 x0 x6 x7 h => p26arbor C L x8 x5 x0 x6 x7 h kn kr kx0)
theorem ep26arbo (C : CF) (L : Nat) {β : Type} (x6 : Value) (x7 : Value) (x0 : Value) (x5 : Value) (h : H) (K : Ex → T Value → H → Option β) :
    execK Tryd.prog C L 1 32 [] c26arbo [6, 7, 0, 5] [(0, [])] (fs [(6, x6), (7, x7), (0, x0), (5, x5)]) h K =
      p26arbo C L x6 x7 x0 x5 h (fun x6 x7 x0 x5 h => K .normal (fs [(6, x6), (7, x7), (0, x0), (5, x5)]) h) (fun h => K .ret (fs []) h) (fun h => K (.exit 0) (fs []) h) := by
  rw [execK_seq (a := c26arbol) (b := c26arbor) (by kernel_rfl) (show live [] c26arbor [6, 7, 0, 5] [(0, [])] = [8, 5, 0, 6, 7] by kernel_rfl), ep26arbol]
  unfold p26arbo
  exact (congrArg (p26arbol C L x6 x7 x0 x5 h) (funext fun x8 => funext fun x5 => funext fun x0 => funext fun x6 => funext fun x7 => funext fun h => (seqK_n _ _ _).trans (ep26arbor C L x8 x5 x0 x6 x7 h K)))
noncomputable def p26arbw (C : CF) (L : Nat) {β : Type} (kr : H → Option β) (kx0 : H → Option β) : Nat → Value → Value → Value → Value → H → Option β
  | 0, _, _, _, _, _ => none
  | n + 1, x6, x7, x0, x5, h => p26arbo C L x6 x7 x0 x5 h (fun x6 x7 x0 x5 h => p26arbw C L kr kx0 n x6 x7 x0 x5 h) kr kx0
theorem ep26arbw (C : CF) (L : Nat) {β : Type} (K : Ex → T Value → H → Option β) : ∀ (n : Nat) (x6 : Value) (x7 : Value) (x0 : Value) (x5 : Value) (h : H),
    loopK (fun fr h K => execK Tryd.prog C L 1 32 [] c26arbo [6, 7, 0, 5] [(0, [])] fr h K) n (fs [(6, x6), (7, x7), (0, x0), (5, x5)]) h K =
      p26arbw C L (fun h => K .ret (fs []) h) (fun h => K (.exit 0) (fs []) h) n x6 x7 x0 x5 h := by
  intro n
  induction n with
  | zero => intros; rfl
  | succ n ih =>
    intros
    simp only [loopK]
    rw [ep26arbo]
    simp only [seqK_n, seqK_x, seqK_r, ih]
    rfl
noncomputable def p26arb (C : CF) (L : Nat) {β : Type} (x6 : Value) (x7 : Value) (x0 : Value) (x5 : Value) (h : H) (kr : H → Option β) (kx0 : H → Option β) : Option β :=
  p26arbw C L kr kx0 L x6 x7 x0 x5 h
theorem ep26arb (C : CF) (L : Nat) {β : Type} (x6 : Value) (x7 : Value) (x0 : Value) (x5 : Value) (h : H) (K : Ex → T Value → H → Option β) :
    execK Tryd.prog C L 1 32 [] c26arb [] [(0, [])] (fs [(6, x6), (7, x7), (0, x0), (5, x5)]) h K =
      p26arb C L x6 x7 x0 x5 h (fun h => K .ret (fs []) h) (fun h => K (.exit 0) (fs []) h) := by
  rw [execK_loop (b := c26arbo) (fr1 := (fs [(6, x6), (7, x7), (0, x0), (5, x5)])) (by kernel_rfl) (show live [] c26arbo [] [(0, [])] = [6, 7, 0, 5] by kernel_rfl) (by kernel_rfl), ep26arbw]
  unfold p26arb
  rfl
noncomputable def p26ar (C : CF) (L : Nat) {β : Type} (x6 : Value) (x7 : Value) (x0 : Value) (x5 : Value) (h : H) (kr : H → Option β) (kn : H → Option β) : Option β :=
  p26arb C L x6 x7 x0 x5 h kr kn
theorem ep26ar (C : CF) (L : Nat) {β : Type} (x6 : Value) (x7 : Value) (x0 : Value) (x5 : Value) (h : H) (K : Ex → T Value → H → Option β) :
    execK Tryd.prog C L 1 32 [] c26ar [] [] (fs [(6, x6), (7, x7), (0, x0), (5, x5)]) h K =
      p26ar C L x6 x7 x0 x5 h (fun h => K .ret (fs []) h) (fun h => K .normal (fs []) h) := by
  rw [execK_block (b := c26arb) (id := 0) (by kernel_rfl), ep26arb]
  unfold p26ar
  rfl
noncomputable def p26a (C : CF) (L : Nat) {β : Type} (x0 : Value) (x1 : Value) (h : H) (kr : H → Option β) (kn : H → Option β) : Option β :=
  p26al C L x0 x1 h (fun x6 x7 x0 x5 h => p26ar C L x6 x7 x0 x5 h kr kn)
theorem ep26a (C : CF) (L : Nat) {β : Type} (x0 : Value) (x1 : Value) (h : H) (K : Ex → T Value → H → Option β) :
    execK Tryd.prog C L 1 32 [] c26a [] [] (fs [(0, x0), (1, x1)]) h K =
      p26a C L x0 x1 h (fun h => K .ret (fs []) h) (fun h => K .normal (fs []) h) := by
  rw [execK_seq (a := c26al) (b := c26ar) (by kernel_rfl) (show live [] c26ar [] [] = [6, 7, 0, 5] by kernel_rfl), ep26al]
  unfold p26a
  exact (congrArg (p26al C L x0 x1 h) (funext fun x6 => funext fun x7 => funext fun x0 => funext fun x5 => funext fun h => (seqK_n _ _ _).trans (ep26ar C L x6 x7 x0 x5 h K)))
noncomputable def F26 (C : CF) (L : Nat) (x0 : Value) (x1 : Value) (h : H) : Option (Value × H) :=
  p26a C L x0 x1 h
    (fun h => some (.tuple ⟨[]⟩, h))
    (fun h => some (.tuple ⟨[]⟩, h))
theorem F26eq (O : List FuncId) (hO : O.any (Nat.beq 26) = false) (n : Nat) (x0 : Value) (x1 : Value) (h : H) : callB Tryd.prog 1 O (n + 1) 26 [x0, x1] h = F26 (callB Tryd.prog 1 O n) n x0 x1 h := by
  rw [callB_eq hO (c := c26a) (nt := 32) (RR := []) (fr := (fs [(0, x0), (1, x1)])) Tryd.func26 (by kernel_rfl) (by kernel_rfl) (by kernel_rfl) (by kernel_rfl) (by kernel_rfl), ep26a]
  kernel_rfl

end Go.Proofs.YtlhppeikbgolbaaDoor.IdsD
