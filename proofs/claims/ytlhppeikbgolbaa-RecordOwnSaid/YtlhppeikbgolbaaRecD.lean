/-
  Functions of the program over the abstract machine: printed by a program of mine (wip/tools/Dec.lean), each with its equation to the machine's call.
-/
import Derived.Test.YtlhppeikbgolbaaProg
import Derived.Test.YtlhppeikbgolbaaAmDec
set_option linter.unusedVariables false
set_option maxRecDepth 100000
namespace Go.Proofs.Ytlhppeikbgolbaa.RecD
open Go Go.AM

noncomputable def Z5 : Value := (.int .u8 0)
noncomputable def Z5L : List Value := [(.int .u8 0)]
noncomputable def Z36 : Value := (.agg ⟨[(.int .u8 0), (.int .i64 0), (.int .i64 0), (.string ⟨⟨[]⟩⟩), (.int .u8 0), (.bool false), (.int .u8 0), (.bool false), (.int .u16 0), (.string ⟨⟨[]⟩⟩), (.string ⟨⟨[]⟩⟩), (.int .u8 0), (.bool false), (.int .u16 0), (.string ⟨⟨[]⟩⟩), (.bool false), (.string ⟨⟨[]⟩⟩), (.string ⟨⟨[]⟩⟩), (.int .u8 0), (.bool false), (.bool false), (.bool false), (.string ⟨⟨[]⟩⟩), (.string ⟨⟨[]⟩⟩), (.bool false), (.int .u8 0), (.slice none 0 0), (.string ⟨⟨[]⟩⟩), (.string ⟨⟨[]⟩⟩), (.string ⟨⟨[]⟩⟩), (.int .u8 0), (.bool false), (.string ⟨⟨[]⟩⟩), (.bool false), (.int .u8 0)]⟩)
noncomputable def Z36L : List Value := [(.int .u8 0), (.int .i64 0), (.int .i64 0), (.string ⟨⟨[]⟩⟩), (.int .u8 0), (.bool false), (.int .u8 0), (.bool false), (.int .u16 0), (.string ⟨⟨[]⟩⟩), (.string ⟨⟨[]⟩⟩), (.int .u8 0), (.bool false), (.int .u16 0), (.string ⟨⟨[]⟩⟩), (.bool false), (.string ⟨⟨[]⟩⟩), (.string ⟨⟨[]⟩⟩), (.int .u8 0), (.bool false), (.bool false), (.bool false), (.string ⟨⟨[]⟩⟩), (.string ⟨⟨[]⟩⟩), (.bool false), (.int .u8 0), (.slice none 0 0), (.string ⟨⟨[]⟩⟩), (.string ⟨⟨[]⟩⟩), (.string ⟨⟨[]⟩⟩), (.int .u8 0), (.bool false), (.string ⟨⟨[]⟩⟩), (.bool false), (.int .u8 0)]
noncomputable def Z34 : Value := (.agg ⟨[(.int .u8 0), (.bool false), (.int .u8 0), (.bool false), (.int .u16 0), (.string ⟨⟨[]⟩⟩), (.string ⟨⟨[]⟩⟩), (.int .u8 0), (.bool false), (.int .u16 0), (.string ⟨⟨[]⟩⟩), (.bool false), (.string ⟨⟨[]⟩⟩), (.string ⟨⟨[]⟩⟩), (.int .u8 0), (.bool false), (.bool false), (.bool false), (.string ⟨⟨[]⟩⟩), (.string ⟨⟨[]⟩⟩), (.bool false), (.int .u8 0), (.slice none 0 0), (.string ⟨⟨[]⟩⟩)]⟩)
noncomputable def Z34L : List Value := [(.int .u8 0), (.bool false), (.int .u8 0), (.bool false), (.int .u16 0), (.string ⟨⟨[]⟩⟩), (.string ⟨⟨[]⟩⟩), (.int .u8 0), (.bool false), (.int .u16 0), (.string ⟨⟨[]⟩⟩), (.bool false), (.string ⟨⟨[]⟩⟩), (.string ⟨⟨[]⟩⟩), (.int .u8 0), (.bool false), (.bool false), (.bool false), (.string ⟨⟨[]⟩⟩), (.string ⟨⟨[]⟩⟩), (.bool false), (.int .u8 0), (.slice none 0 0), (.string ⟨⟨[]⟩⟩)]
noncomputable def Z9 : Value := (.string ⟨⟨[]⟩⟩)
noncomputable def Z9L : List Value := [(.string ⟨⟨[]⟩⟩)]
noncomputable def Z3 : Value := (.int .i64 0)
noncomputable def Z3L : List Value := [(.int .i64 0)]
noncomputable def Z57 : Value := (.agg ⟨[(.string ⟨⟨[]⟩⟩), (.int .u8 0)]⟩)
noncomputable def Z57L : List Value := [(.string ⟨⟨[]⟩⟩), (.int .u8 0)]
noncomputable def Z63 : Value := (.agg ⟨[(.slice none 0 0), (.int .i64 0)]⟩)
noncomputable def Z63L : List Value := [(.slice none 0 0), (.int .i64 0)]
noncomputable def Z68 : Value := (.agg ⟨[(.int .u8 0), (.int .u8 0), (.int .u8 0), (.int .u8 0), (.bool false), (.bool false), (.bool false), (.bool false), (.bool false), (.bool false), (.bool false), (.int .u16 0), (.int .u16 0), (.string ⟨⟨[]⟩⟩), (.string ⟨⟨[]⟩⟩), (.string ⟨⟨[]⟩⟩), (.string ⟨⟨[]⟩⟩), (.string ⟨⟨[]⟩⟩), (.string ⟨⟨[]⟩⟩), (.string ⟨⟨[]⟩⟩), (.string ⟨⟨[]⟩⟩), (.int .u8 0), (.bool false)]⟩)
noncomputable def Z68L : List Value := [(.int .u8 0), (.int .u8 0), (.int .u8 0), (.int .u8 0), (.bool false), (.bool false), (.bool false), (.bool false), (.bool false), (.bool false), (.bool false), (.int .u16 0), (.int .u16 0), (.string ⟨⟨[]⟩⟩), (.string ⟨⟨[]⟩⟩), (.string ⟨⟨[]⟩⟩), (.string ⟨⟨[]⟩⟩), (.string ⟨⟨[]⟩⟩), (.string ⟨⟨[]⟩⟩), (.string ⟨⟨[]⟩⟩), (.string ⟨⟨[]⟩⟩), (.int .u8 0), (.bool false)]

/-! F3: relayhouse/relayhouselaw17.RecordOf -/
noncomputable def c3a : Code := (Try.f3.body).getD .skip
noncomputable def c3al : Code := cL c3a
noncomputable def p3al (C : CF) (L : Nat) {β : Type} (x0 : Value) (x1 : Value) (x2 : Value) (h : H) (kn : Value → Value → Value → H → Option β) : Option β :=
  kn x2 x0 x1 h
theorem ep3al (C : CF) (L : Nat) {β : Type} (x0 : Value) (x1 : Value) (x2 : Value) (h : H) (K : Ex → T Value → H → Option β) :
    execK Try.prog C L 0 88 [6] c3al [2, 0, 1] [] (fs [(0, x0), (1, x1), (2, x2)]) h K =
      p3al C L x0 x1 x2 h (fun x2 x0 x1 h => K .normal (fs [(2, x2), (0, x0), (1, x1)]) h) := by
  kernel_rfl
noncomputable def c3ar : Code := cR c3a
noncomputable def c3arl : Code := cL c3ar
noncomputable def p3arl (C : CF) (L : Nat) {β : Type} (x2 : Value) (x0 : Value) (x1 : Value) (h : H) (kr : Value → H → Option β) (kn : Value → Value → Value → H → Option β) : Option β :=
  bnd2 (C 9 [x0] h) fun t14 hq1 =>
  toBK t14 fun b =>
  (bif b then
  bnd2 (C 10 [] hq1) fun t15 hq2 =>
  toBK t15 fun bq1 =>
  kr (.bool bq1) hq2
  else
  kn x2 x0 x1 hq1)
theorem ep3arl (C : CF) (L : Nat) {β : Type} (x2 : Value) (x0 : Value) (x1 : Value) (h : H) (K : Ex → T Value → H → Option β) :
    execK Try.prog C L 0 88 [6] c3arl [2, 0, 1] [] (fs [(2, x2), (0, x0), (1, x1)]) h K =
      p3arl C L x2 x0 x1 h (fun x6 h => K .ret (fs [(6, x6)]) h) (fun x2 x0 x1 h => K .normal (fs [(2, x2), (0, x0), (1, x1)]) h) := by
  kernel_rfl
noncomputable def c3arr : Code := cR c3ar
noncomputable def c3arrl : Code := cL c3arr
noncomputable def p3arrl (C : CF) (L : Nat) {β : Type} (x2 : Value) (x0 : Value) (x1 : Value) (h : H) (kn : Value → Value → Value → Value → H → Option β) : Option β :=
  bnd2 (C 11 [x0] h) fun t17 hq1 =>
  kn t17 x2 x0 x1 hq1
theorem ep3arrl (C : CF) (L : Nat) {β : Type} (x2 : Value) (x0 : Value) (x1 : Value) (h : H) (K : Ex → T Value → H → Option β) :
    execK Try.prog C L 0 88 [6] c3arrl [7, 2, 0, 1] [] (fs [(2, x2), (0, x0), (1, x1)]) h K =
      p3arrl C L x2 x0 x1 h (fun x7 x2 x0 x1 h => K .normal (fs [(7, x7), (2, x2), (0, x0), (1, x1)]) h) := by
  kernel_rfl
noncomputable def c3arrr : Code := cR c3arr
noncomputable def c3arrrl : Code := cL c3arrr
noncomputable def p3arrrl (C : CF) (L : Nat) {β : Type} (x7 : Value) (x2 : Value) (x0 : Value) (x1 : Value) (h : H) (kn : Value → Value → Value → Value → Value → H → Option β) : Option β :=
  bnd2 (C 12 [x7, x1, (.slice none 0 0)] h) fun t20 hq1 =>
  bnd2 (A.buildSlice 1 2 Z5L [(0, 1, x2), (1, 1, x2)] hq1) fun t25 hq2 =>
  bnd2 (C 12 [x7, x1, t25] hq2) fun t26 hq3 =>
  kn x2 x0 x1 t20 t26 hq3
theorem ep3arrrl (C : CF) (L : Nat) {β : Type} (x7 : Value) (x2 : Value) (x0 : Value) (x1 : Value) (h : H) (K : Ex → T Value → H → Option β) :
    execK Try.prog C L 0 88 [6] c3arrrl [2, 0, 1, 8, 9] [] (fs [(7, x7), (2, x2), (0, x0), (1, x1)]) h K =
      p3arrrl C L x7 x2 x0 x1 h (fun x2 x0 x1 x8 x9 h => K .normal (fs [(2, x2), (0, x0), (1, x1), (8, x8), (9, x9)]) h) := by
  kernel_rfl
noncomputable def c3arrrr : Code := cR c3arrr
noncomputable def c3arrrrl : Code := cL c3arrrr
noncomputable def p3arrrrl (C : CF) (L : Nat) {β : Type} (x2 : Value) (x0 : Value) (x1 : Value) (x8 : Value) (x9 : Value) (h : H) (kn : Value → Value → Value → Value → Value → Value → Value → H → Option β) : Option β :=
  kn x2 x0 x1 (.int .i64 0) x8 (.int .i64 0) x9 h
theorem ep3arrrrl (C : CF) (L : Nat) {β : Type} (x2 : Value) (x0 : Value) (x1 : Value) (x8 : Value) (x9 : Value) (h : H) (K : Ex → T Value → H → Option β) :
    execK Try.prog C L 0 88 [6] c3arrrrl [2, 0, 1, 10, 8, 11, 9] [] (fs [(2, x2), (0, x0), (1, x1), (8, x8), (9, x9)]) h K =
      p3arrrrl C L x2 x0 x1 x8 x9 h (fun x2 x0 x1 x10 x8 x11 x9 h => K .normal (fs [(2, x2), (0, x0), (1, x1), (10, x10), (8, x8), (11, x11), (9, x9)]) h) := by
  kernel_rfl
noncomputable def c3arrrrr : Code := cR c3arrrr
noncomputable def c3arrrrrl : Code := cL c3arrrrr
noncomputable def c3arrrrrll : Code := cL c3arrrrrl
noncomputable def p3arrrrrll (C : CF) (L : Nat) {β : Type} (x2 : Value) (x0 : Value) (x1 : Value) (x10 : Value) (x8 : Value) (x11 : Value) (x9 : Value) (h : H) (kn : Value → Value → Value → Value → Value → Value → Value → Value → H → Option β) : Option β :=
  kn (.int .i64 0) x2 x0 x1 x10 x8 x11 x9 h
theorem ep3arrrrrll (C : CF) (L : Nat) {β : Type} (x2 : Value) (x0 : Value) (x1 : Value) (x10 : Value) (x8 : Value) (x11 : Value) (x9 : Value) (h : H) (K : Ex → T Value → H → Option β) :
    execK Try.prog C L 0 88 [6] c3arrrrrll [12, 2, 0, 1, 10, 8, 11, 9] [] (fs [(2, x2), (0, x0), (1, x1), (10, x10), (8, x8), (11, x11), (9, x9)]) h K =
      p3arrrrrll C L x2 x0 x1 x10 x8 x11 x9 h (fun x12 x2 x0 x1 x10 x8 x11 x9 h => K .normal (fs [(12, x12), (2, x2), (0, x0), (1, x1), (10, x10), (8, x8), (11, x11), (9, x9)]) h) := by
  kernel_rfl
noncomputable def c3arrrrrlr : Code := cR c3arrrrrl
noncomputable def c3arrrrrlrb : Code := cL c3arrrrrlr
noncomputable def c3arrrrrlrbo : Code := cL c3arrrrrlrb
noncomputable def c3arrrrrlrbol : Code := cL c3arrrrrlrbo
noncomputable def p3arrrrrlrbol (C : CF) (L : Nat) {β : Type} (x12 : Value) (x2 : Value) (x0 : Value) (x1 : Value) (x10 : Value) (x8 : Value) (x11 : Value) (x9 : Value) (h : H) (kn : Value → Value → Value → Value → Value → Value → Value → Value → H → Option β) (kx0 : Value → Value → Value → Value → H → Option β) : Option β :=
  bnd (A.lenS x0) fun t29 =>
  bnd (A.bin Try.prog .lss 3 x12 t29) fun t30 =>
  toBK t30 fun b =>
  (bif b then
  kn x10 x12 x2 x0 x1 x8 x11 x9 h
  else
  kx0 x10 x8 x11 x9 h)
theorem ep3arrrrrlrbol (C : CF) (L : Nat) {β : Type} (x12 : Value) (x2 : Value) (x0 : Value) (x1 : Value) (x10 : Value) (x8 : Value) (x11 : Value) (x9 : Value) (h : H) (K : Ex → T Value → H → Option β) :
    execK Try.prog C L 0 88 [6] c3arrrrrlrbol [10, 12, 2, 0, 1, 8, 11, 9] [(0, [10, 8, 11, 9])] (fs [(12, x12), (2, x2), (0, x0), (1, x1), (10, x10), (8, x8), (11, x11), (9, x9)]) h K =
      p3arrrrrlrbol C L x12 x2 x0 x1 x10 x8 x11 x9 h (fun x10 x12 x2 x0 x1 x8 x11 x9 h => K .normal (fs [(10, x10), (12, x12), (2, x2), (0, x0), (1, x1), (8, x8), (11, x11), (9, x9)]) h) (fun x10 x8 x11 x9 h => K (.exit 0) (fs [(10, x10), (8, x8), (11, x11), (9, x9)]) h) := by
  kernel_rfl
noncomputable def c3arrrrrlrbor : Code := cR c3arrrrrlrbo
noncomputable def c3arrrrrlrborl : Code := cL c3arrrrrlrbor
noncomputable def c3arrrrrlrborlb : Code := cL c3arrrrrlrborl
noncomputable def c3arrrrrlrborlbl : Code := cL c3arrrrrlrborlb
noncomputable def p3arrrrrlrborlbl (C : CF) (L : Nat) {β : Type} (x10 : Value) (x12 : Value) (x2 : Value) (x0 : Value) (x1 : Value) (x8 : Value) (x11 : Value) (x9 : Value) (h : H) (kx1 : Value → Value → Value → Value → Value → Value → Value → Value → H → Option β) (kn : Value → Value → Value → Value → Value → Value → Value → Value → H → Option β) : Option β :=
  bnd (A.idxS 35 x0 x12) fun t35 =>
  bnd (A.fieldAddr 1 t35) fun t36 =>
  bnd (A.load false 1 t36 h) fun t37 =>
  bnd (A.bin Try.prog .neq 3 t37 x1) fun t39 =>
  toBK t39 fun b =>
  (bif b then
  kx1 x12 x2 x0 x1 x10 x8 x11 x9 h
  else
  kn x10 x12 x2 x0 x1 x8 x11 x9 h)
theorem ep3arrrrrlrborlbl (C : CF) (L : Nat) {β : Type} (x10 : Value) (x12 : Value) (x2 : Value) (x0 : Value) (x1 : Value) (x8 : Value) (x11 : Value) (x9 : Value) (h : H) (K : Ex → T Value → H → Option β) :
    execK Try.prog C L 0 88 [6] c3arrrrrlrborlbl [10, 12, 2, 0, 1, 8, 11, 9] [(1, [12, 2, 0, 1, 10, 8, 11, 9]), (0, [10, 8, 11, 9])] (fs [(10, x10), (12, x12), (2, x2), (0, x0), (1, x1), (8, x8), (11, x11), (9, x9)]) h K =
      p3arrrrrlrborlbl C L x10 x12 x2 x0 x1 x8 x11 x9 h (fun x12 x2 x0 x1 x10 x8 x11 x9 h => K (.exit 1) (fs [(12, x12), (2, x2), (0, x0), (1, x1), (10, x10), (8, x8), (11, x11), (9, x9)]) h) (fun x10 x12 x2 x0 x1 x8 x11 x9 h => K .normal (fs [(10, x10), (12, x12), (2, x2), (0, x0), (1, x1), (8, x8), (11, x11), (9, x9)]) h) := by
  kernel_rfl
noncomputable def c3arrrrrlrborlbr : Code := cR c3arrrrrlrborlb
noncomputable def c3arrrrrlrborlbrl : Code := cL c3arrrrrlrborlbr
noncomputable def p3arrrrrlrborlbrl (C : CF) (L : Nat) {β : Type} (x10 : Value) (x12 : Value) (x2 : Value) (x0 : Value) (x1 : Value) (x8 : Value) (x11 : Value) (x9 : Value) (h : H) (kr : Value → H → Option β) (kn : Value → Value → Value → Value → Value → Value → Value → Value → H → Option β) : Option β :=
  bnd (A.lenS x8) fun t42 =>
  bnd (A.bin Try.prog .geq 3 x10 t42) fun t43 =>
  toBK t43 fun b =>
  (bif b then
  kr (.bool false) h
  else
  bnd (A.idxS 1 x8 x10) fun t47 =>
  bnd (A.load false 1 t47 h) fun t48 =>
  bnd (A.bin Try.prog .neq 3 t48 x12) fun t50 =>
  toBK t50 fun bq1 =>
  (bif bq1 then
  kr (.bool false) h
  else
  kn x10 x12 x2 x0 x1 x8 x11 x9 h))
theorem ep3arrrrrlrborlbrl (C : CF) (L : Nat) {β : Type} (x10 : Value) (x12 : Value) (x2 : Value) (x0 : Value) (x1 : Value) (x8 : Value) (x11 : Value) (x9 : Value) (h : H) (K : Ex → T Value → H → Option β) :
    execK Try.prog C L 0 88 [6] c3arrrrrlrborlbrl [10, 12, 2, 0, 1, 8, 11, 9] [(1, [12, 2, 0, 1, 10, 8, 11, 9]), (0, [10, 8, 11, 9])] (fs [(10, x10), (12, x12), (2, x2), (0, x0), (1, x1), (8, x8), (11, x11), (9, x9)]) h K =
      p3arrrrrlrborlbrl C L x10 x12 x2 x0 x1 x8 x11 x9 h (fun x6 h => K .ret (fs [(6, x6)]) h) (fun x10 x12 x2 x0 x1 x8 x11 x9 h => K .normal (fs [(10, x10), (12, x12), (2, x2), (0, x0), (1, x1), (8, x8), (11, x11), (9, x9)]) h) := by
  kernel_rfl
noncomputable def c3arrrrrlrborlbrr : Code := cR c3arrrrrlrborlbr
noncomputable def c3arrrrrlrborlbrrl : Code := cL c3arrrrrlrborlbrr
noncomputable def p3arrrrrlrborlbrrl (C : CF) (L : Nat) {β : Type} (x10 : Value) (x12 : Value) (x2 : Value) (x0 : Value) (x1 : Value) (x8 : Value) (x11 : Value) (x9 : Value) (h : H) (kn : Value → Value → Value → Value → Value → Value → Value → Value → H → Option β) : Option β :=
  bnd (A.bin Try.prog .add 3 x10 (.int .i64 1)) fun t53 =>
  kn x12 x2 x0 x1 t53 x8 x11 x9 h
theorem ep3arrrrrlrborlbrrl (C : CF) (L : Nat) {β : Type} (x10 : Value) (x12 : Value) (x2 : Value) (x0 : Value) (x1 : Value) (x8 : Value) (x11 : Value) (x9 : Value) (h : H) (K : Ex → T Value → H → Option β) :
    execK Try.prog C L 0 88 [6] c3arrrrrlrborlbrrl [12, 2, 0, 1, 10, 8, 11, 9] [(1, [12, 2, 0, 1, 10, 8, 11, 9]), (0, [10, 8, 11, 9])] (fs [(10, x10), (12, x12), (2, x2), (0, x0), (1, x1), (8, x8), (11, x11), (9, x9)]) h K =
      p3arrrrrlrborlbrrl C L x10 x12 x2 x0 x1 x8 x11 x9 h (fun x12 x2 x0 x1 x10 x8 x11 x9 h => K .normal (fs [(12, x12), (2, x2), (0, x0), (1, x1), (10, x10), (8, x8), (11, x11), (9, x9)]) h) := by
  kernel_rfl
noncomputable def c3arrrrrlrborlbrrr : Code := cR c3arrrrrlrborlbrr
noncomputable def c3arrrrrlrborlbrrrl : Code := cL c3arrrrrlrborlbrrr
noncomputable def p3arrrrrlrborlbrrrl (C : CF) (L : Nat) {β : Type} (x12 : Value) (x2 : Value) (x0 : Value) (x1 : Value) (x10 : Value) (x8 : Value) (x11 : Value) (x9 : Value) (h : H) (kn : Value → Value → Value → Value → Value → Value → Value → Value → Value → H → Option β) : Option β :=
  bnd (A.idxS 35 x0 x12) fun t56 =>
  bnd (A.fieldAddr 0 t56) fun t57 =>
  bnd (A.load false 1 t57 h) fun t58 =>
  bnd (A.bin Try.prog .eql 5 t58 x2) fun t60 =>
  toBK t60 fun b =>
  kn (.bool b) x12 x2 x0 x1 x10 x8 x11 x9 h
theorem ep3arrrrrlrborlbrrrl (C : CF) (L : Nat) {β : Type} (x12 : Value) (x2 : Value) (x0 : Value) (x1 : Value) (x10 : Value) (x8 : Value) (x11 : Value) (x9 : Value) (h : H) (K : Ex → T Value → H → Option β) :
    execK Try.prog C L 0 88 [6] c3arrrrrlrborlbrrrl [60, 12, 2, 0, 1, 10, 8, 11, 9] [(1, [12, 2, 0, 1, 10, 8, 11, 9]), (0, [10, 8, 11, 9])] (fs [(12, x12), (2, x2), (0, x0), (1, x1), (10, x10), (8, x8), (11, x11), (9, x9)]) h K =
      p3arrrrrlrborlbrrrl C L x12 x2 x0 x1 x10 x8 x11 x9 h (fun x60 x12 x2 x0 x1 x10 x8 x11 x9 h => K .normal (fs [(60, x60), (12, x12), (2, x2), (0, x0), (1, x1), (10, x10), (8, x8), (11, x11), (9, x9)]) h) := by
  kernel_rfl
noncomputable def c3arrrrrlrborlbrrrr : Code := cR c3arrrrrlrborlbrrr
noncomputable def c3arrrrrlrborlbrrrrt : Code := cL c3arrrrrlrborlbrrrr
noncomputable def p3arrrrrlrborlbrrrrt (C : CF) (L : Nat) {β : Type} (x60 : Value) (x12 : Value) (x2 : Value) (x0 : Value) (x1 : Value) (x10 : Value) (x8 : Value) (x11 : Value) (x9 : Value) (h : H) (kr : Value → H → Option β) (kn : Value → Value → Value → Value → Value → Value → Value → Value → H → Option β) : Option β :=
  bnd (A.lenS x9) fun t63 =>
  bnd (A.bin Try.prog .geq 3 x11 t63) fun t64 =>
  toBK t64 fun b =>
  (bif b then
  kr (.bool false) h
  else
  bnd (A.idxS 1 x9 x11) fun t68 =>
  bnd (A.load false 1 t68 h) fun t69 =>
  bnd (A.bin Try.prog .neq 3 t69 x12) fun t71 =>
  toBK t71 fun bq1 =>
  (bif bq1 then
  kr (.bool false) h
  else
  bnd (A.bin Try.prog .add 3 x11 (.int .i64 1)) fun t74 =>
  kn x12 x2 x0 x1 x10 x8 t74 x9 h))
theorem ep3arrrrrlrborlbrrrrt (C : CF) (L : Nat) {β : Type} (x60 : Value) (x12 : Value) (x2 : Value) (x0 : Value) (x1 : Value) (x10 : Value) (x8 : Value) (x11 : Value) (x9 : Value) (h : H) (K : Ex → T Value → H → Option β) :
    execK Try.prog C L 0 88 [6] c3arrrrrlrborlbrrrrt [12, 2, 0, 1, 10, 8, 11, 9] [(1, [12, 2, 0, 1, 10, 8, 11, 9]), (0, [10, 8, 11, 9])] (fs [(60, x60), (12, x12), (2, x2), (0, x0), (1, x1), (10, x10), (8, x8), (11, x11), (9, x9)]) h K =
      p3arrrrrlrborlbrrrrt C L x60 x12 x2 x0 x1 x10 x8 x11 x9 h (fun x6 h => K .ret (fs [(6, x6)]) h) (fun x12 x2 x0 x1 x10 x8 x11 x9 h => K .normal (fs [(12, x12), (2, x2), (0, x0), (1, x1), (10, x10), (8, x8), (11, x11), (9, x9)]) h) := by
  kernel_rfl
noncomputable def c3arrrrrlrborlbrrrrf : Code := cR c3arrrrrlrborlbrrrr
noncomputable def p3arrrrrlrborlbrrrrf (C : CF) (L : Nat) {β : Type} (x60 : Value) (x12 : Value) (x2 : Value) (x0 : Value) (x1 : Value) (x10 : Value) (x8 : Value) (x11 : Value) (x9 : Value) (h : H) (kn : Value → Value → Value → Value → Value → Value → Value → Value → H → Option β) : Option β :=
  kn x12 x2 x0 x1 x10 x8 x11 x9 h
theorem ep3arrrrrlrborlbrrrrf (C : CF) (L : Nat) {β : Type} (x60 : Value) (x12 : Value) (x2 : Value) (x0 : Value) (x1 : Value) (x10 : Value) (x8 : Value) (x11 : Value) (x9 : Value) (h : H) (K : Ex → T Value → H → Option β) :
    execK Try.prog C L 0 88 [6] c3arrrrrlrborlbrrrrf [12, 2, 0, 1, 10, 8, 11, 9] [(1, [12, 2, 0, 1, 10, 8, 11, 9]), (0, [10, 8, 11, 9])] (fs [(60, x60), (12, x12), (2, x2), (0, x0), (1, x1), (10, x10), (8, x8), (11, x11), (9, x9)]) h K =
      p3arrrrrlrborlbrrrrf C L x60 x12 x2 x0 x1 x10 x8 x11 x9 h (fun x12 x2 x0 x1 x10 x8 x11 x9 h => K .normal (fs [(12, x12), (2, x2), (0, x0), (1, x1), (10, x10), (8, x8), (11, x11), (9, x9)]) h) := by
  kernel_rfl
noncomputable def p3arrrrrlrborlbrrrr (C : CF) (L : Nat) {β : Type} (x60 : Value) (x12 : Value) (x2 : Value) (x0 : Value) (x1 : Value) (x10 : Value) (x8 : Value) (x11 : Value) (x9 : Value) (h : H) (kr : Value → H → Option β) (kn : Value → Value → Value → Value → Value → Value → Value → Value → H → Option β) : Option β :=
  condV x60 (p3arrrrrlrborlbrrrrt C L x60 x12 x2 x0 x1 x10 x8 x11 x9 h kr kn) (p3arrrrrlrborlbrrrrf C L x60 x12 x2 x0 x1 x10 x8 x11 x9 h kn)
theorem ep3arrrrrlrborlbrrrr (C : CF) (L : Nat) {β : Type} (x60 : Value) (x12 : Value) (x2 : Value) (x0 : Value) (x1 : Value) (x10 : Value) (x8 : Value) (x11 : Value) (x9 : Value) (h : H) (K : Ex → T Value → H → Option β) :
    execK Try.prog C L 0 88 [6] c3arrrrrlrborlbrrrr [12, 2, 0, 1, 10, 8, 11, 9] [(1, [12, 2, 0, 1, 10, 8, 11, 9]), (0, [10, 8, 11, 9])] (fs [(60, x60), (12, x12), (2, x2), (0, x0), (1, x1), (10, x10), (8, x8), (11, x11), (9, x9)]) h K =
      p3arrrrrlrborlbrrrr C L x60 x12 x2 x0 x1 x10 x8 x11 x9 h (fun x6 h => K .ret (fs [(6, x6)]) h) (fun x12 x2 x0 x1 x10 x8 x11 x9 h => K .normal (fs [(12, x12), (2, x2), (0, x0), (1, x1), (10, x10), (8, x8), (11, x11), (9, x9)]) h) := by
  rw [execK_cond (a := c3arrrrrlrborlbrrrrt) (b := c3arrrrrlrborlbrrrrf) (x := (.tmp 60)) (v := x60) (by kernel_rfl) (by kernel_rfl), ep3arrrrrlrborlbrrrrt, ep3arrrrrlrborlbrrrrf]
  rfl
noncomputable def p3arrrrrlrborlbrrr (C : CF) (L : Nat) {β : Type} (x12 : Value) (x2 : Value) (x0 : Value) (x1 : Value) (x10 : Value) (x8 : Value) (x11 : Value) (x9 : Value) (h : H) (kr : Value → H → Option β) (kn : Value → Value → Value → Value → Value → Value → Value → Value → H → Option β) : Option β :=
  p3arrrrrlrborlbrrrl C L x12 x2 x0 x1 x10 x8 x11 x9 h (fun x60 x12 x2 x0 x1 x10 x8 x11 x9 h => p3arrrrrlrborlbrrrr C L x60 x12 x2 x0 x1 x10 x8 x11 x9 h kr kn)
theorem ep3arrrrrlrborlbrrr (C : CF) (L : Nat) {β : Type} (x12 : Value) (x2 : Value) (x0 : Value) (x1 : Value) (x10 : Value) (x8 : Value) (x11 : Value) (x9 : Value) (h : H) (K : Ex → T Value → H → Option β) :
    execK Try.prog C L 0 88 [6] c3arrrrrlrborlbrrr [12, 2, 0, 1, 10, 8, 11, 9] [(1, [12, 2, 0, 1, 10, 8, 11, 9]), (0, [10, 8, 11, 9])] (fs [(12, x12), (2, x2), (0, x0), (1, x1), (10, x10), (8, x8), (11, x11), (9, x9)]) h K =
      p3arrrrrlrborlbrrr C L x12 x2 x0 x1 x10 x8 x11 x9 h (fun x6 h => K .ret (fs [(6, x6)]) h) (fun x12 x2 x0 x1 x10 x8 x11 x9 h => K .normal (fs [(12, x12), (2, x2), (0, x0), (1, x1), (10, x10), (8, x8), (11, x11), (9, x9)]) h) := by
  rw [execK_seq (a := c3arrrrrlrborlbrrrl) (b := c3arrrrrlrborlbrrrr) (by kernel_rfl) (show live [6] c3arrrrrlrborlbrrrr [12, 2, 0, 1, 10, 8, 11, 9] [(1, [12, 2, 0, 1, 10, 8, 11, 9]), (0, [10, 8, 11, 9])] = [60, 12, 2, 0, 1, 10, 8, 11, 9] by kernel_rfl), ep3arrrrrlrborlbrrrl]
  simp only [seqK, ep3arrrrrlrborlbrrrr]
  rfl
noncomputable def p3arrrrrlrborlbrr (C : CF) (L : Nat) {β : Type} (x10 : Value) (x12 : Value) (x2 : Value) (x0 : Value) (x1 : Value) (x8 : Value) (x11 : Value) (x9 : Value) (h : H) (kr : Value → H → Option β) (kn : Value → Value → Value → Value → Value → Value → Value → Value → H → Option β) : Option β :=
  p3arrrrrlrborlbrrl C L x10 x12 x2 x0 x1 x8 x11 x9 h (fun x12 x2 x0 x1 x10 x8 x11 x9 h => p3arrrrrlrborlbrrr C L x12 x2 x0 x1 x10 x8 x11 x9 h kr kn)
theorem ep3arrrrrlrborlbrr (C : CF) (L : Nat) {β : Type} (x10 : Value) (x12 : Value) (x2 : Value) (x0 : Value) (x1 : Value) (x8 : Value) (x11 : Value) (x9 : Value) (h : H) (K : Ex → T Value → H → Option β) :
    execK Try.prog C L 0 88 [6] c3arrrrrlrborlbrr [12, 2, 0, 1, 10, 8, 11, 9] [(1, [12, 2, 0, 1, 10, 8, 11, 9]), (0, [10, 8, 11, 9])] (fs [(10, x10), (12, x12), (2, x2), (0, x0), (1, x1), (8, x8), (11, x11), (9, x9)]) h K =
      p3arrrrrlrborlbrr C L x10 x12 x2 x0 x1 x8 x11 x9 h (fun x6 h => K .ret (fs [(6, x6)]) h) (fun x12 x2 x0 x1 x10 x8 x11 x9 h => K .normal (fs [(12, x12), (2, x2), (0, x0), (1, x1), (10, x10), (8, x8), (11, x11), (9, x9)]) h) := by
  rw [execK_seq (a := c3arrrrrlrborlbrrl) (b := c3arrrrrlrborlbrrr) (by kernel_rfl) (show live [6] c3arrrrrlrborlbrrr [12, 2, 0, 1, 10, 8, 11, 9] [(1, [12, 2, 0, 1, 10, 8, 11, 9]), (0, [10, 8, 11, 9])] = [12, 2, 0, 1, 10, 8, 11, 9] by kernel_rfl), ep3arrrrrlrborlbrrl]
  simp only [seqK, ep3arrrrrlrborlbrrr]
  rfl
noncomputable def p3arrrrrlrborlbr (C : CF) (L : Nat) {β : Type} (x10 : Value) (x12 : Value) (x2 : Value) (x0 : Value) (x1 : Value) (x8 : Value) (x11 : Value) (x9 : Value) (h : H) (kr : Value → H → Option β) (kn : Value → Value → Value → Value → Value → Value → Value → Value → H → Option β) : Option β :=
  p3arrrrrlrborlbrl C L x10 x12 x2 x0 x1 x8 x11 x9 h kr (fun x10 x12 x2 x0 x1 x8 x11 x9 h => p3arrrrrlrborlbrr C L x10 x12 x2 x0 x1 x8 x11 x9 h kr kn)
theorem ep3arrrrrlrborlbr (C : CF) (L : Nat) {β : Type} (x10 : Value) (x12 : Value) (x2 : Value) (x0 : Value) (x1 : Value) (x8 : Value) (x11 : Value) (x9 : Value) (h : H) (K : Ex → T Value → H → Option β) :
    execK Try.prog C L 0 88 [6] c3arrrrrlrborlbr [12, 2, 0, 1, 10, 8, 11, 9] [(1, [12, 2, 0, 1, 10, 8, 11, 9]), (0, [10, 8, 11, 9])] (fs [(10, x10), (12, x12), (2, x2), (0, x0), (1, x1), (8, x8), (11, x11), (9, x9)]) h K =
      p3arrrrrlrborlbr C L x10 x12 x2 x0 x1 x8 x11 x9 h (fun x6 h => K .ret (fs [(6, x6)]) h) (fun x12 x2 x0 x1 x10 x8 x11 x9 h => K .normal (fs [(12, x12), (2, x2), (0, x0), (1, x1), (10, x10), (8, x8), (11, x11), (9, x9)]) h) := by
  rw [execK_seq (a := c3arrrrrlrborlbrl) (b := c3arrrrrlrborlbrr) (by kernel_rfl) (show live [6] c3arrrrrlrborlbrr [12, 2, 0, 1, 10, 8, 11, 9] [(1, [12, 2, 0, 1, 10, 8, 11, 9]), (0, [10, 8, 11, 9])] = [10, 12, 2, 0, 1, 8, 11, 9] by kernel_rfl), ep3arrrrrlrborlbrl]
  simp only [seqK, ep3arrrrrlrborlbrr]
  rfl
noncomputable def p3arrrrrlrborlb (C : CF) (L : Nat) {β : Type} (x10 : Value) (x12 : Value) (x2 : Value) (x0 : Value) (x1 : Value) (x8 : Value) (x11 : Value) (x9 : Value) (h : H) (kr : Value → H → Option β) (kn : Value → Value → Value → Value → Value → Value → Value → Value → H → Option β) (kx1 : Value → Value → Value → Value → Value → Value → Value → Value → H → Option β) : Option β :=
  p3arrrrrlrborlbl C L x10 x12 x2 x0 x1 x8 x11 x9 h kx1 (fun x10 x12 x2 x0 x1 x8 x11 x9 h => p3arrrrrlrborlbr C L x10 x12 x2 x0 x1 x8 x11 x9 h kr kn)
theorem ep3arrrrrlrborlb (C : CF) (L : Nat) {β : Type} (x10 : Value) (x12 : Value) (x2 : Value) (x0 : Value) (x1 : Value) (x8 : Value) (x11 : Value) (x9 : Value) (h : H) (K : Ex → T Value → H → Option β) :
    execK Try.prog C L 0 88 [6] c3arrrrrlrborlb [12, 2, 0, 1, 10, 8, 11, 9] [(1, [12, 2, 0, 1, 10, 8, 11, 9]), (0, [10, 8, 11, 9])] (fs [(10, x10), (12, x12), (2, x2), (0, x0), (1, x1), (8, x8), (11, x11), (9, x9)]) h K =
      p3arrrrrlrborlb C L x10 x12 x2 x0 x1 x8 x11 x9 h (fun x6 h => K .ret (fs [(6, x6)]) h) (fun x12 x2 x0 x1 x10 x8 x11 x9 h => K .normal (fs [(12, x12), (2, x2), (0, x0), (1, x1), (10, x10), (8, x8), (11, x11), (9, x9)]) h) (fun x12 x2 x0 x1 x10 x8 x11 x9 h => K (.exit 1) (fs [(12, x12), (2, x2), (0, x0), (1, x1), (10, x10), (8, x8), (11, x11), (9, x9)]) h) := by
  rw [execK_seq (a := c3arrrrrlrborlbl) (b := c3arrrrrlrborlbr) (by kernel_rfl) (show live [6] c3arrrrrlrborlbr [12, 2, 0, 1, 10, 8, 11, 9] [(1, [12, 2, 0, 1, 10, 8, 11, 9]), (0, [10, 8, 11, 9])] = [10, 12, 2, 0, 1, 8, 11, 9] by kernel_rfl), ep3arrrrrlrborlbl]
  simp only [seqK, ep3arrrrrlrborlbr]
  rfl
noncomputable def p3arrrrrlrborl (C : CF) (L : Nat) {β : Type} (x10 : Value) (x12 : Value) (x2 : Value) (x0 : Value) (x1 : Value) (x8 : Value) (x11 : Value) (x9 : Value) (h : H) (kr : Value → H → Option β) (kn : Value → Value → Value → Value → Value → Value → Value → Value → H → Option β) : Option β :=
  p3arrrrrlrborlb C L x10 x12 x2 x0 x1 x8 x11 x9 h kr kn kn
theorem ep3arrrrrlrborl (C : CF) (L : Nat) {β : Type} (x10 : Value) (x12 : Value) (x2 : Value) (x0 : Value) (x1 : Value) (x8 : Value) (x11 : Value) (x9 : Value) (h : H) (K : Ex → T Value → H → Option β) :
    execK Try.prog C L 0 88 [6] c3arrrrrlrborl [12, 2, 0, 1, 10, 8, 11, 9] [(0, [10, 8, 11, 9])] (fs [(10, x10), (12, x12), (2, x2), (0, x0), (1, x1), (8, x8), (11, x11), (9, x9)]) h K =
      p3arrrrrlrborl C L x10 x12 x2 x0 x1 x8 x11 x9 h (fun x6 h => K .ret (fs [(6, x6)]) h) (fun x12 x2 x0 x1 x10 x8 x11 x9 h => K .normal (fs [(12, x12), (2, x2), (0, x0), (1, x1), (10, x10), (8, x8), (11, x11), (9, x9)]) h) := by
  rw [execK_block (b := c3arrrrrlrborlb) (id := 1) (by kernel_rfl), ep3arrrrrlrborlb]
  rfl
noncomputable def c3arrrrrlrborr : Code := cR c3arrrrrlrbor
noncomputable def p3arrrrrlrborr (C : CF) (L : Nat) {β : Type} (x12 : Value) (x2 : Value) (x0 : Value) (x1 : Value) (x10 : Value) (x8 : Value) (x11 : Value) (x9 : Value) (h : H) (kn : Value → Value → Value → Value → Value → Value → Value → Value → H → Option β) : Option β :=
  bnd (A.bin Try.prog .add 3 x12 (.int .i64 1)) fun t32 =>
  kn t32 x2 x0 x1 x10 x8 x11 x9 h
theorem ep3arrrrrlrborr (C : CF) (L : Nat) {β : Type} (x12 : Value) (x2 : Value) (x0 : Value) (x1 : Value) (x10 : Value) (x8 : Value) (x11 : Value) (x9 : Value) (h : H) (K : Ex → T Value → H → Option β) :
    execK Try.prog C L 0 88 [6] c3arrrrrlrborr [12, 2, 0, 1, 10, 8, 11, 9] [(0, [10, 8, 11, 9])] (fs [(12, x12), (2, x2), (0, x0), (1, x1), (10, x10), (8, x8), (11, x11), (9, x9)]) h K =
      p3arrrrrlrborr C L x12 x2 x0 x1 x10 x8 x11 x9 h (fun x12 x2 x0 x1 x10 x8 x11 x9 h => K .normal (fs [(12, x12), (2, x2), (0, x0), (1, x1), (10, x10), (8, x8), (11, x11), (9, x9)]) h) := by
  kernel_rfl
noncomputable def p3arrrrrlrbor (C : CF) (L : Nat) {β : Type} (x10 : Value) (x12 : Value) (x2 : Value) (x0 : Value) (x1 : Value) (x8 : Value) (x11 : Value) (x9 : Value) (h : H) (kn : Value → Value → Value → Value → Value → Value → Value → Value → H → Option β) (kr : Value → H → Option β) : Option β :=
  p3arrrrrlrborl C L x10 x12 x2 x0 x1 x8 x11 x9 h kr (fun x12 x2 x0 x1 x10 x8 x11 x9 h => p3arrrrrlrborr C L x12 x2 x0 x1 x10 x8 x11 x9 h kn)
theorem ep3arrrrrlrbor (C : CF) (L : Nat) {β : Type} (x10 : Value) (x12 : Value) (x2 : Value) (x0 : Value) (x1 : Value) (x8 : Value) (x11 : Value) (x9 : Value) (h : H) (K : Ex → T Value → H → Option β) :
    execK Try.prog C L 0 88 [6] c3arrrrrlrbor [12, 2, 0, 1, 10, 8, 11, 9] [(0, [10, 8, 11, 9])] (fs [(10, x10), (12, x12), (2, x2), (0, x0), (1, x1), (8, x8), (11, x11), (9, x9)]) h K =
      p3arrrrrlrbor C L x10 x12 x2 x0 x1 x8 x11 x9 h (fun x12 x2 x0 x1 x10 x8 x11 x9 h => K .normal (fs [(12, x12), (2, x2), (0, x0), (1, x1), (10, x10), (8, x8), (11, x11), (9, x9)]) h) (fun x6 h => K .ret (fs [(6, x6)]) h) := by
  rw [execK_seq (a := c3arrrrrlrborl) (b := c3arrrrrlrborr) (by kernel_rfl) (show live [6] c3arrrrrlrborr [12, 2, 0, 1, 10, 8, 11, 9] [(0, [10, 8, 11, 9])] = [12, 2, 0, 1, 10, 8, 11, 9] by kernel_rfl), ep3arrrrrlrborl]
  simp only [seqK, ep3arrrrrlrborr]
  rfl
noncomputable def p3arrrrrlrbo (C : CF) (L : Nat) {β : Type} (x12 : Value) (x2 : Value) (x0 : Value) (x1 : Value) (x10 : Value) (x8 : Value) (x11 : Value) (x9 : Value) (h : H) (kn : Value → Value → Value → Value → Value → Value → Value → Value → H → Option β) (kr : Value → H → Option β) (kx0 : Value → Value → Value → Value → H → Option β) : Option β :=
  p3arrrrrlrbol C L x12 x2 x0 x1 x10 x8 x11 x9 h (fun x10 x12 x2 x0 x1 x8 x11 x9 h => p3arrrrrlrbor C L x10 x12 x2 x0 x1 x8 x11 x9 h kn kr) kx0
theorem ep3arrrrrlrbo (C : CF) (L : Nat) {β : Type} (x12 : Value) (x2 : Value) (x0 : Value) (x1 : Value) (x10 : Value) (x8 : Value) (x11 : Value) (x9 : Value) (h : H) (K : Ex → T Value → H → Option β) :
    execK Try.prog C L 0 88 [6] c3arrrrrlrbo [12, 2, 0, 1, 10, 8, 11, 9] [(0, [10, 8, 11, 9])] (fs [(12, x12), (2, x2), (0, x0), (1, x1), (10, x10), (8, x8), (11, x11), (9, x9)]) h K =
      p3arrrrrlrbo C L x12 x2 x0 x1 x10 x8 x11 x9 h (fun x12 x2 x0 x1 x10 x8 x11 x9 h => K .normal (fs [(12, x12), (2, x2), (0, x0), (1, x1), (10, x10), (8, x8), (11, x11), (9, x9)]) h) (fun x6 h => K .ret (fs [(6, x6)]) h) (fun x10 x8 x11 x9 h => K (.exit 0) (fs [(10, x10), (8, x8), (11, x11), (9, x9)]) h) := by
  rw [execK_seq (a := c3arrrrrlrbol) (b := c3arrrrrlrbor) (by kernel_rfl) (show live [6] c3arrrrrlrbor [12, 2, 0, 1, 10, 8, 11, 9] [(0, [10, 8, 11, 9])] = [10, 12, 2, 0, 1, 8, 11, 9] by kernel_rfl), ep3arrrrrlrbol]
  simp only [seqK, ep3arrrrrlrbor]
  rfl
noncomputable def p3arrrrrlrbw (C : CF) (L : Nat) {β : Type} (kr : Value → H → Option β) (kx0 : Value → Value → Value → Value → H → Option β) : Nat → Value → Value → Value → Value → Value → Value → Value → Value → H → Option β
  | 0, _, _, _, _, _, _, _, _, _ => none
  | n + 1, x12, x2, x0, x1, x10, x8, x11, x9, h => p3arrrrrlrbo C L x12 x2 x0 x1 x10 x8 x11 x9 h (fun x12 x2 x0 x1 x10 x8 x11 x9 h => p3arrrrrlrbw C L kr kx0 n x12 x2 x0 x1 x10 x8 x11 x9 h) kr kx0
theorem ep3arrrrrlrbw (C : CF) (L : Nat) {β : Type} (K : Ex → T Value → H → Option β) : ∀ (n : Nat) (x12 : Value) (x2 : Value) (x0 : Value) (x1 : Value) (x10 : Value) (x8 : Value) (x11 : Value) (x9 : Value) (h : H),
    loopK (fun fr h K => execK Try.prog C L 0 88 [6] c3arrrrrlrbo [12, 2, 0, 1, 10, 8, 11, 9] [(0, [10, 8, 11, 9])] fr h K) n (fs [(12, x12), (2, x2), (0, x0), (1, x1), (10, x10), (8, x8), (11, x11), (9, x9)]) h K =
      p3arrrrrlrbw C L (fun x6 h => K .ret (fs [(6, x6)]) h) (fun x10 x8 x11 x9 h => K (.exit 0) (fs [(10, x10), (8, x8), (11, x11), (9, x9)]) h) n x12 x2 x0 x1 x10 x8 x11 x9 h := by
  intro n
  induction n with
  | zero => intros; rfl
  | succ n ih =>
    intros
    simp only [loopK]
    rw [ep3arrrrrlrbo]
    simp only [seqK, ih]
    rfl
noncomputable def p3arrrrrlrb (C : CF) (L : Nat) {β : Type} (x12 : Value) (x2 : Value) (x0 : Value) (x1 : Value) (x10 : Value) (x8 : Value) (x11 : Value) (x9 : Value) (h : H) (kr : Value → H → Option β) (kx0 : Value → Value → Value → Value → H → Option β) : Option β :=
  p3arrrrrlrbw C L kr kx0 L x12 x2 x0 x1 x10 x8 x11 x9 h
theorem ep3arrrrrlrb (C : CF) (L : Nat) {β : Type} (x12 : Value) (x2 : Value) (x0 : Value) (x1 : Value) (x10 : Value) (x8 : Value) (x11 : Value) (x9 : Value) (h : H) (K : Ex → T Value → H → Option β) :
    execK Try.prog C L 0 88 [6] c3arrrrrlrb [10, 8, 11, 9] [(0, [10, 8, 11, 9])] (fs [(12, x12), (2, x2), (0, x0), (1, x1), (10, x10), (8, x8), (11, x11), (9, x9)]) h K =
      p3arrrrrlrb C L x12 x2 x0 x1 x10 x8 x11 x9 h (fun x6 h => K .ret (fs [(6, x6)]) h) (fun x10 x8 x11 x9 h => K (.exit 0) (fs [(10, x10), (8, x8), (11, x11), (9, x9)]) h) := by
  rw [execK_loop (b := c3arrrrrlrbo) (fr1 := (fs [(12, x12), (2, x2), (0, x0), (1, x1), (10, x10), (8, x8), (11, x11), (9, x9)])) (by kernel_rfl) (show live [6] c3arrrrrlrbo [] [(0, [10, 8, 11, 9])] = [12, 2, 0, 1, 10, 8, 11, 9] by kernel_rfl) (by kernel_rfl), ep3arrrrrlrbw]
  rfl
noncomputable def p3arrrrrlr (C : CF) (L : Nat) {β : Type} (x12 : Value) (x2 : Value) (x0 : Value) (x1 : Value) (x10 : Value) (x8 : Value) (x11 : Value) (x9 : Value) (h : H) (kr : Value → H → Option β) (kn : Value → Value → Value → Value → H → Option β) : Option β :=
  p3arrrrrlrb C L x12 x2 x0 x1 x10 x8 x11 x9 h kr kn
theorem ep3arrrrrlr (C : CF) (L : Nat) {β : Type} (x12 : Value) (x2 : Value) (x0 : Value) (x1 : Value) (x10 : Value) (x8 : Value) (x11 : Value) (x9 : Value) (h : H) (K : Ex → T Value → H → Option β) :
    execK Try.prog C L 0 88 [6] c3arrrrrlr [10, 8, 11, 9] [] (fs [(12, x12), (2, x2), (0, x0), (1, x1), (10, x10), (8, x8), (11, x11), (9, x9)]) h K =
      p3arrrrrlr C L x12 x2 x0 x1 x10 x8 x11 x9 h (fun x6 h => K .ret (fs [(6, x6)]) h) (fun x10 x8 x11 x9 h => K .normal (fs [(10, x10), (8, x8), (11, x11), (9, x9)]) h) := by
  rw [execK_block (b := c3arrrrrlrb) (id := 0) (by kernel_rfl), ep3arrrrrlrb]
  rfl
noncomputable def p3arrrrrl (C : CF) (L : Nat) {β : Type} (x2 : Value) (x0 : Value) (x1 : Value) (x10 : Value) (x8 : Value) (x11 : Value) (x9 : Value) (h : H) (kr : Value → H → Option β) (kn : Value → Value → Value → Value → H → Option β) : Option β :=
  p3arrrrrll C L x2 x0 x1 x10 x8 x11 x9 h (fun x12 x2 x0 x1 x10 x8 x11 x9 h => p3arrrrrlr C L x12 x2 x0 x1 x10 x8 x11 x9 h kr kn)
theorem ep3arrrrrl (C : CF) (L : Nat) {β : Type} (x2 : Value) (x0 : Value) (x1 : Value) (x10 : Value) (x8 : Value) (x11 : Value) (x9 : Value) (h : H) (K : Ex → T Value → H → Option β) :
    execK Try.prog C L 0 88 [6] c3arrrrrl [10, 8, 11, 9] [] (fs [(2, x2), (0, x0), (1, x1), (10, x10), (8, x8), (11, x11), (9, x9)]) h K =
      p3arrrrrl C L x2 x0 x1 x10 x8 x11 x9 h (fun x6 h => K .ret (fs [(6, x6)]) h) (fun x10 x8 x11 x9 h => K .normal (fs [(10, x10), (8, x8), (11, x11), (9, x9)]) h) := by
  rw [execK_seq (a := c3arrrrrll) (b := c3arrrrrlr) (by kernel_rfl) (show live [6] c3arrrrrlr [10, 8, 11, 9] [] = [12, 2, 0, 1, 10, 8, 11, 9] by kernel_rfl), ep3arrrrrll]
  simp only [seqK, ep3arrrrrlr]
  rfl
noncomputable def c3arrrrrr : Code := cR c3arrrrr
noncomputable def p3arrrrrr (C : CF) (L : Nat) {β : Type} (x10 : Value) (x8 : Value) (x11 : Value) (x9 : Value) (h : H) (kr : Value → H → Option β) : Option β :=
  bnd (A.lenS x8) fun t77 =>
  bnd (A.bin Try.prog .eql 3 x10 t77) fun t78 =>
  toBK t78 fun b =>
  (bif b then
  bnd (A.lenS x9) fun t82 =>
  bnd (A.bin Try.prog .eql 3 x11 t82) fun t83 =>
  toBK t83 fun bq1 =>
  (bif bq1 then
  bnd2 (C 10 [] h) fun t86 hq1 =>
  toBK t86 fun bq2 =>
  kr (.bool bq2) hq1
  else
  kr (.bool false) h)
  else
  kr (.bool false) h)
theorem ep3arrrrrr (C : CF) (L : Nat) {β : Type} (x10 : Value) (x8 : Value) (x11 : Value) (x9 : Value) (h : H) (K : Ex → T Value → H → Option β) :
    execK Try.prog C L 0 88 [6] c3arrrrrr [6] [] (fs [(10, x10), (8, x8), (11, x11), (9, x9)]) h K =
      p3arrrrrr C L x10 x8 x11 x9 h (fun x6 h => K .ret (fs [(6, x6)]) h) := by
  kernel_rfl
noncomputable def p3arrrrr (C : CF) (L : Nat) {β : Type} (x2 : Value) (x0 : Value) (x1 : Value) (x10 : Value) (x8 : Value) (x11 : Value) (x9 : Value) (h : H) (kr : Value → H → Option β) : Option β :=
  p3arrrrrl C L x2 x0 x1 x10 x8 x11 x9 h kr (fun x10 x8 x11 x9 h => p3arrrrrr C L x10 x8 x11 x9 h kr)
theorem ep3arrrrr (C : CF) (L : Nat) {β : Type} (x2 : Value) (x0 : Value) (x1 : Value) (x10 : Value) (x8 : Value) (x11 : Value) (x9 : Value) (h : H) (K : Ex → T Value → H → Option β) :
    execK Try.prog C L 0 88 [6] c3arrrrr [6] [] (fs [(2, x2), (0, x0), (1, x1), (10, x10), (8, x8), (11, x11), (9, x9)]) h K =
      p3arrrrr C L x2 x0 x1 x10 x8 x11 x9 h (fun x6 h => K .ret (fs [(6, x6)]) h) := by
  rw [execK_seq (a := c3arrrrrl) (b := c3arrrrrr) (by kernel_rfl) (show live [6] c3arrrrrr [6] [] = [10, 8, 11, 9] by kernel_rfl), ep3arrrrrl]
  simp only [seqK, ep3arrrrrr]
  rfl
noncomputable def p3arrrr (C : CF) (L : Nat) {β : Type} (x2 : Value) (x0 : Value) (x1 : Value) (x8 : Value) (x9 : Value) (h : H) (kr : Value → H → Option β) : Option β :=
  p3arrrrl C L x2 x0 x1 x8 x9 h (fun x2 x0 x1 x10 x8 x11 x9 h => p3arrrrr C L x2 x0 x1 x10 x8 x11 x9 h kr)
theorem ep3arrrr (C : CF) (L : Nat) {β : Type} (x2 : Value) (x0 : Value) (x1 : Value) (x8 : Value) (x9 : Value) (h : H) (K : Ex → T Value → H → Option β) :
    execK Try.prog C L 0 88 [6] c3arrrr [6] [] (fs [(2, x2), (0, x0), (1, x1), (8, x8), (9, x9)]) h K =
      p3arrrr C L x2 x0 x1 x8 x9 h (fun x6 h => K .ret (fs [(6, x6)]) h) := by
  rw [execK_seq (a := c3arrrrl) (b := c3arrrrr) (by kernel_rfl) (show live [6] c3arrrrr [6] [] = [2, 0, 1, 10, 8, 11, 9] by kernel_rfl), ep3arrrrl]
  simp only [seqK, ep3arrrrr]
  rfl
noncomputable def p3arrr (C : CF) (L : Nat) {β : Type} (x7 : Value) (x2 : Value) (x0 : Value) (x1 : Value) (h : H) (kr : Value → H → Option β) : Option β :=
  p3arrrl C L x7 x2 x0 x1 h (fun x2 x0 x1 x8 x9 h => p3arrrr C L x2 x0 x1 x8 x9 h kr)
theorem ep3arrr (C : CF) (L : Nat) {β : Type} (x7 : Value) (x2 : Value) (x0 : Value) (x1 : Value) (h : H) (K : Ex → T Value → H → Option β) :
    execK Try.prog C L 0 88 [6] c3arrr [6] [] (fs [(7, x7), (2, x2), (0, x0), (1, x1)]) h K =
      p3arrr C L x7 x2 x0 x1 h (fun x6 h => K .ret (fs [(6, x6)]) h) := by
  rw [execK_seq (a := c3arrrl) (b := c3arrrr) (by kernel_rfl) (show live [6] c3arrrr [6] [] = [2, 0, 1, 8, 9] by kernel_rfl), ep3arrrl]
  simp only [seqK, ep3arrrr]
  rfl
noncomputable def p3arr (C : CF) (L : Nat) {β : Type} (x2 : Value) (x0 : Value) (x1 : Value) (h : H) (kr : Value → H → Option β) : Option β :=
  p3arrl C L x2 x0 x1 h (fun x7 x2 x0 x1 h => p3arrr C L x7 x2 x0 x1 h kr)
theorem ep3arr (C : CF) (L : Nat) {β : Type} (x2 : Value) (x0 : Value) (x1 : Value) (h : H) (K : Ex → T Value → H → Option β) :
    execK Try.prog C L 0 88 [6] c3arr [6] [] (fs [(2, x2), (0, x0), (1, x1)]) h K =
      p3arr C L x2 x0 x1 h (fun x6 h => K .ret (fs [(6, x6)]) h) := by
  rw [execK_seq (a := c3arrl) (b := c3arrr) (by kernel_rfl) (show live [6] c3arrr [6] [] = [7, 2, 0, 1] by kernel_rfl), ep3arrl]
  simp only [seqK, ep3arrr]
  rfl
noncomputable def p3ar (C : CF) (L : Nat) {β : Type} (x2 : Value) (x0 : Value) (x1 : Value) (h : H) (kr : Value → H → Option β) : Option β :=
  p3arl C L x2 x0 x1 h kr (fun x2 x0 x1 h => p3arr C L x2 x0 x1 h kr)
theorem ep3ar (C : CF) (L : Nat) {β : Type} (x2 : Value) (x0 : Value) (x1 : Value) (h : H) (K : Ex → T Value → H → Option β) :
    execK Try.prog C L 0 88 [6] c3ar [6] [] (fs [(2, x2), (0, x0), (1, x1)]) h K =
      p3ar C L x2 x0 x1 h (fun x6 h => K .ret (fs [(6, x6)]) h) := by
  rw [execK_seq (a := c3arl) (b := c3arr) (by kernel_rfl) (show live [6] c3arr [6] [] = [2, 0, 1] by kernel_rfl), ep3arl]
  simp only [seqK, ep3arr]
  rfl
noncomputable def p3a (C : CF) (L : Nat) {β : Type} (x0 : Value) (x1 : Value) (x2 : Value) (h : H) (kr : Value → H → Option β) : Option β :=
  p3al C L x0 x1 x2 h (fun x2 x0 x1 h => p3ar C L x2 x0 x1 h kr)
theorem ep3a (C : CF) (L : Nat) {β : Type} (x0 : Value) (x1 : Value) (x2 : Value) (h : H) (K : Ex → T Value → H → Option β) :
    execK Try.prog C L 0 88 [6] c3a [6] [] (fs [(0, x0), (1, x1), (2, x2)]) h K =
      p3a C L x0 x1 x2 h (fun x6 h => K .ret (fs [(6, x6)]) h) := by
  rw [execK_seq (a := c3al) (b := c3ar) (by kernel_rfl) (show live [6] c3ar [6] [] = [2, 0, 1] by kernel_rfl), ep3al]
  simp only [seqK, ep3ar]
  rfl
noncomputable def F3 (C : CF) (L : Nat) (x0 : Value) (x1 : Value) (x2 : Value) (h : H) : Option (Value × H) :=
  p3a C L x0 x1 x2 h
    (fun x6 h => some (x6, h))
theorem F3eq (O : List FuncId) (hO : O.any (Nat.beq 3) = false) (n : Nat) (x0 : Value) (x1 : Value) (x2 : Value) (h : H) : callB Try.prog 0 O (n + 1) 3 [x0, x1, x2] h = F3 (callB Try.prog 0 O n) n x0 x1 x2 h := by
  rw [callB_eq hO (c := c3a) (nt := 88) (RR := [6]) (fr := (fs [(0, x0), (1, x1), (2, x2)])) Try.func3 (by kernel_rfl) (by kernel_rfl) (by kernel_rfl) (by kernel_rfl) (by kernel_rfl), ep3a]
  kernel_rfl

/-! F8: relayhouse/relayhouselaw17.RecordOwn -/
noncomputable def c8a : Code := (Try.f8.body).getD .skip
noncomputable def c8al : Code := cL c8a
noncomputable def p8al (C : CF) (L : Nat) {β : Type} (x0 : Value) (x1 : Value) (h : H) (kn : Value → Value → H → Option β) : Option β :=
  kn x1 x0 h
theorem ep8al (C : CF) (L : Nat) {β : Type} (x0 : Value) (x1 : Value) (h : H) (K : Ex → T Value → H → Option β) :
    execK Try.prog C L 0 129 [4] c8al [1, 0] [] (fs [(0, x0), (1, x1)]) h K =
      p8al C L x0 x1 h (fun x1 x0 h => K .normal (fs [(1, x1), (0, x0)]) h) := by
  kernel_rfl
noncomputable def c8ar : Code := cR c8a
noncomputable def c8arl : Code := cL c8ar
noncomputable def p8arl (C : CF) (L : Nat) {β : Type} (x1 : Value) (x0 : Value) (h : H) (kr : Value → H → Option β) (kn : Value → Value → H → Option β) : Option β :=
  bnd2 (C 9 [x0] h) fun t16 hq1 =>
  toBK t16 fun b =>
  (bif b then
  bnd2 (C 10 [] hq1) fun t17 hq2 =>
  toBK t17 fun bq1 =>
  kr (.bool bq1) hq2
  else
  kn x1 x0 hq1)
theorem ep8arl (C : CF) (L : Nat) {β : Type} (x1 : Value) (x0 : Value) (h : H) (K : Ex → T Value → H → Option β) :
    execK Try.prog C L 0 129 [4] c8arl [1, 0] [] (fs [(1, x1), (0, x0)]) h K =
      p8arl C L x1 x0 h (fun x4 h => K .ret (fs [(4, x4)]) h) (fun x1 x0 h => K .normal (fs [(1, x1), (0, x0)]) h) := by
  kernel_rfl
noncomputable def c8arr : Code := cR c8ar
noncomputable def c8arrl : Code := cL c8arr
noncomputable def p8arrl (C : CF) (L : Nat) {β : Type} (x1 : Value) (x0 : Value) (h : H) (kn : Value → Value → Value → H → Option β) : Option β :=
  bnd2 (C 25 [] h) fun t18 hq1 =>
  kn x1 t18 x0 hq1
theorem ep8arrl (C : CF) (L : Nat) {β : Type} (x1 : Value) (x0 : Value) (h : H) (K : Ex → T Value → H → Option β) :
    execK Try.prog C L 0 129 [4] c8arrl [1, 5, 0] [] (fs [(1, x1), (0, x0)]) h K =
      p8arrl C L x1 x0 h (fun x1 x5 x0 h => K .normal (fs [(1, x1), (5, x5), (0, x0)]) h) := by
  kernel_rfl
noncomputable def c8arrr : Code := cR c8arr
noncomputable def c8arrrl : Code := cL c8arrr
noncomputable def c8arrrll : Code := cL c8arrrl
noncomputable def p8arrrll (C : CF) (L : Nat) {β : Type} (x1 : Value) (x5 : Value) (x0 : Value) (h : H) (kn : Value → Value → Value → Value → H → Option β) : Option β :=
  kn (.int .i64 0) x1 x5 x0 h
theorem ep8arrrll (C : CF) (L : Nat) {β : Type} (x1 : Value) (x5 : Value) (x0 : Value) (h : H) (K : Ex → T Value → H → Option β) :
    execK Try.prog C L 0 129 [4] c8arrrll [6, 1, 5, 0] [] (fs [(1, x1), (5, x5), (0, x0)]) h K =
      p8arrrll C L x1 x5 x0 h (fun x6 x1 x5 x0 h => K .normal (fs [(6, x6), (1, x1), (5, x5), (0, x0)]) h) := by
  kernel_rfl
noncomputable def c8arrrlr : Code := cR c8arrrl
noncomputable def c8arrrlrb : Code := cL c8arrrlr
noncomputable def c8arrrlrbo : Code := cL c8arrrlrb
noncomputable def c8arrrlrbol : Code := cL c8arrrlrbo
noncomputable def p8arrrlrbol (C : CF) (L : Nat) {β : Type} (x6 : Value) (x1 : Value) (x5 : Value) (x0 : Value) (h : H) (kn : Value → Value → Value → Value → H → Option β) (kx0 : Value → Value → H → Option β) : Option β :=
  bnd (A.lenS x0) fun t21 =>
  bnd (A.bin Try.prog .lss 3 x6 t21) fun t22 =>
  toBK t22 fun b =>
  (bif b then
  kn x6 x1 x5 x0 h
  else
  kx0 x5 x0 h)
theorem ep8arrrlrbol (C : CF) (L : Nat) {β : Type} (x6 : Value) (x1 : Value) (x5 : Value) (x0 : Value) (h : H) (K : Ex → T Value → H → Option β) :
    execK Try.prog C L 0 129 [4] c8arrrlrbol [6, 1, 5, 0] [(0, [5, 0])] (fs [(6, x6), (1, x1), (5, x5), (0, x0)]) h K =
      p8arrrlrbol C L x6 x1 x5 x0 h (fun x6 x1 x5 x0 h => K .normal (fs [(6, x6), (1, x1), (5, x5), (0, x0)]) h) (fun x5 x0 h => K (.exit 0) (fs [(5, x5), (0, x0)]) h) := by
  kernel_rfl
noncomputable def c8arrrlrbor : Code := cR c8arrrlrbo
noncomputable def c8arrrlrborl : Code := cL c8arrrlrbor
noncomputable def c8arrrlrborlb : Code := cL c8arrrlrborl
noncomputable def c8arrrlrborlbl : Code := cL c8arrrlrborlb
noncomputable def p8arrrlrborlbl (C : CF) (L : Nat) {β : Type} (x6 : Value) (x1 : Value) (x5 : Value) (x0 : Value) (h : H) (kn : Value → Value → Value → Value → Value → H → Option β) : Option β :=
  bnd (A.idxS 35 x0 x6) fun t27 =>
  bnd (A.load true 35 t27 h) fun t28 =>
  bnd2 (C 14 [t28] h) fun t29 hq1 =>
  bnd2 (A.box 35 Z36 hq1) fun t7 hq2 =>
  bnd (A.store 35 t7 t29 hq2) fun hq3 =>
  kn t7 x6 x1 x5 x0 hq3
theorem ep8arrrlrborlbl (C : CF) (L : Nat) {β : Type} (x6 : Value) (x1 : Value) (x5 : Value) (x0 : Value) (h : H) (K : Ex → T Value → H → Option β) :
    execK Try.prog C L 0 129 [4] c8arrrlrborlbl [7, 6, 1, 5, 0] [(1, [6, 1, 5, 0]), (0, [5, 0])] (fs [(6, x6), (1, x1), (5, x5), (0, x0)]) h K =
      p8arrrlrborlbl C L x6 x1 x5 x0 h (fun x7 x6 x1 x5 x0 h => K .normal (fs [(7, x7), (6, x6), (1, x1), (5, x5), (0, x0)]) h) := by
  kernel_rfl
noncomputable def c8arrrlrborlbr : Code := cR c8arrrlrborlb
noncomputable def c8arrrlrborlbrl : Code := cL c8arrrlrborlbr
noncomputable def p8arrrlrborlbrl (C : CF) (L : Nat) {β : Type} (x7 : Value) (x6 : Value) (x1 : Value) (x5 : Value) (x0 : Value) (h : H) (kn : Value → Value → Value → Value → Value → H → Option β) : Option β :=
  bnd (A.load true 35 x7 h) fun t31 =>
  bnd2 (C 23 [x5, t31] h) fun t32 hq1 =>
  kn x7 x6 x1 x5 x0 hq1
theorem ep8arrrlrborlbrl (C : CF) (L : Nat) {β : Type} (x7 : Value) (x6 : Value) (x1 : Value) (x5 : Value) (x0 : Value) (h : H) (K : Ex → T Value → H → Option β) :
    execK Try.prog C L 0 129 [4] c8arrrlrborlbrl [7, 6, 1, 5, 0] [(1, [6, 1, 5, 0]), (0, [5, 0])] (fs [(7, x7), (6, x6), (1, x1), (5, x5), (0, x0)]) h K =
      p8arrrlrborlbrl C L x7 x6 x1 x5 x0 h (fun x7 x6 x1 x5 x0 h => K .normal (fs [(7, x7), (6, x6), (1, x1), (5, x5), (0, x0)]) h) := by
  kernel_rfl
noncomputable def c8arrrlrborlbrr : Code := cR c8arrrlrborlbr
noncomputable def c8arrrlrborlbrrl : Code := cL c8arrrlrborlbrr
noncomputable def p8arrrlrborlbrrl (C : CF) (L : Nat) {β : Type} (x7 : Value) (x6 : Value) (x1 : Value) (x5 : Value) (x0 : Value) (h : H) (kn : Value → Value → Value → Value → Value → Value → H → Option β) : Option β :=
  kn (.int .i64 0) x7 x6 x1 x5 x0 h
theorem ep8arrrlrborlbrrl (C : CF) (L : Nat) {β : Type} (x7 : Value) (x6 : Value) (x1 : Value) (x5 : Value) (x0 : Value) (h : H) (K : Ex → T Value → H → Option β) :
    execK Try.prog C L 0 129 [4] c8arrrlrborlbrrl [8, 7, 6, 1, 5, 0] [(1, [6, 1, 5, 0]), (0, [5, 0])] (fs [(7, x7), (6, x6), (1, x1), (5, x5), (0, x0)]) h K =
      p8arrrlrborlbrrl C L x7 x6 x1 x5 x0 h (fun x8 x7 x6 x1 x5 x0 h => K .normal (fs [(8, x8), (7, x7), (6, x6), (1, x1), (5, x5), (0, x0)]) h) := by
  kernel_rfl
noncomputable def c8arrrlrborlbrrr : Code := cR c8arrrlrborlbrr
noncomputable def c8arrrlrborlbrrrb : Code := cL c8arrrlrborlbrrr
noncomputable def c8arrrlrborlbrrrbo : Code := cL c8arrrlrborlbrrrb
noncomputable def p8arrrlrborlbrrrbo (C : CF) (L : Nat) {β : Type} (x8 : Value) (x7 : Value) (x6 : Value) (x1 : Value) (x5 : Value) (x0 : Value) (h : H) (kn : Value → Value → Value → Value → Value → Value → H → Option β) (kx2 : Value → Value → Value → Value → H → Option β) : Option β :=
  bnd (A.fieldAddr 4 x7) fun t34 =>
  bnd (A.fieldAddr 22 t34) fun t35 =>
  bnd (A.load false 1 t35 h) fun t36 =>
  bnd (A.lenS t36) fun t37 =>
  bnd (A.bin Try.prog .lss 3 x8 t37) fun t38 =>
  toBK t38 fun b =>
  (bif b then
  bnd (A.fieldAddr 4 x7) fun t41 =>
  bnd (A.fieldAddr 22 t41) fun t42 =>
  bnd (A.load false 1 t42 h) fun t43 =>
  bnd (A.fieldAddr 4 x7) fun t45 =>
  bnd (A.fieldAddr 22 t45) fun t46 =>
  bnd (A.load false 1 t46 h) fun t47 =>
  bnd (A.idxS 2 t47 x8) fun t49 =>
  bnd (A.fieldAddr 1 t49) fun t50 =>
  bnd (A.load false 1 t50 h) fun t51 =>
  bnd (A.bin Try.prog .add 5 t51 x1) fun t53 =>
  bnd (A.idxS 2 t43 x8) fun t54 =>
  bnd (A.fieldAddr 1 t54) fun t55 =>
  bnd (A.store 1 t55 t53 h) fun hq1 =>
  bnd (A.bin Try.prog .add 3 x8 (.int .i64 1)) fun t40 =>
  kn t40 x7 x6 x1 x5 x0 hq1
  else
  kx2 x6 x1 x5 x0 h)
theorem ep8arrrlrborlbrrrbo (C : CF) (L : Nat) {β : Type} (x8 : Value) (x7 : Value) (x6 : Value) (x1 : Value) (x5 : Value) (x0 : Value) (h : H) (K : Ex → T Value → H → Option β) :
    execK Try.prog C L 0 129 [4] c8arrrlrborlbrrrbo [8, 7, 6, 1, 5, 0] [(2, [6, 1, 5, 0]), (1, [6, 1, 5, 0]), (0, [5, 0])] (fs [(8, x8), (7, x7), (6, x6), (1, x1), (5, x5), (0, x0)]) h K =
      p8arrrlrborlbrrrbo C L x8 x7 x6 x1 x5 x0 h (fun x8 x7 x6 x1 x5 x0 h => K .normal (fs [(8, x8), (7, x7), (6, x6), (1, x1), (5, x5), (0, x0)]) h) (fun x6 x1 x5 x0 h => K (.exit 2) (fs [(6, x6), (1, x1), (5, x5), (0, x0)]) h) := by
  kernel_rfl
noncomputable def p8arrrlrborlbrrrbw (C : CF) (L : Nat) {β : Type} (kx2 : Value → Value → Value → Value → H → Option β) : Nat → Value → Value → Value → Value → Value → Value → H → Option β
  | 0, _, _, _, _, _, _, _ => none
  | n + 1, x8, x7, x6, x1, x5, x0, h => p8arrrlrborlbrrrbo C L x8 x7 x6 x1 x5 x0 h (fun x8 x7 x6 x1 x5 x0 h => p8arrrlrborlbrrrbw C L kx2 n x8 x7 x6 x1 x5 x0 h) kx2
theorem ep8arrrlrborlbrrrbw (C : CF) (L : Nat) {β : Type} (K : Ex → T Value → H → Option β) : ∀ (n : Nat) (x8 : Value) (x7 : Value) (x6 : Value) (x1 : Value) (x5 : Value) (x0 : Value) (h : H),
    loopK (fun fr h K => execK Try.prog C L 0 129 [4] c8arrrlrborlbrrrbo [8, 7, 6, 1, 5, 0] [(2, [6, 1, 5, 0]), (1, [6, 1, 5, 0]), (0, [5, 0])] fr h K) n (fs [(8, x8), (7, x7), (6, x6), (1, x1), (5, x5), (0, x0)]) h K =
      p8arrrlrborlbrrrbw C L (fun x6 x1 x5 x0 h => K (.exit 2) (fs [(6, x6), (1, x1), (5, x5), (0, x0)]) h) n x8 x7 x6 x1 x5 x0 h := by
  intro n
  induction n with
  | zero => intros; rfl
  | succ n ih =>
    intros
    simp only [loopK]
    rw [ep8arrrlrborlbrrrbo]
    simp only [seqK, ih]
    rfl
noncomputable def p8arrrlrborlbrrrb (C : CF) (L : Nat) {β : Type} (x8 : Value) (x7 : Value) (x6 : Value) (x1 : Value) (x5 : Value) (x0 : Value) (h : H) (kx2 : Value → Value → Value → Value → H → Option β) : Option β :=
  p8arrrlrborlbrrrbw C L kx2 L x8 x7 x6 x1 x5 x0 h
theorem ep8arrrlrborlbrrrb (C : CF) (L : Nat) {β : Type} (x8 : Value) (x7 : Value) (x6 : Value) (x1 : Value) (x5 : Value) (x0 : Value) (h : H) (K : Ex → T Value → H → Option β) :
    execK Try.prog C L 0 129 [4] c8arrrlrborlbrrrb [6, 1, 5, 0] [(2, [6, 1, 5, 0]), (1, [6, 1, 5, 0]), (0, [5, 0])] (fs [(8, x8), (7, x7), (6, x6), (1, x1), (5, x5), (0, x0)]) h K =
      p8arrrlrborlbrrrb C L x8 x7 x6 x1 x5 x0 h (fun x6 x1 x5 x0 h => K (.exit 2) (fs [(6, x6), (1, x1), (5, x5), (0, x0)]) h) := by
  rw [execK_loop (b := c8arrrlrborlbrrrbo) (fr1 := (fs [(8, x8), (7, x7), (6, x6), (1, x1), (5, x5), (0, x0)])) (by kernel_rfl) (show live [4] c8arrrlrborlbrrrbo [] [(2, [6, 1, 5, 0]), (1, [6, 1, 5, 0]), (0, [5, 0])] = [8, 7, 6, 1, 5, 0] by kernel_rfl) (by kernel_rfl), ep8arrrlrborlbrrrbw]
  rfl
noncomputable def p8arrrlrborlbrrr (C : CF) (L : Nat) {β : Type} (x8 : Value) (x7 : Value) (x6 : Value) (x1 : Value) (x5 : Value) (x0 : Value) (h : H) (kn : Value → Value → Value → Value → H → Option β) : Option β :=
  p8arrrlrborlbrrrb C L x8 x7 x6 x1 x5 x0 h kn
theorem ep8arrrlrborlbrrr (C : CF) (L : Nat) {β : Type} (x8 : Value) (x7 : Value) (x6 : Value) (x1 : Value) (x5 : Value) (x0 : Value) (h : H) (K : Ex → T Value → H → Option β) :
    execK Try.prog C L 0 129 [4] c8arrrlrborlbrrr [6, 1, 5, 0] [(1, [6, 1, 5, 0]), (0, [5, 0])] (fs [(8, x8), (7, x7), (6, x6), (1, x1), (5, x5), (0, x0)]) h K =
      p8arrrlrborlbrrr C L x8 x7 x6 x1 x5 x0 h (fun x6 x1 x5 x0 h => K .normal (fs [(6, x6), (1, x1), (5, x5), (0, x0)]) h) := by
  rw [execK_block (b := c8arrrlrborlbrrrb) (id := 2) (by kernel_rfl), ep8arrrlrborlbrrrb]
  rfl
noncomputable def p8arrrlrborlbrr (C : CF) (L : Nat) {β : Type} (x7 : Value) (x6 : Value) (x1 : Value) (x5 : Value) (x0 : Value) (h : H) (kn : Value → Value → Value → Value → H → Option β) : Option β :=
  p8arrrlrborlbrrl C L x7 x6 x1 x5 x0 h (fun x8 x7 x6 x1 x5 x0 h => p8arrrlrborlbrrr C L x8 x7 x6 x1 x5 x0 h kn)
theorem ep8arrrlrborlbrr (C : CF) (L : Nat) {β : Type} (x7 : Value) (x6 : Value) (x1 : Value) (x5 : Value) (x0 : Value) (h : H) (K : Ex → T Value → H → Option β) :
    execK Try.prog C L 0 129 [4] c8arrrlrborlbrr [6, 1, 5, 0] [(1, [6, 1, 5, 0]), (0, [5, 0])] (fs [(7, x7), (6, x6), (1, x1), (5, x5), (0, x0)]) h K =
      p8arrrlrborlbrr C L x7 x6 x1 x5 x0 h (fun x6 x1 x5 x0 h => K .normal (fs [(6, x6), (1, x1), (5, x5), (0, x0)]) h) := by
  rw [execK_seq (a := c8arrrlrborlbrrl) (b := c8arrrlrborlbrrr) (by kernel_rfl) (show live [4] c8arrrlrborlbrrr [6, 1, 5, 0] [(1, [6, 1, 5, 0]), (0, [5, 0])] = [8, 7, 6, 1, 5, 0] by kernel_rfl), ep8arrrlrborlbrrl]
  simp only [seqK, ep8arrrlrborlbrrr]
  rfl
noncomputable def p8arrrlrborlbr (C : CF) (L : Nat) {β : Type} (x7 : Value) (x6 : Value) (x1 : Value) (x5 : Value) (x0 : Value) (h : H) (kn : Value → Value → Value → Value → H → Option β) : Option β :=
  p8arrrlrborlbrl C L x7 x6 x1 x5 x0 h (fun x7 x6 x1 x5 x0 h => p8arrrlrborlbrr C L x7 x6 x1 x5 x0 h kn)
theorem ep8arrrlrborlbr (C : CF) (L : Nat) {β : Type} (x7 : Value) (x6 : Value) (x1 : Value) (x5 : Value) (x0 : Value) (h : H) (K : Ex → T Value → H → Option β) :
    execK Try.prog C L 0 129 [4] c8arrrlrborlbr [6, 1, 5, 0] [(1, [6, 1, 5, 0]), (0, [5, 0])] (fs [(7, x7), (6, x6), (1, x1), (5, x5), (0, x0)]) h K =
      p8arrrlrborlbr C L x7 x6 x1 x5 x0 h (fun x6 x1 x5 x0 h => K .normal (fs [(6, x6), (1, x1), (5, x5), (0, x0)]) h) := by
  rw [execK_seq (a := c8arrrlrborlbrl) (b := c8arrrlrborlbrr) (by kernel_rfl) (show live [4] c8arrrlrborlbrr [6, 1, 5, 0] [(1, [6, 1, 5, 0]), (0, [5, 0])] = [7, 6, 1, 5, 0] by kernel_rfl), ep8arrrlrborlbrl]
  simp only [seqK, ep8arrrlrborlbrr]
  rfl
noncomputable def p8arrrlrborlb (C : CF) (L : Nat) {β : Type} (x6 : Value) (x1 : Value) (x5 : Value) (x0 : Value) (h : H) (kn : Value → Value → Value → Value → H → Option β) : Option β :=
  p8arrrlrborlbl C L x6 x1 x5 x0 h (fun x7 x6 x1 x5 x0 h => p8arrrlrborlbr C L x7 x6 x1 x5 x0 h kn)
theorem ep8arrrlrborlb (C : CF) (L : Nat) {β : Type} (x6 : Value) (x1 : Value) (x5 : Value) (x0 : Value) (h : H) (K : Ex → T Value → H → Option β) :
    execK Try.prog C L 0 129 [4] c8arrrlrborlb [6, 1, 5, 0] [(1, [6, 1, 5, 0]), (0, [5, 0])] (fs [(6, x6), (1, x1), (5, x5), (0, x0)]) h K =
      p8arrrlrborlb C L x6 x1 x5 x0 h (fun x6 x1 x5 x0 h => K .normal (fs [(6, x6), (1, x1), (5, x5), (0, x0)]) h) := by
  rw [execK_seq (a := c8arrrlrborlbl) (b := c8arrrlrborlbr) (by kernel_rfl) (show live [4] c8arrrlrborlbr [6, 1, 5, 0] [(1, [6, 1, 5, 0]), (0, [5, 0])] = [7, 6, 1, 5, 0] by kernel_rfl), ep8arrrlrborlbl]
  simp only [seqK, ep8arrrlrborlbr]
  rfl
noncomputable def p8arrrlrborl (C : CF) (L : Nat) {β : Type} (x6 : Value) (x1 : Value) (x5 : Value) (x0 : Value) (h : H) (kn : Value → Value → Value → Value → H → Option β) : Option β :=
  p8arrrlrborlb C L x6 x1 x5 x0 h kn
theorem ep8arrrlrborl (C : CF) (L : Nat) {β : Type} (x6 : Value) (x1 : Value) (x5 : Value) (x0 : Value) (h : H) (K : Ex → T Value → H → Option β) :
    execK Try.prog C L 0 129 [4] c8arrrlrborl [6, 1, 5, 0] [(0, [5, 0])] (fs [(6, x6), (1, x1), (5, x5), (0, x0)]) h K =
      p8arrrlrborl C L x6 x1 x5 x0 h (fun x6 x1 x5 x0 h => K .normal (fs [(6, x6), (1, x1), (5, x5), (0, x0)]) h) := by
  rw [execK_block (b := c8arrrlrborlb) (id := 1) (by kernel_rfl), ep8arrrlrborlb]
  rfl
noncomputable def c8arrrlrborr : Code := cR c8arrrlrbor
noncomputable def p8arrrlrborr (C : CF) (L : Nat) {β : Type} (x6 : Value) (x1 : Value) (x5 : Value) (x0 : Value) (h : H) (kn : Value → Value → Value → Value → H → Option β) : Option β :=
  bnd (A.bin Try.prog .add 3 x6 (.int .i64 1)) fun t24 =>
  kn t24 x1 x5 x0 h
theorem ep8arrrlrborr (C : CF) (L : Nat) {β : Type} (x6 : Value) (x1 : Value) (x5 : Value) (x0 : Value) (h : H) (K : Ex → T Value → H → Option β) :
    execK Try.prog C L 0 129 [4] c8arrrlrborr [6, 1, 5, 0] [(0, [5, 0])] (fs [(6, x6), (1, x1), (5, x5), (0, x0)]) h K =
      p8arrrlrborr C L x6 x1 x5 x0 h (fun x6 x1 x5 x0 h => K .normal (fs [(6, x6), (1, x1), (5, x5), (0, x0)]) h) := by
  kernel_rfl
noncomputable def p8arrrlrbor (C : CF) (L : Nat) {β : Type} (x6 : Value) (x1 : Value) (x5 : Value) (x0 : Value) (h : H) (kn : Value → Value → Value → Value → H → Option β) : Option β :=
  p8arrrlrborl C L x6 x1 x5 x0 h (fun x6 x1 x5 x0 h => p8arrrlrborr C L x6 x1 x5 x0 h kn)
theorem ep8arrrlrbor (C : CF) (L : Nat) {β : Type} (x6 : Value) (x1 : Value) (x5 : Value) (x0 : Value) (h : H) (K : Ex → T Value → H → Option β) :
    execK Try.prog C L 0 129 [4] c8arrrlrbor [6, 1, 5, 0] [(0, [5, 0])] (fs [(6, x6), (1, x1), (5, x5), (0, x0)]) h K =
      p8arrrlrbor C L x6 x1 x5 x0 h (fun x6 x1 x5 x0 h => K .normal (fs [(6, x6), (1, x1), (5, x5), (0, x0)]) h) := by
  rw [execK_seq (a := c8arrrlrborl) (b := c8arrrlrborr) (by kernel_rfl) (show live [4] c8arrrlrborr [6, 1, 5, 0] [(0, [5, 0])] = [6, 1, 5, 0] by kernel_rfl), ep8arrrlrborl]
  simp only [seqK, ep8arrrlrborr]
  rfl
noncomputable def p8arrrlrbo (C : CF) (L : Nat) {β : Type} (x6 : Value) (x1 : Value) (x5 : Value) (x0 : Value) (h : H) (kn : Value → Value → Value → Value → H → Option β) (kx0 : Value → Value → H → Option β) : Option β :=
  p8arrrlrbol C L x6 x1 x5 x0 h (fun x6 x1 x5 x0 h => p8arrrlrbor C L x6 x1 x5 x0 h kn) kx0
theorem ep8arrrlrbo (C : CF) (L : Nat) {β : Type} (x6 : Value) (x1 : Value) (x5 : Value) (x0 : Value) (h : H) (K : Ex → T Value → H → Option β) :
    execK Try.prog C L 0 129 [4] c8arrrlrbo [6, 1, 5, 0] [(0, [5, 0])] (fs [(6, x6), (1, x1), (5, x5), (0, x0)]) h K =
      p8arrrlrbo C L x6 x1 x5 x0 h (fun x6 x1 x5 x0 h => K .normal (fs [(6, x6), (1, x1), (5, x5), (0, x0)]) h) (fun x5 x0 h => K (.exit 0) (fs [(5, x5), (0, x0)]) h) := by
  rw [execK_seq (a := c8arrrlrbol) (b := c8arrrlrbor) (by kernel_rfl) (show live [4] c8arrrlrbor [6, 1, 5, 0] [(0, [5, 0])] = [6, 1, 5, 0] by kernel_rfl), ep8arrrlrbol]
  simp only [seqK, ep8arrrlrbor]
  rfl
noncomputable def p8arrrlrbw (C : CF) (L : Nat) {β : Type} (kx0 : Value → Value → H → Option β) : Nat → Value → Value → Value → Value → H → Option β
  | 0, _, _, _, _, _ => none
  | n + 1, x6, x1, x5, x0, h => p8arrrlrbo C L x6 x1 x5 x0 h (fun x6 x1 x5 x0 h => p8arrrlrbw C L kx0 n x6 x1 x5 x0 h) kx0
theorem ep8arrrlrbw (C : CF) (L : Nat) {β : Type} (K : Ex → T Value → H → Option β) : ∀ (n : Nat) (x6 : Value) (x1 : Value) (x5 : Value) (x0 : Value) (h : H),
    loopK (fun fr h K => execK Try.prog C L 0 129 [4] c8arrrlrbo [6, 1, 5, 0] [(0, [5, 0])] fr h K) n (fs [(6, x6), (1, x1), (5, x5), (0, x0)]) h K =
      p8arrrlrbw C L (fun x5 x0 h => K (.exit 0) (fs [(5, x5), (0, x0)]) h) n x6 x1 x5 x0 h := by
  intro n
  induction n with
  | zero => intros; rfl
  | succ n ih =>
    intros
    simp only [loopK]
    rw [ep8arrrlrbo]
    simp only [seqK, ih]
    rfl
noncomputable def p8arrrlrb (C : CF) (L : Nat) {β : Type} (x6 : Value) (x1 : Value) (x5 : Value) (x0 : Value) (h : H) (kx0 : Value → Value → H → Option β) : Option β :=
  p8arrrlrbw C L kx0 L x6 x1 x5 x0 h
theorem ep8arrrlrb (C : CF) (L : Nat) {β : Type} (x6 : Value) (x1 : Value) (x5 : Value) (x0 : Value) (h : H) (K : Ex → T Value → H → Option β) :
    execK Try.prog C L 0 129 [4] c8arrrlrb [5, 0] [(0, [5, 0])] (fs [(6, x6), (1, x1), (5, x5), (0, x0)]) h K =
      p8arrrlrb C L x6 x1 x5 x0 h (fun x5 x0 h => K (.exit 0) (fs [(5, x5), (0, x0)]) h) := by
  rw [execK_loop (b := c8arrrlrbo) (fr1 := (fs [(6, x6), (1, x1), (5, x5), (0, x0)])) (by kernel_rfl) (show live [4] c8arrrlrbo [] [(0, [5, 0])] = [6, 1, 5, 0] by kernel_rfl) (by kernel_rfl), ep8arrrlrbw]
  rfl
noncomputable def p8arrrlr (C : CF) (L : Nat) {β : Type} (x6 : Value) (x1 : Value) (x5 : Value) (x0 : Value) (h : H) (kn : Value → Value → H → Option β) : Option β :=
  p8arrrlrb C L x6 x1 x5 x0 h kn
theorem ep8arrrlr (C : CF) (L : Nat) {β : Type} (x6 : Value) (x1 : Value) (x5 : Value) (x0 : Value) (h : H) (K : Ex → T Value → H → Option β) :
    execK Try.prog C L 0 129 [4] c8arrrlr [5, 0] [] (fs [(6, x6), (1, x1), (5, x5), (0, x0)]) h K =
      p8arrrlr C L x6 x1 x5 x0 h (fun x5 x0 h => K .normal (fs [(5, x5), (0, x0)]) h) := by
  rw [execK_block (b := c8arrrlrb) (id := 0) (by kernel_rfl), ep8arrrlrb]
  rfl
noncomputable def p8arrrl (C : CF) (L : Nat) {β : Type} (x1 : Value) (x5 : Value) (x0 : Value) (h : H) (kn : Value → Value → H → Option β) : Option β :=
  p8arrrll C L x1 x5 x0 h (fun x6 x1 x5 x0 h => p8arrrlr C L x6 x1 x5 x0 h kn)
theorem ep8arrrl (C : CF) (L : Nat) {β : Type} (x1 : Value) (x5 : Value) (x0 : Value) (h : H) (K : Ex → T Value → H → Option β) :
    execK Try.prog C L 0 129 [4] c8arrrl [5, 0] [] (fs [(1, x1), (5, x5), (0, x0)]) h K =
      p8arrrl C L x1 x5 x0 h (fun x5 x0 h => K .normal (fs [(5, x5), (0, x0)]) h) := by
  rw [execK_seq (a := c8arrrll) (b := c8arrrlr) (by kernel_rfl) (show live [4] c8arrrlr [5, 0] [] = [6, 1, 5, 0] by kernel_rfl), ep8arrrll]
  simp only [seqK, ep8arrrlr]
  rfl
noncomputable def c8arrrr : Code := cR c8arrr
noncomputable def c8arrrrl : Code := cL c8arrrr
noncomputable def c8arrrrll : Code := cL c8arrrrl
noncomputable def p8arrrrll (C : CF) (L : Nat) {β : Type} (x5 : Value) (x0 : Value) (h : H) (kn : Value → Value → Value → H → Option β) : Option β :=
  kn (.int .i64 0) x5 x0 h
theorem ep8arrrrll (C : CF) (L : Nat) {β : Type} (x5 : Value) (x0 : Value) (h : H) (K : Ex → T Value → H → Option β) :
    execK Try.prog C L 0 129 [4] c8arrrrll [9, 5, 0] [] (fs [(5, x5), (0, x0)]) h K =
      p8arrrrll C L x5 x0 h (fun x9 x5 x0 h => K .normal (fs [(9, x9), (5, x5), (0, x0)]) h) := by
  kernel_rfl
noncomputable def c8arrrrlr : Code := cR c8arrrrl
noncomputable def c8arrrrlrb : Code := cL c8arrrrlr
noncomputable def c8arrrrlrbo : Code := cL c8arrrrlrb
noncomputable def c8arrrrlrbol : Code := cL c8arrrrlrbo
noncomputable def p8arrrrlrbol (C : CF) (L : Nat) {β : Type} (x9 : Value) (x5 : Value) (x0 : Value) (h : H) (kn : Value → Value → Value → H → Option β) (kx4 : H → Option β) : Option β :=
  bnd (A.bin Try.prog .lss 3 x9 (.int .i64 2)) fun t57 =>
  toBK t57 fun b =>
  (bif b then
  kn x9 x5 x0 h
  else
  kx4 h)
theorem ep8arrrrlrbol (C : CF) (L : Nat) {β : Type} (x9 : Value) (x5 : Value) (x0 : Value) (h : H) (K : Ex → T Value → H → Option β) :
    execK Try.prog C L 0 129 [4] c8arrrrlrbol [9, 5, 0] [(4, [])] (fs [(9, x9), (5, x5), (0, x0)]) h K =
      p8arrrrlrbol C L x9 x5 x0 h (fun x9 x5 x0 h => K .normal (fs [(9, x9), (5, x5), (0, x0)]) h) (fun h => K (.exit 4) (fs []) h) := by
  kernel_rfl
noncomputable def c8arrrrlrbor : Code := cR c8arrrrlrbo
noncomputable def c8arrrrlrborl : Code := cL c8arrrrlrbor
noncomputable def c8arrrrlrborlb : Code := cL c8arrrrlrborl
noncomputable def c8arrrrlrborlbl : Code := cL c8arrrrlrborlb
noncomputable def p8arrrrlrborlbl (C : CF) (L : Nat) {β : Type} (x9 : Value) (x5 : Value) (x0 : Value) (h : H) (kn : Value → Value → Value → Value → H → Option β) : Option β :=
  bnd2 (C 18 [x5] h) fun t61 hq1 =>
  kn t61 x9 x5 x0 hq1
theorem ep8arrrrlrborlbl (C : CF) (L : Nat) {β : Type} (x9 : Value) (x5 : Value) (x0 : Value) (h : H) (K : Ex → T Value → H → Option β) :
    execK Try.prog C L 0 129 [4] c8arrrrlrborlbl [10, 9, 5, 0] [(5, [9, 5, 0]), (4, [])] (fs [(9, x9), (5, x5), (0, x0)]) h K =
      p8arrrrlrborlbl C L x9 x5 x0 h (fun x10 x9 x5 x0 h => K .normal (fs [(10, x10), (9, x9), (5, x5), (0, x0)]) h) := by
  kernel_rfl
noncomputable def c8arrrrlrborlbr : Code := cR c8arrrrlrborlb
noncomputable def c8arrrrlrborlbrl : Code := cL c8arrrrlrborlbr
noncomputable def p8arrrrlrborlbrl (C : CF) (L : Nat) {β : Type} (x10 : Value) (x9 : Value) (x5 : Value) (x0 : Value) (h : H) (kr : Value → H → Option β) (kn : Value → Value → Value → Value → H → Option β) : Option β :=
  bnd (A.lenS x10) fun t63 =>
  bnd (A.lenS x0) fun t65 =>
  bnd (A.bin Try.prog .neq 3 t63 t65) fun t66 =>
  toBK t66 fun b =>
  (bif b then
  kr (.bool false) h
  else
  kn x10 x9 x5 x0 h)
theorem ep8arrrrlrborlbrl (C : CF) (L : Nat) {β : Type} (x10 : Value) (x9 : Value) (x5 : Value) (x0 : Value) (h : H) (K : Ex → T Value → H → Option β) :
    execK Try.prog C L 0 129 [4] c8arrrrlrborlbrl [10, 9, 5, 0] [(5, [9, 5, 0]), (4, [])] (fs [(10, x10), (9, x9), (5, x5), (0, x0)]) h K =
      p8arrrrlrborlbrl C L x10 x9 x5 x0 h (fun x4 h => K .ret (fs [(4, x4)]) h) (fun x10 x9 x5 x0 h => K .normal (fs [(10, x10), (9, x9), (5, x5), (0, x0)]) h) := by
  kernel_rfl
noncomputable def c8arrrrlrborlbrr : Code := cR c8arrrrlrborlbr
noncomputable def c8arrrrlrborlbrrl : Code := cL c8arrrrlrborlbrr
noncomputable def p8arrrrlrborlbrrl (C : CF) (L : Nat) {β : Type} (x10 : Value) (x9 : Value) (x5 : Value) (x0 : Value) (h : H) (kn : Value → Value → Value → Value → Value → H → Option β) : Option β :=
  kn (.int .i64 0) x10 x9 x5 x0 h
theorem ep8arrrrlrborlbrrl (C : CF) (L : Nat) {β : Type} (x10 : Value) (x9 : Value) (x5 : Value) (x0 : Value) (h : H) (K : Ex → T Value → H → Option β) :
    execK Try.prog C L 0 129 [4] c8arrrrlrborlbrrl [11, 10, 9, 5, 0] [(5, [9, 5, 0]), (4, [])] (fs [(10, x10), (9, x9), (5, x5), (0, x0)]) h K =
      p8arrrrlrborlbrrl C L x10 x9 x5 x0 h (fun x11 x10 x9 x5 x0 h => K .normal (fs [(11, x11), (10, x10), (9, x9), (5, x5), (0, x0)]) h) := by
  kernel_rfl
noncomputable def c8arrrrlrborlbrrr : Code := cR c8arrrrlrborlbrr
noncomputable def c8arrrrlrborlbrrrb : Code := cL c8arrrrlrborlbrrr
noncomputable def c8arrrrlrborlbrrrbo : Code := cL c8arrrrlrborlbrrrb
noncomputable def c8arrrrlrborlbrrrbol : Code := cL c8arrrrlrborlbrrrbo
noncomputable def p8arrrrlrborlbrrrbol (C : CF) (L : Nat) {β : Type} (x11 : Value) (x10 : Value) (x9 : Value) (x5 : Value) (x0 : Value) (h : H) (kn : Value → Value → Value → Value → Value → H → Option β) (kx6 : Value → Value → Value → H → Option β) : Option β :=
  bnd (A.lenS x0) fun t69 =>
  bnd (A.bin Try.prog .lss 3 x11 t69) fun t70 =>
  toBK t70 fun b =>
  (bif b then
  kn x11 x10 x9 x5 x0 h
  else
  kx6 x9 x5 x0 h)
theorem ep8arrrrlrborlbrrrbol (C : CF) (L : Nat) {β : Type} (x11 : Value) (x10 : Value) (x9 : Value) (x5 : Value) (x0 : Value) (h : H) (K : Ex → T Value → H → Option β) :
    execK Try.prog C L 0 129 [4] c8arrrrlrborlbrrrbol [11, 10, 9, 5, 0] [(6, [9, 5, 0]), (5, [9, 5, 0]), (4, [])] (fs [(11, x11), (10, x10), (9, x9), (5, x5), (0, x0)]) h K =
      p8arrrrlrborlbrrrbol C L x11 x10 x9 x5 x0 h (fun x11 x10 x9 x5 x0 h => K .normal (fs [(11, x11), (10, x10), (9, x9), (5, x5), (0, x0)]) h) (fun x9 x5 x0 h => K (.exit 6) (fs [(9, x9), (5, x5), (0, x0)]) h) := by
  kernel_rfl
noncomputable def c8arrrrlrborlbrrrbor : Code := cR c8arrrrlrborlbrrrbo
noncomputable def c8arrrrlrborlbrrrborl : Code := cL c8arrrrlrborlbrrrbor
noncomputable def c8arrrrlrborlbrrrborlb : Code := cL c8arrrrlrborlbrrrborl
noncomputable def c8arrrrlrborlbrrrborlbl : Code := cL c8arrrrlrborlbrrrborlb
noncomputable def p8arrrrlrborlbrrrborlbl (C : CF) (L : Nat) {β : Type} (x11 : Value) (x10 : Value) (x9 : Value) (x5 : Value) (x0 : Value) (h : H) (kn : Value → Value → Value → Value → Value → Value → Value → H → Option β) : Option β :=
  bnd2 (C 15 [x5, x11] h) fun t76 hq1 =>
  bnd (A.extract 0 t76) fun t77 =>
  bnd (A.extract 1 t76) fun t78 =>
  toBK t78 fun b =>
  bnd2 (A.box 35 Z36 hq1) fun t12 hq2 =>
  bnd (A.store 35 t12 t77 hq2) fun hq3 =>
  kn (.bool b) t12 x11 x10 x9 x5 x0 hq3
theorem ep8arrrrlrborlbrrrborlbl (C : CF) (L : Nat) {β : Type} (x11 : Value) (x10 : Value) (x9 : Value) (x5 : Value) (x0 : Value) (h : H) (K : Ex → T Value → H → Option β) :
    execK Try.prog C L 0 129 [4] c8arrrrlrborlbrrrborlbl [13, 12, 11, 10, 9, 5, 0] [(7, [11, 10, 9, 5, 0]), (6, [9, 5, 0]), (5, [9, 5, 0]), (4, [])] (fs [(11, x11), (10, x10), (9, x9), (5, x5), (0, x0)]) h K =
      p8arrrrlrborlbrrrborlbl C L x11 x10 x9 x5 x0 h (fun x13 x12 x11 x10 x9 x5 x0 h => K .normal (fs [(13, x13), (12, x12), (11, x11), (10, x10), (9, x9), (5, x5), (0, x0)]) h) := by
  kernel_rfl
noncomputable def c8arrrrlrborlbrrrborlbr : Code := cR c8arrrrlrborlbrrrborlb
noncomputable def c8arrrrlrborlbrrrborlbrl : Code := cL c8arrrrlrborlbrrrborlbr
noncomputable def c8arrrrlrborlbrrrborlbrll : Code := cL c8arrrrlrborlbrrrborlbrl
noncomputable def p8arrrrlrborlbrrrborlbrll (C : CF) (L : Nat) {β : Type} (x13 : Value) (x12 : Value) (x11 : Value) (x10 : Value) (x9 : Value) (x5 : Value) (x0 : Value) (h : H) (kn : Value → Value → Value → Value → Value → Value → Value → H → Option β) : Option β :=
  toBK x13 fun b =>
  bnd (A.un Try.prog .not (.bool b)) fun t80 =>
  toBK t80 fun bq1 =>
  (bif bq1 then
  kn (.bool true) x12 x11 x10 x9 x5 x0 h
  else
  bnd (A.load true 35 x12 h) fun t82 =>
  bnd (A.idxS 35 x0 x11) fun t85 =>
  bnd (A.load true 35 t85 h) fun t86 =>
  bnd2 (C 26 [t82, t86] h) fun t87 hq1 =>
  toBK t87 fun bq2 =>
  bnd (A.un Try.prog .not (.bool bq2)) fun t88 =>
  toBK t88 fun bq3 =>
  (bif bq3 then
  kn (.bool true) x12 x11 x10 x9 x5 x0 hq1
  else
  bnd (A.idxS 35 x10 x11) fun t93 =>
  bnd (A.load true 35 t93 hq1) fun t94 =>
  bnd (A.idxS 35 x0 x11) fun t97 =>
  bnd (A.load true 35 t97 hq1) fun t98 =>
  bnd2 (C 26 [t94, t98] hq1) fun t99 hq2 =>
  toBK t99 fun bq4 =>
  bnd (A.un Try.prog .not (.bool bq4)) fun t100 =>
  toBK t100 fun bq5 =>
  kn (.bool bq5) x12 x11 x10 x9 x5 x0 hq2))
theorem ep8arrrrlrborlbrrrborlbrll (C : CF) (L : Nat) {β : Type} (x13 : Value) (x12 : Value) (x11 : Value) (x10 : Value) (x9 : Value) (x5 : Value) (x0 : Value) (h : H) (K : Ex → T Value → H → Option β) :
    execK Try.prog C L 0 129 [4] c8arrrrlrborlbrrrborlbrll [101, 12, 11, 10, 9, 5, 0] [(7, [11, 10, 9, 5, 0]), (6, [9, 5, 0]), (5, [9, 5, 0]), (4, [])] (fs [(13, x13), (12, x12), (11, x11), (10, x10), (9, x9), (5, x5), (0, x0)]) h K =
      p8arrrrlrborlbrrrborlbrll C L x13 x12 x11 x10 x9 x5 x0 h (fun x101 x12 x11 x10 x9 x5 x0 h => K .normal (fs [(101, x101), (12, x12), (11, x11), (10, x10), (9, x9), (5, x5), (0, x0)]) h) := by
  kernel_rfl
noncomputable def c8arrrrlrborlbrrrborlbrlr : Code := cR c8arrrrlrborlbrrrborlbrl
noncomputable def p8arrrrlrborlbrrrborlbrlr (C : CF) (L : Nat) {β : Type} (x101 : Value) (x12 : Value) (x11 : Value) (x10 : Value) (x9 : Value) (x5 : Value) (x0 : Value) (h : H) (kr : Value → H → Option β) (kn : Value → Value → Value → Value → Value → Value → H → Option β) : Option β :=
  condV x101 (
  kr (.bool false) h) (
  kn x12 x11 x10 x9 x5 x0 h)
theorem ep8arrrrlrborlbrrrborlbrlr (C : CF) (L : Nat) {β : Type} (x101 : Value) (x12 : Value) (x11 : Value) (x10 : Value) (x9 : Value) (x5 : Value) (x0 : Value) (h : H) (K : Ex → T Value → H → Option β) :
    execK Try.prog C L 0 129 [4] c8arrrrlrborlbrrrborlbrlr [12, 11, 10, 9, 5, 0] [(7, [11, 10, 9, 5, 0]), (6, [9, 5, 0]), (5, [9, 5, 0]), (4, [])] (fs [(101, x101), (12, x12), (11, x11), (10, x10), (9, x9), (5, x5), (0, x0)]) h K =
      p8arrrrlrborlbrrrborlbrlr C L x101 x12 x11 x10 x9 x5 x0 h (fun x4 h => K .ret (fs [(4, x4)]) h) (fun x12 x11 x10 x9 x5 x0 h => K .normal (fs [(12, x12), (11, x11), (10, x10), (9, x9), (5, x5), (0, x0)]) h) := by
  kernel_rfl
noncomputable def p8arrrrlrborlbrrrborlbrl (C : CF) (L : Nat) {β : Type} (x13 : Value) (x12 : Value) (x11 : Value) (x10 : Value) (x9 : Value) (x5 : Value) (x0 : Value) (h : H) (kr : Value → H → Option β) (kn : Value → Value → Value → Value → Value → Value → H → Option β) : Option β :=
  p8arrrrlrborlbrrrborlbrll C L x13 x12 x11 x10 x9 x5 x0 h (fun x101 x12 x11 x10 x9 x5 x0 h => p8arrrrlrborlbrrrborlbrlr C L x101 x12 x11 x10 x9 x5 x0 h kr kn)
theorem ep8arrrrlrborlbrrrborlbrl (C : CF) (L : Nat) {β : Type} (x13 : Value) (x12 : Value) (x11 : Value) (x10 : Value) (x9 : Value) (x5 : Value) (x0 : Value) (h : H) (K : Ex → T Value → H → Option β) :
    execK Try.prog C L 0 129 [4] c8arrrrlrborlbrrrborlbrl [12, 11, 10, 9, 5, 0] [(7, [11, 10, 9, 5, 0]), (6, [9, 5, 0]), (5, [9, 5, 0]), (4, [])] (fs [(13, x13), (12, x12), (11, x11), (10, x10), (9, x9), (5, x5), (0, x0)]) h K =
      p8arrrrlrborlbrrrborlbrl C L x13 x12 x11 x10 x9 x5 x0 h (fun x4 h => K .ret (fs [(4, x4)]) h) (fun x12 x11 x10 x9 x5 x0 h => K .normal (fs [(12, x12), (11, x11), (10, x10), (9, x9), (5, x5), (0, x0)]) h) := by
  rw [execK_seq (a := c8arrrrlrborlbrrrborlbrll) (b := c8arrrrlrborlbrrrborlbrlr) (by kernel_rfl) (show live [4] c8arrrrlrborlbrrrborlbrlr [12, 11, 10, 9, 5, 0] [(7, [11, 10, 9, 5, 0]), (6, [9, 5, 0]), (5, [9, 5, 0]), (4, [])] = [101, 12, 11, 10, 9, 5, 0] by kernel_rfl), ep8arrrrlrborlbrrrborlbrll]
  simp only [seqK, ep8arrrrlrborlbrrrborlbrlr]
  rfl
noncomputable def c8arrrrlrborlbrrrborlbrr : Code := cR c8arrrrlrborlbrrrborlbr
noncomputable def c8arrrrlrborlbrrrborlbrrl : Code := cL c8arrrrlrborlbrrrborlbrr
noncomputable def p8arrrrlrborlbrrrborlbrrl (C : CF) (L : Nat) {β : Type} (x12 : Value) (x11 : Value) (x10 : Value) (x9 : Value) (x5 : Value) (x0 : Value) (h : H) (kn : Value → Value → Value → Value → Value → Value → Value → H → Option β) : Option β :=
  kn (.int .i64 0) x12 x11 x10 x9 x5 x0 h
theorem ep8arrrrlrborlbrrrborlbrrl (C : CF) (L : Nat) {β : Type} (x12 : Value) (x11 : Value) (x10 : Value) (x9 : Value) (x5 : Value) (x0 : Value) (h : H) (K : Ex → T Value → H → Option β) :
    execK Try.prog C L 0 129 [4] c8arrrrlrborlbrrrborlbrrl [14, 12, 11, 10, 9, 5, 0] [(7, [11, 10, 9, 5, 0]), (6, [9, 5, 0]), (5, [9, 5, 0]), (4, [])] (fs [(12, x12), (11, x11), (10, x10), (9, x9), (5, x5), (0, x0)]) h K =
      p8arrrrlrborlbrrrborlbrrl C L x12 x11 x10 x9 x5 x0 h (fun x14 x12 x11 x10 x9 x5 x0 h => K .normal (fs [(14, x14), (12, x12), (11, x11), (10, x10), (9, x9), (5, x5), (0, x0)]) h) := by
  kernel_rfl
noncomputable def c8arrrrlrborlbrrrborlbrrr : Code := cR c8arrrrlrborlbrrrborlbrr
noncomputable def c8arrrrlrborlbrrrborlbrrrb : Code := cL c8arrrrlrborlbrrrborlbrrr
noncomputable def c8arrrrlrborlbrrrborlbrrrbo : Code := cL c8arrrrlrborlbrrrborlbrrrb
noncomputable def p8arrrrlrborlbrrrborlbrrrbo (C : CF) (L : Nat) {β : Type} (x14 : Value) (x12 : Value) (x11 : Value) (x10 : Value) (x9 : Value) (x5 : Value) (x0 : Value) (h : H) (kn : Value → Value → Value → Value → Value → Value → Value → H → Option β) (kx8 : Value → Value → Value → Value → Value → H → Option β) : Option β :=
  bnd (A.idxS 35 x0 x11) fun t105 =>
  bnd (A.fieldAddr 4 t105) fun t106 =>
  bnd (A.fieldAddr 22 t106) fun t107 =>
  bnd (A.load false 1 t107 h) fun t108 =>
  bnd (A.lenS t108) fun t109 =>
  bnd (A.bin Try.prog .lss 3 x14 t109) fun t110 =>
  toBK t110 fun b =>
  (bif b then
  bnd (A.fieldAddr 4 x12) fun t113 =>
  bnd (A.fieldAddr 22 t113) fun t114 =>
  bnd (A.load false 1 t114 h) fun t115 =>
  bnd (A.idxS 2 t115 x14) fun t117 =>
  bnd (A.fieldAddr 0 t117) fun t118 =>
  bnd (A.store 1 t118 (.string ⟨⟨[63]⟩⟩) h) fun hq1 =>
  bnd (A.idxS 35 x10 x11) fun t121 =>
  bnd (A.fieldAddr 4 t121) fun t122 =>
  bnd (A.fieldAddr 22 t122) fun t123 =>
  bnd (A.load false 1 t123 hq1) fun t124 =>
  bnd (A.idxS 2 t124 x14) fun t126 =>
  bnd (A.fieldAddr 0 t126) fun t127 =>
  bnd (A.store 1 t127 (.string ⟨⟨[63]⟩⟩) hq1) fun hq2 =>
  bnd (A.bin Try.prog .add 3 x14 (.int .i64 1)) fun t112 =>
  kn t112 x12 x11 x10 x9 x5 x0 hq2
  else
  kx8 x11 x10 x9 x5 x0 h)
theorem ep8arrrrlrborlbrrrborlbrrrbo (C : CF) (L : Nat) {β : Type} (x14 : Value) (x12 : Value) (x11 : Value) (x10 : Value) (x9 : Value) (x5 : Value) (x0 : Value) (h : H) (K : Ex → T Value → H → Option β) :
    execK Try.prog C L 0 129 [4] c8arrrrlrborlbrrrborlbrrrbo [14, 12, 11, 10, 9, 5, 0] [(8, [11, 10, 9, 5, 0]), (7, [11, 10, 9, 5, 0]), (6, [9, 5, 0]), (5, [9, 5, 0]), (4, [])] (fs [(14, x14), (12, x12), (11, x11), (10, x10), (9, x9), (5, x5), (0, x0)]) h K =
      p8arrrrlrborlbrrrborlbrrrbo C L x14 x12 x11 x10 x9 x5 x0 h (fun x14 x12 x11 x10 x9 x5 x0 h => K .normal (fs [(14, x14), (12, x12), (11, x11), (10, x10), (9, x9), (5, x5), (0, x0)]) h) (fun x11 x10 x9 x5 x0 h => K (.exit 8) (fs [(11, x11), (10, x10), (9, x9), (5, x5), (0, x0)]) h) := by
  kernel_rfl
noncomputable def p8arrrrlrborlbrrrborlbrrrbw (C : CF) (L : Nat) {β : Type} (kx8 : Value → Value → Value → Value → Value → H → Option β) : Nat → Value → Value → Value → Value → Value → Value → Value → H → Option β
  | 0, _, _, _, _, _, _, _, _ => none
  | n + 1, x14, x12, x11, x10, x9, x5, x0, h => p8arrrrlrborlbrrrborlbrrrbo C L x14 x12 x11 x10 x9 x5 x0 h (fun x14 x12 x11 x10 x9 x5 x0 h => p8arrrrlrborlbrrrborlbrrrbw C L kx8 n x14 x12 x11 x10 x9 x5 x0 h) kx8
theorem ep8arrrrlrborlbrrrborlbrrrbw (C : CF) (L : Nat) {β : Type} (K : Ex → T Value → H → Option β) : ∀ (n : Nat) (x14 : Value) (x12 : Value) (x11 : Value) (x10 : Value) (x9 : Value) (x5 : Value) (x0 : Value) (h : H),
    loopK (fun fr h K => execK Try.prog C L 0 129 [4] c8arrrrlrborlbrrrborlbrrrbo [14, 12, 11, 10, 9, 5, 0] [(8, [11, 10, 9, 5, 0]), (7, [11, 10, 9, 5, 0]), (6, [9, 5, 0]), (5, [9, 5, 0]), (4, [])] fr h K) n (fs [(14, x14), (12, x12), (11, x11), (10, x10), (9, x9), (5, x5), (0, x0)]) h K =
      p8arrrrlrborlbrrrborlbrrrbw C L (fun x11 x10 x9 x5 x0 h => K (.exit 8) (fs [(11, x11), (10, x10), (9, x9), (5, x5), (0, x0)]) h) n x14 x12 x11 x10 x9 x5 x0 h := by
  intro n
  induction n with
  | zero => intros; rfl
  | succ n ih =>
    intros
    simp only [loopK]
    rw [ep8arrrrlrborlbrrrborlbrrrbo]
    simp only [seqK, ih]
    rfl
noncomputable def p8arrrrlrborlbrrrborlbrrrb (C : CF) (L : Nat) {β : Type} (x14 : Value) (x12 : Value) (x11 : Value) (x10 : Value) (x9 : Value) (x5 : Value) (x0 : Value) (h : H) (kx8 : Value → Value → Value → Value → Value → H → Option β) : Option β :=
  p8arrrrlrborlbrrrborlbrrrbw C L kx8 L x14 x12 x11 x10 x9 x5 x0 h
theorem ep8arrrrlrborlbrrrborlbrrrb (C : CF) (L : Nat) {β : Type} (x14 : Value) (x12 : Value) (x11 : Value) (x10 : Value) (x9 : Value) (x5 : Value) (x0 : Value) (h : H) (K : Ex → T Value → H → Option β) :
    execK Try.prog C L 0 129 [4] c8arrrrlrborlbrrrborlbrrrb [11, 10, 9, 5, 0] [(8, [11, 10, 9, 5, 0]), (7, [11, 10, 9, 5, 0]), (6, [9, 5, 0]), (5, [9, 5, 0]), (4, [])] (fs [(14, x14), (12, x12), (11, x11), (10, x10), (9, x9), (5, x5), (0, x0)]) h K =
      p8arrrrlrborlbrrrborlbrrrb C L x14 x12 x11 x10 x9 x5 x0 h (fun x11 x10 x9 x5 x0 h => K (.exit 8) (fs [(11, x11), (10, x10), (9, x9), (5, x5), (0, x0)]) h) := by
  rw [execK_loop (b := c8arrrrlrborlbrrrborlbrrrbo) (fr1 := (fs [(14, x14), (12, x12), (11, x11), (10, x10), (9, x9), (5, x5), (0, x0)])) (by kernel_rfl) (show live [4] c8arrrrlrborlbrrrborlbrrrbo [] [(8, [11, 10, 9, 5, 0]), (7, [11, 10, 9, 5, 0]), (6, [9, 5, 0]), (5, [9, 5, 0]), (4, [])] = [14, 12, 11, 10, 9, 5, 0] by kernel_rfl) (by kernel_rfl), ep8arrrrlrborlbrrrborlbrrrbw]
  rfl
noncomputable def p8arrrrlrborlbrrrborlbrrr (C : CF) (L : Nat) {β : Type} (x14 : Value) (x12 : Value) (x11 : Value) (x10 : Value) (x9 : Value) (x5 : Value) (x0 : Value) (h : H) (kn : Value → Value → Value → Value → Value → H → Option β) : Option β :=
  p8arrrrlrborlbrrrborlbrrrb C L x14 x12 x11 x10 x9 x5 x0 h kn
theorem ep8arrrrlrborlbrrrborlbrrr (C : CF) (L : Nat) {β : Type} (x14 : Value) (x12 : Value) (x11 : Value) (x10 : Value) (x9 : Value) (x5 : Value) (x0 : Value) (h : H) (K : Ex → T Value → H → Option β) :
    execK Try.prog C L 0 129 [4] c8arrrrlrborlbrrrborlbrrr [11, 10, 9, 5, 0] [(7, [11, 10, 9, 5, 0]), (6, [9, 5, 0]), (5, [9, 5, 0]), (4, [])] (fs [(14, x14), (12, x12), (11, x11), (10, x10), (9, x9), (5, x5), (0, x0)]) h K =
      p8arrrrlrborlbrrrborlbrrr C L x14 x12 x11 x10 x9 x5 x0 h (fun x11 x10 x9 x5 x0 h => K .normal (fs [(11, x11), (10, x10), (9, x9), (5, x5), (0, x0)]) h) := by
  rw [execK_block (b := c8arrrrlrborlbrrrborlbrrrb) (id := 8) (by kernel_rfl), ep8arrrrlrborlbrrrborlbrrrb]
  rfl
noncomputable def p8arrrrlrborlbrrrborlbrr (C : CF) (L : Nat) {β : Type} (x12 : Value) (x11 : Value) (x10 : Value) (x9 : Value) (x5 : Value) (x0 : Value) (h : H) (kn : Value → Value → Value → Value → Value → H → Option β) : Option β :=
  p8arrrrlrborlbrrrborlbrrl C L x12 x11 x10 x9 x5 x0 h (fun x14 x12 x11 x10 x9 x5 x0 h => p8arrrrlrborlbrrrborlbrrr C L x14 x12 x11 x10 x9 x5 x0 h kn)
theorem ep8arrrrlrborlbrrrborlbrr (C : CF) (L : Nat) {β : Type} (x12 : Value) (x11 : Value) (x10 : Value) (x9 : Value) (x5 : Value) (x0 : Value) (h : H) (K : Ex → T Value → H → Option β) :
    execK Try.prog C L 0 129 [4] c8arrrrlrborlbrrrborlbrr [11, 10, 9, 5, 0] [(7, [11, 10, 9, 5, 0]), (6, [9, 5, 0]), (5, [9, 5, 0]), (4, [])] (fs [(12, x12), (11, x11), (10, x10), (9, x9), (5, x5), (0, x0)]) h K =
      p8arrrrlrborlbrrrborlbrr C L x12 x11 x10 x9 x5 x0 h (fun x11 x10 x9 x5 x0 h => K .normal (fs [(11, x11), (10, x10), (9, x9), (5, x5), (0, x0)]) h) := by
  rw [execK_seq (a := c8arrrrlrborlbrrrborlbrrl) (b := c8arrrrlrborlbrrrborlbrrr) (by kernel_rfl) (show live [4] c8arrrrlrborlbrrrborlbrrr [11, 10, 9, 5, 0] [(7, [11, 10, 9, 5, 0]), (6, [9, 5, 0]), (5, [9, 5, 0]), (4, [])] = [14, 12, 11, 10, 9, 5, 0] by kernel_rfl), ep8arrrrlrborlbrrrborlbrrl]
  simp only [seqK, ep8arrrrlrborlbrrrborlbrrr]
  rfl
noncomputable def p8arrrrlrborlbrrrborlbr (C : CF) (L : Nat) {β : Type} (x13 : Value) (x12 : Value) (x11 : Value) (x10 : Value) (x9 : Value) (x5 : Value) (x0 : Value) (h : H) (kn : Value → Value → Value → Value → Value → H → Option β) (kr : Value → H → Option β) : Option β :=
  p8arrrrlrborlbrrrborlbrl C L x13 x12 x11 x10 x9 x5 x0 h kr (fun x12 x11 x10 x9 x5 x0 h => p8arrrrlrborlbrrrborlbrr C L x12 x11 x10 x9 x5 x0 h kn)
theorem ep8arrrrlrborlbrrrborlbr (C : CF) (L : Nat) {β : Type} (x13 : Value) (x12 : Value) (x11 : Value) (x10 : Value) (x9 : Value) (x5 : Value) (x0 : Value) (h : H) (K : Ex → T Value → H → Option β) :
    execK Try.prog C L 0 129 [4] c8arrrrlrborlbrrrborlbr [11, 10, 9, 5, 0] [(7, [11, 10, 9, 5, 0]), (6, [9, 5, 0]), (5, [9, 5, 0]), (4, [])] (fs [(13, x13), (12, x12), (11, x11), (10, x10), (9, x9), (5, x5), (0, x0)]) h K =
      p8arrrrlrborlbrrrborlbr C L x13 x12 x11 x10 x9 x5 x0 h (fun x11 x10 x9 x5 x0 h => K .normal (fs [(11, x11), (10, x10), (9, x9), (5, x5), (0, x0)]) h) (fun x4 h => K .ret (fs [(4, x4)]) h) := by
  rw [execK_seq (a := c8arrrrlrborlbrrrborlbrl) (b := c8arrrrlrborlbrrrborlbrr) (by kernel_rfl) (show live [4] c8arrrrlrborlbrrrborlbrr [11, 10, 9, 5, 0] [(7, [11, 10, 9, 5, 0]), (6, [9, 5, 0]), (5, [9, 5, 0]), (4, [])] = [12, 11, 10, 9, 5, 0] by kernel_rfl), ep8arrrrlrborlbrrrborlbrl]
  simp only [seqK, ep8arrrrlrborlbrrrborlbrr]
  rfl
noncomputable def p8arrrrlrborlbrrrborlb (C : CF) (L : Nat) {β : Type} (x11 : Value) (x10 : Value) (x9 : Value) (x5 : Value) (x0 : Value) (h : H) (kn : Value → Value → Value → Value → Value → H → Option β) (kr : Value → H → Option β) : Option β :=
  p8arrrrlrborlbrrrborlbl C L x11 x10 x9 x5 x0 h (fun x13 x12 x11 x10 x9 x5 x0 h => p8arrrrlrborlbrrrborlbr C L x13 x12 x11 x10 x9 x5 x0 h kn kr)
theorem ep8arrrrlrborlbrrrborlb (C : CF) (L : Nat) {β : Type} (x11 : Value) (x10 : Value) (x9 : Value) (x5 : Value) (x0 : Value) (h : H) (K : Ex → T Value → H → Option β) :
    execK Try.prog C L 0 129 [4] c8arrrrlrborlbrrrborlb [11, 10, 9, 5, 0] [(7, [11, 10, 9, 5, 0]), (6, [9, 5, 0]), (5, [9, 5, 0]), (4, [])] (fs [(11, x11), (10, x10), (9, x9), (5, x5), (0, x0)]) h K =
      p8arrrrlrborlbrrrborlb C L x11 x10 x9 x5 x0 h (fun x11 x10 x9 x5 x0 h => K .normal (fs [(11, x11), (10, x10), (9, x9), (5, x5), (0, x0)]) h) (fun x4 h => K .ret (fs [(4, x4)]) h) := by
  rw [execK_seq (a := c8arrrrlrborlbrrrborlbl) (b := c8arrrrlrborlbrrrborlbr) (by kernel_rfl) (show live [4] c8arrrrlrborlbrrrborlbr [11, 10, 9, 5, 0] [(7, [11, 10, 9, 5, 0]), (6, [9, 5, 0]), (5, [9, 5, 0]), (4, [])] = [13, 12, 11, 10, 9, 5, 0] by kernel_rfl), ep8arrrrlrborlbrrrborlbl]
  simp only [seqK, ep8arrrrlrborlbrrrborlbr]
  rfl
noncomputable def p8arrrrlrborlbrrrborl (C : CF) (L : Nat) {β : Type} (x11 : Value) (x10 : Value) (x9 : Value) (x5 : Value) (x0 : Value) (h : H) (kn : Value → Value → Value → Value → Value → H → Option β) (kr : Value → H → Option β) : Option β :=
  p8arrrrlrborlbrrrborlb C L x11 x10 x9 x5 x0 h kn kr
theorem ep8arrrrlrborlbrrrborl (C : CF) (L : Nat) {β : Type} (x11 : Value) (x10 : Value) (x9 : Value) (x5 : Value) (x0 : Value) (h : H) (K : Ex → T Value → H → Option β) :
    execK Try.prog C L 0 129 [4] c8arrrrlrborlbrrrborl [11, 10, 9, 5, 0] [(6, [9, 5, 0]), (5, [9, 5, 0]), (4, [])] (fs [(11, x11), (10, x10), (9, x9), (5, x5), (0, x0)]) h K =
      p8arrrrlrborlbrrrborl C L x11 x10 x9 x5 x0 h (fun x11 x10 x9 x5 x0 h => K .normal (fs [(11, x11), (10, x10), (9, x9), (5, x5), (0, x0)]) h) (fun x4 h => K .ret (fs [(4, x4)]) h) := by
  rw [execK_block (b := c8arrrrlrborlbrrrborlb) (id := 7) (by kernel_rfl), ep8arrrrlrborlbrrrborlb]
  rfl
noncomputable def c8arrrrlrborlbrrrborr : Code := cR c8arrrrlrborlbrrrbor
noncomputable def p8arrrrlrborlbrrrborr (C : CF) (L : Nat) {β : Type} (x11 : Value) (x10 : Value) (x9 : Value) (x5 : Value) (x0 : Value) (h : H) (kn : Value → Value → Value → Value → Value → H → Option β) : Option β :=
  bnd (A.bin Try.prog .add 3 x11 (.int .i64 1)) fun t72 =>
  kn t72 x10 x9 x5 x0 h
theorem ep8arrrrlrborlbrrrborr (C : CF) (L : Nat) {β : Type} (x11 : Value) (x10 : Value) (x9 : Value) (x5 : Value) (x0 : Value) (h : H) (K : Ex → T Value → H → Option β) :
    execK Try.prog C L 0 129 [4] c8arrrrlrborlbrrrborr [11, 10, 9, 5, 0] [(6, [9, 5, 0]), (5, [9, 5, 0]), (4, [])] (fs [(11, x11), (10, x10), (9, x9), (5, x5), (0, x0)]) h K =
      p8arrrrlrborlbrrrborr C L x11 x10 x9 x5 x0 h (fun x11 x10 x9 x5 x0 h => K .normal (fs [(11, x11), (10, x10), (9, x9), (5, x5), (0, x0)]) h) := by
  kernel_rfl
noncomputable def p8arrrrlrborlbrrrbor (C : CF) (L : Nat) {β : Type} (x11 : Value) (x10 : Value) (x9 : Value) (x5 : Value) (x0 : Value) (h : H) (kn : Value → Value → Value → Value → Value → H → Option β) (kr : Value → H → Option β) : Option β :=
  p8arrrrlrborlbrrrborl C L x11 x10 x9 x5 x0 h (fun x11 x10 x9 x5 x0 h => p8arrrrlrborlbrrrborr C L x11 x10 x9 x5 x0 h kn) kr
theorem ep8arrrrlrborlbrrrbor (C : CF) (L : Nat) {β : Type} (x11 : Value) (x10 : Value) (x9 : Value) (x5 : Value) (x0 : Value) (h : H) (K : Ex → T Value → H → Option β) :
    execK Try.prog C L 0 129 [4] c8arrrrlrborlbrrrbor [11, 10, 9, 5, 0] [(6, [9, 5, 0]), (5, [9, 5, 0]), (4, [])] (fs [(11, x11), (10, x10), (9, x9), (5, x5), (0, x0)]) h K =
      p8arrrrlrborlbrrrbor C L x11 x10 x9 x5 x0 h (fun x11 x10 x9 x5 x0 h => K .normal (fs [(11, x11), (10, x10), (9, x9), (5, x5), (0, x0)]) h) (fun x4 h => K .ret (fs [(4, x4)]) h) := by
  rw [execK_seq (a := c8arrrrlrborlbrrrborl) (b := c8arrrrlrborlbrrrborr) (by kernel_rfl) (show live [4] c8arrrrlrborlbrrrborr [11, 10, 9, 5, 0] [(6, [9, 5, 0]), (5, [9, 5, 0]), (4, [])] = [11, 10, 9, 5, 0] by kernel_rfl), ep8arrrrlrborlbrrrborl]
  simp only [seqK, ep8arrrrlrborlbrrrborr]
  rfl
noncomputable def p8arrrrlrborlbrrrbo (C : CF) (L : Nat) {β : Type} (x11 : Value) (x10 : Value) (x9 : Value) (x5 : Value) (x0 : Value) (h : H) (kn : Value → Value → Value → Value → Value → H → Option β) (kr : Value → H → Option β) (kx6 : Value → Value → Value → H → Option β) : Option β :=
  p8arrrrlrborlbrrrbol C L x11 x10 x9 x5 x0 h (fun x11 x10 x9 x5 x0 h => p8arrrrlrborlbrrrbor C L x11 x10 x9 x5 x0 h kn kr) kx6
theorem ep8arrrrlrborlbrrrbo (C : CF) (L : Nat) {β : Type} (x11 : Value) (x10 : Value) (x9 : Value) (x5 : Value) (x0 : Value) (h : H) (K : Ex → T Value → H → Option β) :
    execK Try.prog C L 0 129 [4] c8arrrrlrborlbrrrbo [11, 10, 9, 5, 0] [(6, [9, 5, 0]), (5, [9, 5, 0]), (4, [])] (fs [(11, x11), (10, x10), (9, x9), (5, x5), (0, x0)]) h K =
      p8arrrrlrborlbrrrbo C L x11 x10 x9 x5 x0 h (fun x11 x10 x9 x5 x0 h => K .normal (fs [(11, x11), (10, x10), (9, x9), (5, x5), (0, x0)]) h) (fun x4 h => K .ret (fs [(4, x4)]) h) (fun x9 x5 x0 h => K (.exit 6) (fs [(9, x9), (5, x5), (0, x0)]) h) := by
  rw [execK_seq (a := c8arrrrlrborlbrrrbol) (b := c8arrrrlrborlbrrrbor) (by kernel_rfl) (show live [4] c8arrrrlrborlbrrrbor [11, 10, 9, 5, 0] [(6, [9, 5, 0]), (5, [9, 5, 0]), (4, [])] = [11, 10, 9, 5, 0] by kernel_rfl), ep8arrrrlrborlbrrrbol]
  simp only [seqK, ep8arrrrlrborlbrrrbor]
  rfl
noncomputable def p8arrrrlrborlbrrrbw (C : CF) (L : Nat) {β : Type} (kr : Value → H → Option β) (kx6 : Value → Value → Value → H → Option β) : Nat → Value → Value → Value → Value → Value → H → Option β
  | 0, _, _, _, _, _, _ => none
  | n + 1, x11, x10, x9, x5, x0, h => p8arrrrlrborlbrrrbo C L x11 x10 x9 x5 x0 h (fun x11 x10 x9 x5 x0 h => p8arrrrlrborlbrrrbw C L kr kx6 n x11 x10 x9 x5 x0 h) kr kx6
theorem ep8arrrrlrborlbrrrbw (C : CF) (L : Nat) {β : Type} (K : Ex → T Value → H → Option β) : ∀ (n : Nat) (x11 : Value) (x10 : Value) (x9 : Value) (x5 : Value) (x0 : Value) (h : H),
    loopK (fun fr h K => execK Try.prog C L 0 129 [4] c8arrrrlrborlbrrrbo [11, 10, 9, 5, 0] [(6, [9, 5, 0]), (5, [9, 5, 0]), (4, [])] fr h K) n (fs [(11, x11), (10, x10), (9, x9), (5, x5), (0, x0)]) h K =
      p8arrrrlrborlbrrrbw C L (fun x4 h => K .ret (fs [(4, x4)]) h) (fun x9 x5 x0 h => K (.exit 6) (fs [(9, x9), (5, x5), (0, x0)]) h) n x11 x10 x9 x5 x0 h := by
  intro n
  induction n with
  | zero => intros; rfl
  | succ n ih =>
    intros
    simp only [loopK]
    rw [ep8arrrrlrborlbrrrbo]
    simp only [seqK, ih]
    rfl
noncomputable def p8arrrrlrborlbrrrb (C : CF) (L : Nat) {β : Type} (x11 : Value) (x10 : Value) (x9 : Value) (x5 : Value) (x0 : Value) (h : H) (kr : Value → H → Option β) (kx6 : Value → Value → Value → H → Option β) : Option β :=
  p8arrrrlrborlbrrrbw C L kr kx6 L x11 x10 x9 x5 x0 h
theorem ep8arrrrlrborlbrrrb (C : CF) (L : Nat) {β : Type} (x11 : Value) (x10 : Value) (x9 : Value) (x5 : Value) (x0 : Value) (h : H) (K : Ex → T Value → H → Option β) :
    execK Try.prog C L 0 129 [4] c8arrrrlrborlbrrrb [9, 5, 0] [(6, [9, 5, 0]), (5, [9, 5, 0]), (4, [])] (fs [(11, x11), (10, x10), (9, x9), (5, x5), (0, x0)]) h K =
      p8arrrrlrborlbrrrb C L x11 x10 x9 x5 x0 h (fun x4 h => K .ret (fs [(4, x4)]) h) (fun x9 x5 x0 h => K (.exit 6) (fs [(9, x9), (5, x5), (0, x0)]) h) := by
  rw [execK_loop (b := c8arrrrlrborlbrrrbo) (fr1 := (fs [(11, x11), (10, x10), (9, x9), (5, x5), (0, x0)])) (by kernel_rfl) (show live [4] c8arrrrlrborlbrrrbo [] [(6, [9, 5, 0]), (5, [9, 5, 0]), (4, [])] = [11, 10, 9, 5, 0] by kernel_rfl) (by kernel_rfl), ep8arrrrlrborlbrrrbw]
  rfl
noncomputable def p8arrrrlrborlbrrr (C : CF) (L : Nat) {β : Type} (x11 : Value) (x10 : Value) (x9 : Value) (x5 : Value) (x0 : Value) (h : H) (kr : Value → H → Option β) (kn : Value → Value → Value → H → Option β) : Option β :=
  p8arrrrlrborlbrrrb C L x11 x10 x9 x5 x0 h kr kn
theorem ep8arrrrlrborlbrrr (C : CF) (L : Nat) {β : Type} (x11 : Value) (x10 : Value) (x9 : Value) (x5 : Value) (x0 : Value) (h : H) (K : Ex → T Value → H → Option β) :
    execK Try.prog C L 0 129 [4] c8arrrrlrborlbrrr [9, 5, 0] [(5, [9, 5, 0]), (4, [])] (fs [(11, x11), (10, x10), (9, x9), (5, x5), (0, x0)]) h K =
      p8arrrrlrborlbrrr C L x11 x10 x9 x5 x0 h (fun x4 h => K .ret (fs [(4, x4)]) h) (fun x9 x5 x0 h => K .normal (fs [(9, x9), (5, x5), (0, x0)]) h) := by
  rw [execK_block (b := c8arrrrlrborlbrrrb) (id := 6) (by kernel_rfl), ep8arrrrlrborlbrrrb]
  rfl
noncomputable def p8arrrrlrborlbrr (C : CF) (L : Nat) {β : Type} (x10 : Value) (x9 : Value) (x5 : Value) (x0 : Value) (h : H) (kr : Value → H → Option β) (kn : Value → Value → Value → H → Option β) : Option β :=
  p8arrrrlrborlbrrl C L x10 x9 x5 x0 h (fun x11 x10 x9 x5 x0 h => p8arrrrlrborlbrrr C L x11 x10 x9 x5 x0 h kr kn)
theorem ep8arrrrlrborlbrr (C : CF) (L : Nat) {β : Type} (x10 : Value) (x9 : Value) (x5 : Value) (x0 : Value) (h : H) (K : Ex → T Value → H → Option β) :
    execK Try.prog C L 0 129 [4] c8arrrrlrborlbrr [9, 5, 0] [(5, [9, 5, 0]), (4, [])] (fs [(10, x10), (9, x9), (5, x5), (0, x0)]) h K =
      p8arrrrlrborlbrr C L x10 x9 x5 x0 h (fun x4 h => K .ret (fs [(4, x4)]) h) (fun x9 x5 x0 h => K .normal (fs [(9, x9), (5, x5), (0, x0)]) h) := by
  rw [execK_seq (a := c8arrrrlrborlbrrl) (b := c8arrrrlrborlbrrr) (by kernel_rfl) (show live [4] c8arrrrlrborlbrrr [9, 5, 0] [(5, [9, 5, 0]), (4, [])] = [11, 10, 9, 5, 0] by kernel_rfl), ep8arrrrlrborlbrrl]
  simp only [seqK, ep8arrrrlrborlbrrr]
  rfl
noncomputable def p8arrrrlrborlbr (C : CF) (L : Nat) {β : Type} (x10 : Value) (x9 : Value) (x5 : Value) (x0 : Value) (h : H) (kr : Value → H → Option β) (kn : Value → Value → Value → H → Option β) : Option β :=
  p8arrrrlrborlbrl C L x10 x9 x5 x0 h kr (fun x10 x9 x5 x0 h => p8arrrrlrborlbrr C L x10 x9 x5 x0 h kr kn)
theorem ep8arrrrlrborlbr (C : CF) (L : Nat) {β : Type} (x10 : Value) (x9 : Value) (x5 : Value) (x0 : Value) (h : H) (K : Ex → T Value → H → Option β) :
    execK Try.prog C L 0 129 [4] c8arrrrlrborlbr [9, 5, 0] [(5, [9, 5, 0]), (4, [])] (fs [(10, x10), (9, x9), (5, x5), (0, x0)]) h K =
      p8arrrrlrborlbr C L x10 x9 x5 x0 h (fun x4 h => K .ret (fs [(4, x4)]) h) (fun x9 x5 x0 h => K .normal (fs [(9, x9), (5, x5), (0, x0)]) h) := by
  rw [execK_seq (a := c8arrrrlrborlbrl) (b := c8arrrrlrborlbrr) (by kernel_rfl) (show live [4] c8arrrrlrborlbrr [9, 5, 0] [(5, [9, 5, 0]), (4, [])] = [10, 9, 5, 0] by kernel_rfl), ep8arrrrlrborlbrl]
  simp only [seqK, ep8arrrrlrborlbrr]
  rfl
noncomputable def p8arrrrlrborlb (C : CF) (L : Nat) {β : Type} (x9 : Value) (x5 : Value) (x0 : Value) (h : H) (kr : Value → H → Option β) (kn : Value → Value → Value → H → Option β) : Option β :=
  p8arrrrlrborlbl C L x9 x5 x0 h (fun x10 x9 x5 x0 h => p8arrrrlrborlbr C L x10 x9 x5 x0 h kr kn)
theorem ep8arrrrlrborlb (C : CF) (L : Nat) {β : Type} (x9 : Value) (x5 : Value) (x0 : Value) (h : H) (K : Ex → T Value → H → Option β) :
    execK Try.prog C L 0 129 [4] c8arrrrlrborlb [9, 5, 0] [(5, [9, 5, 0]), (4, [])] (fs [(9, x9), (5, x5), (0, x0)]) h K =
      p8arrrrlrborlb C L x9 x5 x0 h (fun x4 h => K .ret (fs [(4, x4)]) h) (fun x9 x5 x0 h => K .normal (fs [(9, x9), (5, x5), (0, x0)]) h) := by
  rw [execK_seq (a := c8arrrrlrborlbl) (b := c8arrrrlrborlbr) (by kernel_rfl) (show live [4] c8arrrrlrborlbr [9, 5, 0] [(5, [9, 5, 0]), (4, [])] = [10, 9, 5, 0] by kernel_rfl), ep8arrrrlrborlbl]
  simp only [seqK, ep8arrrrlrborlbr]
  rfl
noncomputable def p8arrrrlrborl (C : CF) (L : Nat) {β : Type} (x9 : Value) (x5 : Value) (x0 : Value) (h : H) (kr : Value → H → Option β) (kn : Value → Value → Value → H → Option β) : Option β :=
  p8arrrrlrborlb C L x9 x5 x0 h kr kn
theorem ep8arrrrlrborl (C : CF) (L : Nat) {β : Type} (x9 : Value) (x5 : Value) (x0 : Value) (h : H) (K : Ex → T Value → H → Option β) :
    execK Try.prog C L 0 129 [4] c8arrrrlrborl [9, 5, 0] [(4, [])] (fs [(9, x9), (5, x5), (0, x0)]) h K =
      p8arrrrlrborl C L x9 x5 x0 h (fun x4 h => K .ret (fs [(4, x4)]) h) (fun x9 x5 x0 h => K .normal (fs [(9, x9), (5, x5), (0, x0)]) h) := by
  rw [execK_block (b := c8arrrrlrborlb) (id := 5) (by kernel_rfl), ep8arrrrlrborlb]
  rfl
noncomputable def c8arrrrlrborr : Code := cR c8arrrrlrbor
noncomputable def p8arrrrlrborr (C : CF) (L : Nat) {β : Type} (x9 : Value) (x5 : Value) (x0 : Value) (h : H) (kn : Value → Value → Value → H → Option β) : Option β :=
  bnd (A.bin Try.prog .add 3 x9 (.int .i64 1)) fun t59 =>
  kn t59 x5 x0 h
theorem ep8arrrrlrborr (C : CF) (L : Nat) {β : Type} (x9 : Value) (x5 : Value) (x0 : Value) (h : H) (K : Ex → T Value → H → Option β) :
    execK Try.prog C L 0 129 [4] c8arrrrlrborr [9, 5, 0] [(4, [])] (fs [(9, x9), (5, x5), (0, x0)]) h K =
      p8arrrrlrborr C L x9 x5 x0 h (fun x9 x5 x0 h => K .normal (fs [(9, x9), (5, x5), (0, x0)]) h) := by
  kernel_rfl
noncomputable def p8arrrrlrbor (C : CF) (L : Nat) {β : Type} (x9 : Value) (x5 : Value) (x0 : Value) (h : H) (kn : Value → Value → Value → H → Option β) (kr : Value → H → Option β) : Option β :=
  p8arrrrlrborl C L x9 x5 x0 h kr (fun x9 x5 x0 h => p8arrrrlrborr C L x9 x5 x0 h kn)
theorem ep8arrrrlrbor (C : CF) (L : Nat) {β : Type} (x9 : Value) (x5 : Value) (x0 : Value) (h : H) (K : Ex → T Value → H → Option β) :
    execK Try.prog C L 0 129 [4] c8arrrrlrbor [9, 5, 0] [(4, [])] (fs [(9, x9), (5, x5), (0, x0)]) h K =
      p8arrrrlrbor C L x9 x5 x0 h (fun x9 x5 x0 h => K .normal (fs [(9, x9), (5, x5), (0, x0)]) h) (fun x4 h => K .ret (fs [(4, x4)]) h) := by
  rw [execK_seq (a := c8arrrrlrborl) (b := c8arrrrlrborr) (by kernel_rfl) (show live [4] c8arrrrlrborr [9, 5, 0] [(4, [])] = [9, 5, 0] by kernel_rfl), ep8arrrrlrborl]
  simp only [seqK, ep8arrrrlrborr]
  rfl
noncomputable def p8arrrrlrbo (C : CF) (L : Nat) {β : Type} (x9 : Value) (x5 : Value) (x0 : Value) (h : H) (kn : Value → Value → Value → H → Option β) (kr : Value → H → Option β) (kx4 : H → Option β) : Option β :=
  p8arrrrlrbol C L x9 x5 x0 h (fun x9 x5 x0 h => p8arrrrlrbor C L x9 x5 x0 h kn kr) kx4
theorem ep8arrrrlrbo (C : CF) (L : Nat) {β : Type} (x9 : Value) (x5 : Value) (x0 : Value) (h : H) (K : Ex → T Value → H → Option β) :
    execK Try.prog C L 0 129 [4] c8arrrrlrbo [9, 5, 0] [(4, [])] (fs [(9, x9), (5, x5), (0, x0)]) h K =
      p8arrrrlrbo C L x9 x5 x0 h (fun x9 x5 x0 h => K .normal (fs [(9, x9), (5, x5), (0, x0)]) h) (fun x4 h => K .ret (fs [(4, x4)]) h) (fun h => K (.exit 4) (fs []) h) := by
  rw [execK_seq (a := c8arrrrlrbol) (b := c8arrrrlrbor) (by kernel_rfl) (show live [4] c8arrrrlrbor [9, 5, 0] [(4, [])] = [9, 5, 0] by kernel_rfl), ep8arrrrlrbol]
  simp only [seqK, ep8arrrrlrbor]
  rfl
noncomputable def p8arrrrlrbw (C : CF) (L : Nat) {β : Type} (kr : Value → H → Option β) (kx4 : H → Option β) : Nat → Value → Value → Value → H → Option β
  | 0, _, _, _, _ => none
  | n + 1, x9, x5, x0, h => p8arrrrlrbo C L x9 x5 x0 h (fun x9 x5 x0 h => p8arrrrlrbw C L kr kx4 n x9 x5 x0 h) kr kx4
theorem ep8arrrrlrbw (C : CF) (L : Nat) {β : Type} (K : Ex → T Value → H → Option β) : ∀ (n : Nat) (x9 : Value) (x5 : Value) (x0 : Value) (h : H),
    loopK (fun fr h K => execK Try.prog C L 0 129 [4] c8arrrrlrbo [9, 5, 0] [(4, [])] fr h K) n (fs [(9, x9), (5, x5), (0, x0)]) h K =
      p8arrrrlrbw C L (fun x4 h => K .ret (fs [(4, x4)]) h) (fun h => K (.exit 4) (fs []) h) n x9 x5 x0 h := by
  intro n
  induction n with
  | zero => intros; rfl
  | succ n ih =>
    intros
    simp only [loopK]
    rw [ep8arrrrlrbo]
    simp only [seqK, ih]
    rfl
noncomputable def p8arrrrlrb (C : CF) (L : Nat) {β : Type} (x9 : Value) (x5 : Value) (x0 : Value) (h : H) (kr : Value → H → Option β) (kx4 : H → Option β) : Option β :=
  p8arrrrlrbw C L kr kx4 L x9 x5 x0 h
theorem ep8arrrrlrb (C : CF) (L : Nat) {β : Type} (x9 : Value) (x5 : Value) (x0 : Value) (h : H) (K : Ex → T Value → H → Option β) :
    execK Try.prog C L 0 129 [4] c8arrrrlrb [] [(4, [])] (fs [(9, x9), (5, x5), (0, x0)]) h K =
      p8arrrrlrb C L x9 x5 x0 h (fun x4 h => K .ret (fs [(4, x4)]) h) (fun h => K (.exit 4) (fs []) h) := by
  rw [execK_loop (b := c8arrrrlrbo) (fr1 := (fs [(9, x9), (5, x5), (0, x0)])) (by kernel_rfl) (show live [4] c8arrrrlrbo [] [(4, [])] = [9, 5, 0] by kernel_rfl) (by kernel_rfl), ep8arrrrlrbw]
  rfl
noncomputable def p8arrrrlr (C : CF) (L : Nat) {β : Type} (x9 : Value) (x5 : Value) (x0 : Value) (h : H) (kr : Value → H → Option β) (kn : H → Option β) : Option β :=
  p8arrrrlrb C L x9 x5 x0 h kr kn
theorem ep8arrrrlr (C : CF) (L : Nat) {β : Type} (x9 : Value) (x5 : Value) (x0 : Value) (h : H) (K : Ex → T Value → H → Option β) :
    execK Try.prog C L 0 129 [4] c8arrrrlr [] [] (fs [(9, x9), (5, x5), (0, x0)]) h K =
      p8arrrrlr C L x9 x5 x0 h (fun x4 h => K .ret (fs [(4, x4)]) h) (fun h => K .normal (fs []) h) := by
  rw [execK_block (b := c8arrrrlrb) (id := 4) (by kernel_rfl), ep8arrrrlrb]
  rfl
noncomputable def p8arrrrl (C : CF) (L : Nat) {β : Type} (x5 : Value) (x0 : Value) (h : H) (kr : Value → H → Option β) (kn : H → Option β) : Option β :=
  p8arrrrll C L x5 x0 h (fun x9 x5 x0 h => p8arrrrlr C L x9 x5 x0 h kr kn)
theorem ep8arrrrl (C : CF) (L : Nat) {β : Type} (x5 : Value) (x0 : Value) (h : H) (K : Ex → T Value → H → Option β) :
    execK Try.prog C L 0 129 [4] c8arrrrl [] [] (fs [(5, x5), (0, x0)]) h K =
      p8arrrrl C L x5 x0 h (fun x4 h => K .ret (fs [(4, x4)]) h) (fun h => K .normal (fs []) h) := by
  rw [execK_seq (a := c8arrrrll) (b := c8arrrrlr) (by kernel_rfl) (show live [4] c8arrrrlr [] [] = [9, 5, 0] by kernel_rfl), ep8arrrrll]
  simp only [seqK, ep8arrrrlr]
  rfl
noncomputable def c8arrrrr : Code := cR c8arrrr
noncomputable def p8arrrrr (C : CF) (L : Nat) {β : Type} (h : H) (kr : Value → H → Option β) : Option β :=
  bnd2 (C 10 [] h) fun t128 hq1 =>
  toBK t128 fun b =>
  kr (.bool b) hq1
theorem ep8arrrrr (C : CF) (L : Nat) {β : Type} (h : H) (K : Ex → T Value → H → Option β) :
    execK Try.prog C L 0 129 [4] c8arrrrr [4] [] (fs []) h K =
      p8arrrrr C L h (fun x4 h => K .ret (fs [(4, x4)]) h) := by
  kernel_rfl
noncomputable def p8arrrr (C : CF) (L : Nat) {β : Type} (x5 : Value) (x0 : Value) (h : H) (kr : Value → H → Option β) : Option β :=
  p8arrrrl C L x5 x0 h kr (fun h => p8arrrrr C L h kr)
theorem ep8arrrr (C : CF) (L : Nat) {β : Type} (x5 : Value) (x0 : Value) (h : H) (K : Ex → T Value → H → Option β) :
    execK Try.prog C L 0 129 [4] c8arrrr [4] [] (fs [(5, x5), (0, x0)]) h K =
      p8arrrr C L x5 x0 h (fun x4 h => K .ret (fs [(4, x4)]) h) := by
  rw [execK_seq (a := c8arrrrl) (b := c8arrrrr) (by kernel_rfl) (show live [4] c8arrrrr [4] [] = [] by kernel_rfl), ep8arrrrl]
  simp only [seqK, ep8arrrrr]
  rfl
noncomputable def p8arrr (C : CF) (L : Nat) {β : Type} (x1 : Value) (x5 : Value) (x0 : Value) (h : H) (kr : Value → H → Option β) : Option β :=
  p8arrrl C L x1 x5 x0 h (fun x5 x0 h => p8arrrr C L x5 x0 h kr)
theorem ep8arrr (C : CF) (L : Nat) {β : Type} (x1 : Value) (x5 : Value) (x0 : Value) (h : H) (K : Ex → T Value → H → Option β) :
    execK Try.prog C L 0 129 [4] c8arrr [4] [] (fs [(1, x1), (5, x5), (0, x0)]) h K =
      p8arrr C L x1 x5 x0 h (fun x4 h => K .ret (fs [(4, x4)]) h) := by
  rw [execK_seq (a := c8arrrl) (b := c8arrrr) (by kernel_rfl) (show live [4] c8arrrr [4] [] = [5, 0] by kernel_rfl), ep8arrrl]
  simp only [seqK, ep8arrrr]
  rfl
noncomputable def p8arr (C : CF) (L : Nat) {β : Type} (x1 : Value) (x0 : Value) (h : H) (kr : Value → H → Option β) : Option β :=
  p8arrl C L x1 x0 h (fun x1 x5 x0 h => p8arrr C L x1 x5 x0 h kr)
theorem ep8arr (C : CF) (L : Nat) {β : Type} (x1 : Value) (x0 : Value) (h : H) (K : Ex → T Value → H → Option β) :
    execK Try.prog C L 0 129 [4] c8arr [4] [] (fs [(1, x1), (0, x0)]) h K =
      p8arr C L x1 x0 h (fun x4 h => K .ret (fs [(4, x4)]) h) := by
  rw [execK_seq (a := c8arrl) (b := c8arrr) (by kernel_rfl) (show live [4] c8arrr [4] [] = [1, 5, 0] by kernel_rfl), ep8arrl]
  simp only [seqK, ep8arrr]
  rfl
noncomputable def p8ar (C : CF) (L : Nat) {β : Type} (x1 : Value) (x0 : Value) (h : H) (kr : Value → H → Option β) : Option β :=
  p8arl C L x1 x0 h kr (fun x1 x0 h => p8arr C L x1 x0 h kr)
theorem ep8ar (C : CF) (L : Nat) {β : Type} (x1 : Value) (x0 : Value) (h : H) (K : Ex → T Value → H → Option β) :
    execK Try.prog C L 0 129 [4] c8ar [4] [] (fs [(1, x1), (0, x0)]) h K =
      p8ar C L x1 x0 h (fun x4 h => K .ret (fs [(4, x4)]) h) := by
  rw [execK_seq (a := c8arl) (b := c8arr) (by kernel_rfl) (show live [4] c8arr [4] [] = [1, 0] by kernel_rfl), ep8arl]
  simp only [seqK, ep8arr]
  rfl
noncomputable def p8a (C : CF) (L : Nat) {β : Type} (x0 : Value) (x1 : Value) (h : H) (kr : Value → H → Option β) : Option β :=
  p8al C L x0 x1 h (fun x1 x0 h => p8ar C L x1 x0 h kr)
theorem ep8a (C : CF) (L : Nat) {β : Type} (x0 : Value) (x1 : Value) (h : H) (K : Ex → T Value → H → Option β) :
    execK Try.prog C L 0 129 [4] c8a [4] [] (fs [(0, x0), (1, x1)]) h K =
      p8a C L x0 x1 h (fun x4 h => K .ret (fs [(4, x4)]) h) := by
  rw [execK_seq (a := c8al) (b := c8ar) (by kernel_rfl) (show live [4] c8ar [4] [] = [1, 0] by kernel_rfl), ep8al]
  simp only [seqK, ep8ar]
  rfl
noncomputable def F8 (C : CF) (L : Nat) (x0 : Value) (x1 : Value) (h : H) : Option (Value × H) :=
  p8a C L x0 x1 h
    (fun x4 h => some (x4, h))
theorem F8eq (O : List FuncId) (hO : O.any (Nat.beq 8) = false) (n : Nat) (x0 : Value) (x1 : Value) (h : H) : callB Try.prog 0 O (n + 1) 8 [x0, x1] h = F8 (callB Try.prog 0 O n) n x0 x1 h := by
  rw [callB_eq hO (c := c8a) (nt := 129) (RR := [4]) (fr := (fs [(0, x0), (1, x1)])) Try.func8 (by kernel_rfl) (by kernel_rfl) (by kernel_rfl) (by kernel_rfl) (by kernel_rfl), ep8a]
  kernel_rfl

/-! F9: relayhouse/relayhouselaw17.Great -/
noncomputable def c9a : Code := (Try.f9.body).getD .skip
noncomputable def c9al : Code := cL c9a
noncomputable def p9al (C : CF) (L : Nat) {β : Type} (x0 : Value) (h : H) (kn : Value → H → Option β) : Option β :=
  kn x0 h
theorem ep9al (C : CF) (L : Nat) {β : Type} (x0 : Value) (h : H) (K : Ex → T Value → H → Option β) :
    execK Try.prog C L 0 94 [2] c9al [0] [] (fs [(0, x0)]) h K =
      p9al C L x0 h (fun x0 h => K .normal (fs [(0, x0)]) h) := by
  kernel_rfl
noncomputable def c9ar : Code := cR c9a
noncomputable def c9arl : Code := cL c9ar
noncomputable def c9arll : Code := cL c9arl
noncomputable def p9arll (C : CF) (L : Nat) {β : Type} (x0 : Value) (h : H) (kn : Value → Value → H → Option β) : Option β :=
  kn (.int .i64 0) x0 h
theorem ep9arll (C : CF) (L : Nat) {β : Type} (x0 : Value) (h : H) (K : Ex → T Value → H → Option β) :
    execK Try.prog C L 0 94 [2] c9arll [3, 0] [] (fs [(0, x0)]) h K =
      p9arll C L x0 h (fun x3 x0 h => K .normal (fs [(3, x3), (0, x0)]) h) := by
  kernel_rfl
noncomputable def c9arlr : Code := cR c9arl
noncomputable def c9arlrb : Code := cL c9arlr
noncomputable def c9arlrbo : Code := cL c9arlrb
noncomputable def c9arlrbol : Code := cL c9arlrbo
noncomputable def p9arlrbol (C : CF) (L : Nat) {β : Type} (x3 : Value) (x0 : Value) (h : H) (kn : Value → Value → H → Option β) (kx0 : Value → H → Option β) : Option β :=
  bnd (A.lenS x0) fun t10 =>
  bnd (A.bin Try.prog .lss 3 x3 t10) fun t11 =>
  toBK t11 fun b =>
  (bif b then
  kn x3 x0 h
  else
  kx0 x0 h)
theorem ep9arlrbol (C : CF) (L : Nat) {β : Type} (x3 : Value) (x0 : Value) (h : H) (K : Ex → T Value → H → Option β) :
    execK Try.prog C L 0 94 [2] c9arlrbol [3, 0] [(0, [0])] (fs [(3, x3), (0, x0)]) h K =
      p9arlrbol C L x3 x0 h (fun x3 x0 h => K .normal (fs [(3, x3), (0, x0)]) h) (fun x0 h => K (.exit 0) (fs [(0, x0)]) h) := by
  kernel_rfl
noncomputable def c9arlrbor : Code := cR c9arlrbo
noncomputable def c9arlrborl : Code := cL c9arlrbor
noncomputable def c9arlrborlb : Code := cL c9arlrborl
noncomputable def c9arlrborlbl : Code := cL c9arlrborlb
noncomputable def p9arlrborlbl (C : CF) (L : Nat) {β : Type} (x3 : Value) (x0 : Value) (h : H) (kn : Value → Value → Value → H → Option β) : Option β :=
  bnd (A.idxS 35 x0 x3) fun t16 =>
  bnd (A.fieldAddr 4 t16) fun t17 =>
  bnd (A.load true 24 t17 h) fun t18 =>
  bnd2 (A.box 24 Z34 h) fun t4 hq1 =>
  bnd (A.store 24 t4 t18 hq1) fun hq2 =>
  kn t4 x3 x0 hq2
theorem ep9arlrborlbl (C : CF) (L : Nat) {β : Type} (x3 : Value) (x0 : Value) (h : H) (K : Ex → T Value → H → Option β) :
    execK Try.prog C L 0 94 [2] c9arlrborlbl [4, 3, 0] [(1, [3, 0]), (0, [0])] (fs [(3, x3), (0, x0)]) h K =
      p9arlrborlbl C L x3 x0 h (fun x4 x3 x0 h => K .normal (fs [(4, x4), (3, x3), (0, x0)]) h) := by
  kernel_rfl
noncomputable def c9arlrborlbr : Code := cR c9arlrborlb
noncomputable def c9arlrborlbrl : Code := cL c9arlrborlbr
noncomputable def p9arlrborlbrl (C : CF) (L : Nat) {β : Type} (x4 : Value) (x3 : Value) (x0 : Value) (h : H) (kn : Value → Value → Value → Value → H → Option β) : Option β :=
  bnd (A.idxS 35 x0 x3) fun t21 =>
  bnd (A.fieldAddr 3 t21) fun t22 =>
  bnd (A.load false 1 t22 h) fun t23 =>
  bnd (A.idxS 35 x0 x3) fun t26 =>
  bnd (A.fieldAddr 32 t26) fun t27 =>
  bnd (A.load false 1 t27 h) fun t28 =>
  bnd (A.idxS 35 x0 x3) fun t31 =>
  bnd (A.fieldAddr 28 t31) fun t32 =>
  bnd (A.fieldAddr 0 t32) fun t33 =>
  bnd (A.load false 1 t33 h) fun t34 =>
  bnd (A.idxS 35 x0 x3) fun t37 =>
  bnd (A.fieldAddr 28 t37) fun t38 =>
  bnd (A.fieldAddr 1 t38) fun t39 =>
  bnd (A.load false 1 t39 h) fun t40 =>
  bnd (A.fieldAddr 5 x4) fun t41 =>
  bnd (A.load false 1 t41 h) fun t42 =>
  bnd (A.fieldAddr 6 x4) fun t43 =>
  bnd (A.load false 1 t43 h) fun t44 =>
  bnd (A.fieldAddr 10 x4) fun t45 =>
  bnd (A.load false 1 t45 h) fun t46 =>
  bnd (A.fieldAddr 12 x4) fun t47 =>
  bnd (A.fieldAddr 0 t47) fun t48 =>
  bnd (A.load false 1 t48 h) fun t49 =>
  bnd (A.fieldAddr 12 x4) fun t50 =>
  bnd (A.fieldAddr 1 t50) fun t51 =>
  bnd (A.load false 1 t51 h) fun t52 =>
  bnd (A.fieldAddr 18 x4) fun t53 =>
  bnd (A.load false 1 t53 h) fun t54 =>
  bnd (A.fieldAddr 19 x4) fun t55 =>
  bnd (A.load false 1 t55 h) fun t56 =>
  bnd (A.fieldAddr 23 x4) fun t57 =>
  bnd (A.load false 1 t57 h) fun t58 =>
  bnd2 (A.buildSlice 1 12 Z9L [(0, 1, t23), (1, 1, t28), (2, 1, t34), (3, 1, t40), (4, 1, t42), (5, 1, t44), (6, 1, t46), (7, 1, t49), (8, 1, t52), (9, 1, t54), (10, 1, t56), (11, 1, t58)] h) fun t59 hq1 =>
  kn t59 x4 x3 x0 hq1
theorem ep9arlrborlbrl (C : CF) (L : Nat) {β : Type} (x4 : Value) (x3 : Value) (x0 : Value) (h : H) (K : Ex → T Value → H → Option β) :
    execK Try.prog C L 0 94 [2] c9arlrborlbrl [5, 4, 3, 0] [(1, [3, 0]), (0, [0])] (fs [(4, x4), (3, x3), (0, x0)]) h K =
      p9arlrborlbrl C L x4 x3 x0 h (fun x5 x4 x3 x0 h => K .normal (fs [(5, x5), (4, x4), (3, x3), (0, x0)]) h) := by
  kernel_rfl
noncomputable def c9arlrborlbrr : Code := cR c9arlrborlbr
noncomputable def c9arlrborlbrrl : Code := cL c9arlrborlbrr
noncomputable def c9arlrborlbrrll : Code := cL c9arlrborlbrrl
noncomputable def p9arlrborlbrrll (C : CF) (L : Nat) {β : Type} (x5 : Value) (x4 : Value) (x3 : Value) (x0 : Value) (h : H) (kn : Value → Value → Value → Value → Value → H → Option β) : Option β :=
  kn (.int .i64 0) x5 x4 x3 x0 h
theorem ep9arlrborlbrrll (C : CF) (L : Nat) {β : Type} (x5 : Value) (x4 : Value) (x3 : Value) (x0 : Value) (h : H) (K : Ex → T Value → H → Option β) :
    execK Try.prog C L 0 94 [2] c9arlrborlbrrll [6, 5, 4, 3, 0] [(1, [3, 0]), (0, [0])] (fs [(5, x5), (4, x4), (3, x3), (0, x0)]) h K =
      p9arlrborlbrrll C L x5 x4 x3 x0 h (fun x6 x5 x4 x3 x0 h => K .normal (fs [(6, x6), (5, x5), (4, x4), (3, x3), (0, x0)]) h) := by
  kernel_rfl
noncomputable def c9arlrborlbrrlr : Code := cR c9arlrborlbrrl
noncomputable def c9arlrborlbrrlrb : Code := cL c9arlrborlbrrlr
noncomputable def c9arlrborlbrrlrbo : Code := cL c9arlrborlbrrlrb
noncomputable def p9arlrborlbrrlrbo (C : CF) (L : Nat) {β : Type} (x6 : Value) (x5 : Value) (x4 : Value) (x3 : Value) (x0 : Value) (h : H) (kr : Value → H → Option β) (kn : Value → Value → Value → Value → Value → H → Option β) (kx2 : Value → Value → Value → H → Option β) : Option β :=
  bnd (A.lenS x5) fun t62 =>
  bnd (A.bin Try.prog .lss 3 x6 t62) fun t63 =>
  toBK t63 fun b =>
  (bif b then
  bnd (A.idxS 1 x5 x6) fun t68 =>
  bnd (A.load false 1 t68 h) fun t69 =>
  bnd (A.lenStr t69) fun t70 =>
  bnd (A.bin Try.prog .gtr 3 t70 (.int .i64 300)) fun t71 =>
  toBK t71 fun bq1 =>
  (bif bq1 then
  kr (.bool true) h
  else
  bnd (A.bin Try.prog .add 3 x6 (.int .i64 1)) fun t65 =>
  kn t65 x5 x4 x3 x0 h)
  else
  kx2 x4 x3 x0 h)
theorem ep9arlrborlbrrlrbo (C : CF) (L : Nat) {β : Type} (x6 : Value) (x5 : Value) (x4 : Value) (x3 : Value) (x0 : Value) (h : H) (K : Ex → T Value → H → Option β) :
    execK Try.prog C L 0 94 [2] c9arlrborlbrrlrbo [6, 5, 4, 3, 0] [(2, [4, 3, 0]), (1, [3, 0]), (0, [0])] (fs [(6, x6), (5, x5), (4, x4), (3, x3), (0, x0)]) h K =
      p9arlrborlbrrlrbo C L x6 x5 x4 x3 x0 h (fun x2 h => K .ret (fs [(2, x2)]) h) (fun x6 x5 x4 x3 x0 h => K .normal (fs [(6, x6), (5, x5), (4, x4), (3, x3), (0, x0)]) h) (fun x4 x3 x0 h => K (.exit 2) (fs [(4, x4), (3, x3), (0, x0)]) h) := by
  kernel_rfl
noncomputable def p9arlrborlbrrlrbw (C : CF) (L : Nat) {β : Type} (kr : Value → H → Option β) (kx2 : Value → Value → Value → H → Option β) : Nat → Value → Value → Value → Value → Value → H → Option β
  | 0, _, _, _, _, _, _ => none
  | n + 1, x6, x5, x4, x3, x0, h => p9arlrborlbrrlrbo C L x6 x5 x4 x3 x0 h kr (fun x6 x5 x4 x3 x0 h => p9arlrborlbrrlrbw C L kr kx2 n x6 x5 x4 x3 x0 h) kx2
theorem ep9arlrborlbrrlrbw (C : CF) (L : Nat) {β : Type} (K : Ex → T Value → H → Option β) : ∀ (n : Nat) (x6 : Value) (x5 : Value) (x4 : Value) (x3 : Value) (x0 : Value) (h : H),
    loopK (fun fr h K => execK Try.prog C L 0 94 [2] c9arlrborlbrrlrbo [6, 5, 4, 3, 0] [(2, [4, 3, 0]), (1, [3, 0]), (0, [0])] fr h K) n (fs [(6, x6), (5, x5), (4, x4), (3, x3), (0, x0)]) h K =
      p9arlrborlbrrlrbw C L (fun x2 h => K .ret (fs [(2, x2)]) h) (fun x4 x3 x0 h => K (.exit 2) (fs [(4, x4), (3, x3), (0, x0)]) h) n x6 x5 x4 x3 x0 h := by
  intro n
  induction n with
  | zero => intros; rfl
  | succ n ih =>
    intros
    simp only [loopK]
    rw [ep9arlrborlbrrlrbo]
    simp only [seqK, ih]
    rfl
noncomputable def p9arlrborlbrrlrb (C : CF) (L : Nat) {β : Type} (x6 : Value) (x5 : Value) (x4 : Value) (x3 : Value) (x0 : Value) (h : H) (kr : Value → H → Option β) (kx2 : Value → Value → Value → H → Option β) : Option β :=
  p9arlrborlbrrlrbw C L kr kx2 L x6 x5 x4 x3 x0 h
theorem ep9arlrborlbrrlrb (C : CF) (L : Nat) {β : Type} (x6 : Value) (x5 : Value) (x4 : Value) (x3 : Value) (x0 : Value) (h : H) (K : Ex → T Value → H → Option β) :
    execK Try.prog C L 0 94 [2] c9arlrborlbrrlrb [4, 3, 0] [(2, [4, 3, 0]), (1, [3, 0]), (0, [0])] (fs [(6, x6), (5, x5), (4, x4), (3, x3), (0, x0)]) h K =
      p9arlrborlbrrlrb C L x6 x5 x4 x3 x0 h (fun x2 h => K .ret (fs [(2, x2)]) h) (fun x4 x3 x0 h => K (.exit 2) (fs [(4, x4), (3, x3), (0, x0)]) h) := by
  rw [execK_loop (b := c9arlrborlbrrlrbo) (fr1 := (fs [(6, x6), (5, x5), (4, x4), (3, x3), (0, x0)])) (by kernel_rfl) (show live [2] c9arlrborlbrrlrbo [] [(2, [4, 3, 0]), (1, [3, 0]), (0, [0])] = [6, 5, 4, 3, 0] by kernel_rfl) (by kernel_rfl), ep9arlrborlbrrlrbw]
  rfl
noncomputable def p9arlrborlbrrlr (C : CF) (L : Nat) {β : Type} (x6 : Value) (x5 : Value) (x4 : Value) (x3 : Value) (x0 : Value) (h : H) (kr : Value → H → Option β) (kn : Value → Value → Value → H → Option β) : Option β :=
  p9arlrborlbrrlrb C L x6 x5 x4 x3 x0 h kr kn
theorem ep9arlrborlbrrlr (C : CF) (L : Nat) {β : Type} (x6 : Value) (x5 : Value) (x4 : Value) (x3 : Value) (x0 : Value) (h : H) (K : Ex → T Value → H → Option β) :
    execK Try.prog C L 0 94 [2] c9arlrborlbrrlr [4, 3, 0] [(1, [3, 0]), (0, [0])] (fs [(6, x6), (5, x5), (4, x4), (3, x3), (0, x0)]) h K =
      p9arlrborlbrrlr C L x6 x5 x4 x3 x0 h (fun x2 h => K .ret (fs [(2, x2)]) h) (fun x4 x3 x0 h => K .normal (fs [(4, x4), (3, x3), (0, x0)]) h) := by
  rw [execK_block (b := c9arlrborlbrrlrb) (id := 2) (by kernel_rfl), ep9arlrborlbrrlrb]
  rfl
noncomputable def p9arlrborlbrrl (C : CF) (L : Nat) {β : Type} (x5 : Value) (x4 : Value) (x3 : Value) (x0 : Value) (h : H) (kr : Value → H → Option β) (kn : Value → Value → Value → H → Option β) : Option β :=
  p9arlrborlbrrll C L x5 x4 x3 x0 h (fun x6 x5 x4 x3 x0 h => p9arlrborlbrrlr C L x6 x5 x4 x3 x0 h kr kn)
theorem ep9arlrborlbrrl (C : CF) (L : Nat) {β : Type} (x5 : Value) (x4 : Value) (x3 : Value) (x0 : Value) (h : H) (K : Ex → T Value → H → Option β) :
    execK Try.prog C L 0 94 [2] c9arlrborlbrrl [4, 3, 0] [(1, [3, 0]), (0, [0])] (fs [(5, x5), (4, x4), (3, x3), (0, x0)]) h K =
      p9arlrborlbrrl C L x5 x4 x3 x0 h (fun x2 h => K .ret (fs [(2, x2)]) h) (fun x4 x3 x0 h => K .normal (fs [(4, x4), (3, x3), (0, x0)]) h) := by
  rw [execK_seq (a := c9arlrborlbrrll) (b := c9arlrborlbrrlr) (by kernel_rfl) (show live [2] c9arlrborlbrrlr [4, 3, 0] [(1, [3, 0]), (0, [0])] = [6, 5, 4, 3, 0] by kernel_rfl), ep9arlrborlbrrll]
  simp only [seqK, ep9arlrborlbrrlr]
  rfl
noncomputable def c9arlrborlbrrr : Code := cR c9arlrborlbrr
noncomputable def c9arlrborlbrrrl : Code := cL c9arlrborlbrrr
noncomputable def p9arlrborlbrrrl (C : CF) (L : Nat) {β : Type} (x4 : Value) (x3 : Value) (x0 : Value) (h : H) (kn : Value → Value → Value → Value → H → Option β) : Option β :=
  kn (.int .i64 0) x4 x3 x0 h
theorem ep9arlrborlbrrrl (C : CF) (L : Nat) {β : Type} (x4 : Value) (x3 : Value) (x0 : Value) (h : H) (K : Ex → T Value → H → Option β) :
    execK Try.prog C L 0 94 [2] c9arlrborlbrrrl [7, 4, 3, 0] [(1, [3, 0]), (0, [0])] (fs [(4, x4), (3, x3), (0, x0)]) h K =
      p9arlrborlbrrrl C L x4 x3 x0 h (fun x7 x4 x3 x0 h => K .normal (fs [(7, x7), (4, x4), (3, x3), (0, x0)]) h) := by
  kernel_rfl
noncomputable def c9arlrborlbrrrr : Code := cR c9arlrborlbrrr
noncomputable def c9arlrborlbrrrrb : Code := cL c9arlrborlbrrrr
noncomputable def c9arlrborlbrrrrbo : Code := cL c9arlrborlbrrrrb
noncomputable def c9arlrborlbrrrrbol : Code := cL c9arlrborlbrrrrbo
noncomputable def p9arlrborlbrrrrbol (C : CF) (L : Nat) {β : Type} (x7 : Value) (x4 : Value) (x3 : Value) (x0 : Value) (h : H) (kn : Value → Value → Value → Value → H → Option β) (kx4 : Value → Value → H → Option β) : Option β :=
  bnd (A.fieldAddr 22 x4) fun t73 =>
  bnd (A.load false 1 t73 h) fun t74 =>
  bnd (A.lenS t74) fun t75 =>
  bnd (A.bin Try.prog .lss 3 x7 t75) fun t76 =>
  toBK t76 fun b =>
  (bif b then
  kn x7 x4 x3 x0 h
  else
  kx4 x3 x0 h)
theorem ep9arlrborlbrrrrbol (C : CF) (L : Nat) {β : Type} (x7 : Value) (x4 : Value) (x3 : Value) (x0 : Value) (h : H) (K : Ex → T Value → H → Option β) :
    execK Try.prog C L 0 94 [2] c9arlrborlbrrrrbol [7, 4, 3, 0] [(4, [3, 0]), (1, [3, 0]), (0, [0])] (fs [(7, x7), (4, x4), (3, x3), (0, x0)]) h K =
      p9arlrborlbrrrrbol C L x7 x4 x3 x0 h (fun x7 x4 x3 x0 h => K .normal (fs [(7, x7), (4, x4), (3, x3), (0, x0)]) h) (fun x3 x0 h => K (.exit 4) (fs [(3, x3), (0, x0)]) h) := by
  kernel_rfl
noncomputable def c9arlrborlbrrrrbor : Code := cR c9arlrborlbrrrrbo
noncomputable def c9arlrborlbrrrrborl : Code := cL c9arlrborlbrrrrbor
noncomputable def c9arlrborlbrrrrborlb : Code := cL c9arlrborlbrrrrborl
noncomputable def p9arlrborlbrrrrborlb (C : CF) (L : Nat) {β : Type} (x7 : Value) (x4 : Value) (x3 : Value) (x0 : Value) (h : H) (kr : Value → H → Option β) (kn : Value → Value → Value → Value → H → Option β) : Option β :=
  bnd (A.fieldAddr 22 x4) fun t79 =>
  bnd (A.load false 1 t79 h) fun t80 =>
  bnd (A.idxS 2 t80 x7) fun t82 =>
  bnd (A.fieldAddr 0 t82) fun t83 =>
  bnd (A.load false 1 t83 h) fun t84 =>
  bnd (A.lenStr t84) fun t85 =>
  bnd (A.bin Try.prog .gtr 3 t85 (.int .i64 300)) fun t86 =>
  toBK t86 fun b =>
  (bif b then
  kr (.bool true) h
  else
  bnd (A.bin Try.prog .geq 3 x7 (.int .i64 20)) fun t89 =>
  toBK t89 fun bq1 =>
  (bif bq1 then
  kr (.bool true) h
  else
  kn x7 x4 x3 x0 h))
theorem ep9arlrborlbrrrrborlb (C : CF) (L : Nat) {β : Type} (x7 : Value) (x4 : Value) (x3 : Value) (x0 : Value) (h : H) (K : Ex → T Value → H → Option β) :
    execK Try.prog C L 0 94 [2] c9arlrborlbrrrrborlb [7, 4, 3, 0] [(5, [7, 4, 3, 0]), (4, [3, 0]), (1, [3, 0]), (0, [0])] (fs [(7, x7), (4, x4), (3, x3), (0, x0)]) h K =
      p9arlrborlbrrrrborlb C L x7 x4 x3 x0 h (fun x2 h => K .ret (fs [(2, x2)]) h) (fun x7 x4 x3 x0 h => K .normal (fs [(7, x7), (4, x4), (3, x3), (0, x0)]) h) := by
  kernel_rfl
noncomputable def p9arlrborlbrrrrborl (C : CF) (L : Nat) {β : Type} (x7 : Value) (x4 : Value) (x3 : Value) (x0 : Value) (h : H) (kr : Value → H → Option β) (kn : Value → Value → Value → Value → H → Option β) : Option β :=
  p9arlrborlbrrrrborlb C L x7 x4 x3 x0 h kr kn
theorem ep9arlrborlbrrrrborl (C : CF) (L : Nat) {β : Type} (x7 : Value) (x4 : Value) (x3 : Value) (x0 : Value) (h : H) (K : Ex → T Value → H → Option β) :
    execK Try.prog C L 0 94 [2] c9arlrborlbrrrrborl [7, 4, 3, 0] [(4, [3, 0]), (1, [3, 0]), (0, [0])] (fs [(7, x7), (4, x4), (3, x3), (0, x0)]) h K =
      p9arlrborlbrrrrborl C L x7 x4 x3 x0 h (fun x2 h => K .ret (fs [(2, x2)]) h) (fun x7 x4 x3 x0 h => K .normal (fs [(7, x7), (4, x4), (3, x3), (0, x0)]) h) := by
  rw [execK_block (b := c9arlrborlbrrrrborlb) (id := 5) (by kernel_rfl), ep9arlrborlbrrrrborlb]
  rfl
noncomputable def c9arlrborlbrrrrborr : Code := cR c9arlrborlbrrrrbor
noncomputable def p9arlrborlbrrrrborr (C : CF) (L : Nat) {β : Type} (x7 : Value) (x4 : Value) (x3 : Value) (x0 : Value) (h : H) (kn : Value → Value → Value → Value → H → Option β) : Option β :=
  bnd (A.bin Try.prog .add 3 x7 (.int .i64 1)) fun t78 =>
  kn t78 x4 x3 x0 h
theorem ep9arlrborlbrrrrborr (C : CF) (L : Nat) {β : Type} (x7 : Value) (x4 : Value) (x3 : Value) (x0 : Value) (h : H) (K : Ex → T Value → H → Option β) :
    execK Try.prog C L 0 94 [2] c9arlrborlbrrrrborr [7, 4, 3, 0] [(4, [3, 0]), (1, [3, 0]), (0, [0])] (fs [(7, x7), (4, x4), (3, x3), (0, x0)]) h K =
      p9arlrborlbrrrrborr C L x7 x4 x3 x0 h (fun x7 x4 x3 x0 h => K .normal (fs [(7, x7), (4, x4), (3, x3), (0, x0)]) h) := by
  kernel_rfl
noncomputable def p9arlrborlbrrrrbor (C : CF) (L : Nat) {β : Type} (x7 : Value) (x4 : Value) (x3 : Value) (x0 : Value) (h : H) (kn : Value → Value → Value → Value → H → Option β) (kr : Value → H → Option β) : Option β :=
  p9arlrborlbrrrrborl C L x7 x4 x3 x0 h kr (fun x7 x4 x3 x0 h => p9arlrborlbrrrrborr C L x7 x4 x3 x0 h kn)
theorem ep9arlrborlbrrrrbor (C : CF) (L : Nat) {β : Type} (x7 : Value) (x4 : Value) (x3 : Value) (x0 : Value) (h : H) (K : Ex → T Value → H → Option β) :
    execK Try.prog C L 0 94 [2] c9arlrborlbrrrrbor [7, 4, 3, 0] [(4, [3, 0]), (1, [3, 0]), (0, [0])] (fs [(7, x7), (4, x4), (3, x3), (0, x0)]) h K =
      p9arlrborlbrrrrbor C L x7 x4 x3 x0 h (fun x7 x4 x3 x0 h => K .normal (fs [(7, x7), (4, x4), (3, x3), (0, x0)]) h) (fun x2 h => K .ret (fs [(2, x2)]) h) := by
  rw [execK_seq (a := c9arlrborlbrrrrborl) (b := c9arlrborlbrrrrborr) (by kernel_rfl) (show live [2] c9arlrborlbrrrrborr [7, 4, 3, 0] [(4, [3, 0]), (1, [3, 0]), (0, [0])] = [7, 4, 3, 0] by kernel_rfl), ep9arlrborlbrrrrborl]
  simp only [seqK, ep9arlrborlbrrrrborr]
  rfl
noncomputable def p9arlrborlbrrrrbo (C : CF) (L : Nat) {β : Type} (x7 : Value) (x4 : Value) (x3 : Value) (x0 : Value) (h : H) (kn : Value → Value → Value → Value → H → Option β) (kr : Value → H → Option β) (kx4 : Value → Value → H → Option β) : Option β :=
  p9arlrborlbrrrrbol C L x7 x4 x3 x0 h (fun x7 x4 x3 x0 h => p9arlrborlbrrrrbor C L x7 x4 x3 x0 h kn kr) kx4
theorem ep9arlrborlbrrrrbo (C : CF) (L : Nat) {β : Type} (x7 : Value) (x4 : Value) (x3 : Value) (x0 : Value) (h : H) (K : Ex → T Value → H → Option β) :
    execK Try.prog C L 0 94 [2] c9arlrborlbrrrrbo [7, 4, 3, 0] [(4, [3, 0]), (1, [3, 0]), (0, [0])] (fs [(7, x7), (4, x4), (3, x3), (0, x0)]) h K =
      p9arlrborlbrrrrbo C L x7 x4 x3 x0 h (fun x7 x4 x3 x0 h => K .normal (fs [(7, x7), (4, x4), (3, x3), (0, x0)]) h) (fun x2 h => K .ret (fs [(2, x2)]) h) (fun x3 x0 h => K (.exit 4) (fs [(3, x3), (0, x0)]) h) := by
  rw [execK_seq (a := c9arlrborlbrrrrbol) (b := c9arlrborlbrrrrbor) (by kernel_rfl) (show live [2] c9arlrborlbrrrrbor [7, 4, 3, 0] [(4, [3, 0]), (1, [3, 0]), (0, [0])] = [7, 4, 3, 0] by kernel_rfl), ep9arlrborlbrrrrbol]
  simp only [seqK, ep9arlrborlbrrrrbor]
  rfl
noncomputable def p9arlrborlbrrrrbw (C : CF) (L : Nat) {β : Type} (kr : Value → H → Option β) (kx4 : Value → Value → H → Option β) : Nat → Value → Value → Value → Value → H → Option β
  | 0, _, _, _, _, _ => none
  | n + 1, x7, x4, x3, x0, h => p9arlrborlbrrrrbo C L x7 x4 x3 x0 h (fun x7 x4 x3 x0 h => p9arlrborlbrrrrbw C L kr kx4 n x7 x4 x3 x0 h) kr kx4
theorem ep9arlrborlbrrrrbw (C : CF) (L : Nat) {β : Type} (K : Ex → T Value → H → Option β) : ∀ (n : Nat) (x7 : Value) (x4 : Value) (x3 : Value) (x0 : Value) (h : H),
    loopK (fun fr h K => execK Try.prog C L 0 94 [2] c9arlrborlbrrrrbo [7, 4, 3, 0] [(4, [3, 0]), (1, [3, 0]), (0, [0])] fr h K) n (fs [(7, x7), (4, x4), (3, x3), (0, x0)]) h K =
      p9arlrborlbrrrrbw C L (fun x2 h => K .ret (fs [(2, x2)]) h) (fun x3 x0 h => K (.exit 4) (fs [(3, x3), (0, x0)]) h) n x7 x4 x3 x0 h := by
  intro n
  induction n with
  | zero => intros; rfl
  | succ n ih =>
    intros
    simp only [loopK]
    rw [ep9arlrborlbrrrrbo]
    simp only [seqK, ih]
    rfl
noncomputable def p9arlrborlbrrrrb (C : CF) (L : Nat) {β : Type} (x7 : Value) (x4 : Value) (x3 : Value) (x0 : Value) (h : H) (kr : Value → H → Option β) (kx4 : Value → Value → H → Option β) : Option β :=
  p9arlrborlbrrrrbw C L kr kx4 L x7 x4 x3 x0 h
theorem ep9arlrborlbrrrrb (C : CF) (L : Nat) {β : Type} (x7 : Value) (x4 : Value) (x3 : Value) (x0 : Value) (h : H) (K : Ex → T Value → H → Option β) :
    execK Try.prog C L 0 94 [2] c9arlrborlbrrrrb [3, 0] [(4, [3, 0]), (1, [3, 0]), (0, [0])] (fs [(7, x7), (4, x4), (3, x3), (0, x0)]) h K =
      p9arlrborlbrrrrb C L x7 x4 x3 x0 h (fun x2 h => K .ret (fs [(2, x2)]) h) (fun x3 x0 h => K (.exit 4) (fs [(3, x3), (0, x0)]) h) := by
  rw [execK_loop (b := c9arlrborlbrrrrbo) (fr1 := (fs [(7, x7), (4, x4), (3, x3), (0, x0)])) (by kernel_rfl) (show live [2] c9arlrborlbrrrrbo [] [(4, [3, 0]), (1, [3, 0]), (0, [0])] = [7, 4, 3, 0] by kernel_rfl) (by kernel_rfl), ep9arlrborlbrrrrbw]
  rfl
noncomputable def p9arlrborlbrrrr (C : CF) (L : Nat) {β : Type} (x7 : Value) (x4 : Value) (x3 : Value) (x0 : Value) (h : H) (kr : Value → H → Option β) (kn : Value → Value → H → Option β) : Option β :=
  p9arlrborlbrrrrb C L x7 x4 x3 x0 h kr kn
theorem ep9arlrborlbrrrr (C : CF) (L : Nat) {β : Type} (x7 : Value) (x4 : Value) (x3 : Value) (x0 : Value) (h : H) (K : Ex → T Value → H → Option β) :
    execK Try.prog C L 0 94 [2] c9arlrborlbrrrr [3, 0] [(1, [3, 0]), (0, [0])] (fs [(7, x7), (4, x4), (3, x3), (0, x0)]) h K =
      p9arlrborlbrrrr C L x7 x4 x3 x0 h (fun x2 h => K .ret (fs [(2, x2)]) h) (fun x3 x0 h => K .normal (fs [(3, x3), (0, x0)]) h) := by
  rw [execK_block (b := c9arlrborlbrrrrb) (id := 4) (by kernel_rfl), ep9arlrborlbrrrrb]
  rfl
noncomputable def p9arlrborlbrrr (C : CF) (L : Nat) {β : Type} (x4 : Value) (x3 : Value) (x0 : Value) (h : H) (kr : Value → H → Option β) (kn : Value → Value → H → Option β) : Option β :=
  p9arlrborlbrrrl C L x4 x3 x0 h (fun x7 x4 x3 x0 h => p9arlrborlbrrrr C L x7 x4 x3 x0 h kr kn)
theorem ep9arlrborlbrrr (C : CF) (L : Nat) {β : Type} (x4 : Value) (x3 : Value) (x0 : Value) (h : H) (K : Ex → T Value → H → Option β) :
    execK Try.prog C L 0 94 [2] c9arlrborlbrrr [3, 0] [(1, [3, 0]), (0, [0])] (fs [(4, x4), (3, x3), (0, x0)]) h K =
      p9arlrborlbrrr C L x4 x3 x0 h (fun x2 h => K .ret (fs [(2, x2)]) h) (fun x3 x0 h => K .normal (fs [(3, x3), (0, x0)]) h) := by
  rw [execK_seq (a := c9arlrborlbrrrl) (b := c9arlrborlbrrrr) (by kernel_rfl) (show live [2] c9arlrborlbrrrr [3, 0] [(1, [3, 0]), (0, [0])] = [7, 4, 3, 0] by kernel_rfl), ep9arlrborlbrrrl]
  simp only [seqK, ep9arlrborlbrrrr]
  rfl
noncomputable def p9arlrborlbrr (C : CF) (L : Nat) {β : Type} (x5 : Value) (x4 : Value) (x3 : Value) (x0 : Value) (h : H) (kr : Value → H → Option β) (kn : Value → Value → H → Option β) : Option β :=
  p9arlrborlbrrl C L x5 x4 x3 x0 h kr (fun x4 x3 x0 h => p9arlrborlbrrr C L x4 x3 x0 h kr kn)
theorem ep9arlrborlbrr (C : CF) (L : Nat) {β : Type} (x5 : Value) (x4 : Value) (x3 : Value) (x0 : Value) (h : H) (K : Ex → T Value → H → Option β) :
    execK Try.prog C L 0 94 [2] c9arlrborlbrr [3, 0] [(1, [3, 0]), (0, [0])] (fs [(5, x5), (4, x4), (3, x3), (0, x0)]) h K =
      p9arlrborlbrr C L x5 x4 x3 x0 h (fun x2 h => K .ret (fs [(2, x2)]) h) (fun x3 x0 h => K .normal (fs [(3, x3), (0, x0)]) h) := by
  rw [execK_seq (a := c9arlrborlbrrl) (b := c9arlrborlbrrr) (by kernel_rfl) (show live [2] c9arlrborlbrrr [3, 0] [(1, [3, 0]), (0, [0])] = [4, 3, 0] by kernel_rfl), ep9arlrborlbrrl]
  simp only [seqK, ep9arlrborlbrrr]
  rfl
noncomputable def p9arlrborlbr (C : CF) (L : Nat) {β : Type} (x4 : Value) (x3 : Value) (x0 : Value) (h : H) (kr : Value → H → Option β) (kn : Value → Value → H → Option β) : Option β :=
  p9arlrborlbrl C L x4 x3 x0 h (fun x5 x4 x3 x0 h => p9arlrborlbrr C L x5 x4 x3 x0 h kr kn)
theorem ep9arlrborlbr (C : CF) (L : Nat) {β : Type} (x4 : Value) (x3 : Value) (x0 : Value) (h : H) (K : Ex → T Value → H → Option β) :
    execK Try.prog C L 0 94 [2] c9arlrborlbr [3, 0] [(1, [3, 0]), (0, [0])] (fs [(4, x4), (3, x3), (0, x0)]) h K =
      p9arlrborlbr C L x4 x3 x0 h (fun x2 h => K .ret (fs [(2, x2)]) h) (fun x3 x0 h => K .normal (fs [(3, x3), (0, x0)]) h) := by
  rw [execK_seq (a := c9arlrborlbrl) (b := c9arlrborlbrr) (by kernel_rfl) (show live [2] c9arlrborlbrr [3, 0] [(1, [3, 0]), (0, [0])] = [5, 4, 3, 0] by kernel_rfl), ep9arlrborlbrl]
  simp only [seqK, ep9arlrborlbrr]
  rfl
noncomputable def p9arlrborlb (C : CF) (L : Nat) {β : Type} (x3 : Value) (x0 : Value) (h : H) (kr : Value → H → Option β) (kn : Value → Value → H → Option β) : Option β :=
  p9arlrborlbl C L x3 x0 h (fun x4 x3 x0 h => p9arlrborlbr C L x4 x3 x0 h kr kn)
theorem ep9arlrborlb (C : CF) (L : Nat) {β : Type} (x3 : Value) (x0 : Value) (h : H) (K : Ex → T Value → H → Option β) :
    execK Try.prog C L 0 94 [2] c9arlrborlb [3, 0] [(1, [3, 0]), (0, [0])] (fs [(3, x3), (0, x0)]) h K =
      p9arlrborlb C L x3 x0 h (fun x2 h => K .ret (fs [(2, x2)]) h) (fun x3 x0 h => K .normal (fs [(3, x3), (0, x0)]) h) := by
  rw [execK_seq (a := c9arlrborlbl) (b := c9arlrborlbr) (by kernel_rfl) (show live [2] c9arlrborlbr [3, 0] [(1, [3, 0]), (0, [0])] = [4, 3, 0] by kernel_rfl), ep9arlrborlbl]
  simp only [seqK, ep9arlrborlbr]
  rfl
noncomputable def p9arlrborl (C : CF) (L : Nat) {β : Type} (x3 : Value) (x0 : Value) (h : H) (kr : Value → H → Option β) (kn : Value → Value → H → Option β) : Option β :=
  p9arlrborlb C L x3 x0 h kr kn
theorem ep9arlrborl (C : CF) (L : Nat) {β : Type} (x3 : Value) (x0 : Value) (h : H) (K : Ex → T Value → H → Option β) :
    execK Try.prog C L 0 94 [2] c9arlrborl [3, 0] [(0, [0])] (fs [(3, x3), (0, x0)]) h K =
      p9arlrborl C L x3 x0 h (fun x2 h => K .ret (fs [(2, x2)]) h) (fun x3 x0 h => K .normal (fs [(3, x3), (0, x0)]) h) := by
  rw [execK_block (b := c9arlrborlb) (id := 1) (by kernel_rfl), ep9arlrborlb]
  rfl
noncomputable def c9arlrborr : Code := cR c9arlrbor
noncomputable def p9arlrborr (C : CF) (L : Nat) {β : Type} (x3 : Value) (x0 : Value) (h : H) (kn : Value → Value → H → Option β) : Option β :=
  bnd (A.bin Try.prog .add 3 x3 (.int .i64 1)) fun t13 =>
  kn t13 x0 h
theorem ep9arlrborr (C : CF) (L : Nat) {β : Type} (x3 : Value) (x0 : Value) (h : H) (K : Ex → T Value → H → Option β) :
    execK Try.prog C L 0 94 [2] c9arlrborr [3, 0] [(0, [0])] (fs [(3, x3), (0, x0)]) h K =
      p9arlrborr C L x3 x0 h (fun x3 x0 h => K .normal (fs [(3, x3), (0, x0)]) h) := by
  kernel_rfl
noncomputable def p9arlrbor (C : CF) (L : Nat) {β : Type} (x3 : Value) (x0 : Value) (h : H) (kn : Value → Value → H → Option β) (kr : Value → H → Option β) : Option β :=
  p9arlrborl C L x3 x0 h kr (fun x3 x0 h => p9arlrborr C L x3 x0 h kn)
theorem ep9arlrbor (C : CF) (L : Nat) {β : Type} (x3 : Value) (x0 : Value) (h : H) (K : Ex → T Value → H → Option β) :
    execK Try.prog C L 0 94 [2] c9arlrbor [3, 0] [(0, [0])] (fs [(3, x3), (0, x0)]) h K =
      p9arlrbor C L x3 x0 h (fun x3 x0 h => K .normal (fs [(3, x3), (0, x0)]) h) (fun x2 h => K .ret (fs [(2, x2)]) h) := by
  rw [execK_seq (a := c9arlrborl) (b := c9arlrborr) (by kernel_rfl) (show live [2] c9arlrborr [3, 0] [(0, [0])] = [3, 0] by kernel_rfl), ep9arlrborl]
  simp only [seqK, ep9arlrborr]
  rfl
noncomputable def p9arlrbo (C : CF) (L : Nat) {β : Type} (x3 : Value) (x0 : Value) (h : H) (kn : Value → Value → H → Option β) (kr : Value → H → Option β) (kx0 : Value → H → Option β) : Option β :=
  p9arlrbol C L x3 x0 h (fun x3 x0 h => p9arlrbor C L x3 x0 h kn kr) kx0
theorem ep9arlrbo (C : CF) (L : Nat) {β : Type} (x3 : Value) (x0 : Value) (h : H) (K : Ex → T Value → H → Option β) :
    execK Try.prog C L 0 94 [2] c9arlrbo [3, 0] [(0, [0])] (fs [(3, x3), (0, x0)]) h K =
      p9arlrbo C L x3 x0 h (fun x3 x0 h => K .normal (fs [(3, x3), (0, x0)]) h) (fun x2 h => K .ret (fs [(2, x2)]) h) (fun x0 h => K (.exit 0) (fs [(0, x0)]) h) := by
  rw [execK_seq (a := c9arlrbol) (b := c9arlrbor) (by kernel_rfl) (show live [2] c9arlrbor [3, 0] [(0, [0])] = [3, 0] by kernel_rfl), ep9arlrbol]
  simp only [seqK, ep9arlrbor]
  rfl
noncomputable def p9arlrbw (C : CF) (L : Nat) {β : Type} (kr : Value → H → Option β) (kx0 : Value → H → Option β) : Nat → Value → Value → H → Option β
  | 0, _, _, _ => none
  | n + 1, x3, x0, h => p9arlrbo C L x3 x0 h (fun x3 x0 h => p9arlrbw C L kr kx0 n x3 x0 h) kr kx0
theorem ep9arlrbw (C : CF) (L : Nat) {β : Type} (K : Ex → T Value → H → Option β) : ∀ (n : Nat) (x3 : Value) (x0 : Value) (h : H),
    loopK (fun fr h K => execK Try.prog C L 0 94 [2] c9arlrbo [3, 0] [(0, [0])] fr h K) n (fs [(3, x3), (0, x0)]) h K =
      p9arlrbw C L (fun x2 h => K .ret (fs [(2, x2)]) h) (fun x0 h => K (.exit 0) (fs [(0, x0)]) h) n x3 x0 h := by
  intro n
  induction n with
  | zero => intros; rfl
  | succ n ih =>
    intros
    simp only [loopK]
    rw [ep9arlrbo]
    simp only [seqK, ih]
    rfl
noncomputable def p9arlrb (C : CF) (L : Nat) {β : Type} (x3 : Value) (x0 : Value) (h : H) (kr : Value → H → Option β) (kx0 : Value → H → Option β) : Option β :=
  p9arlrbw C L kr kx0 L x3 x0 h
theorem ep9arlrb (C : CF) (L : Nat) {β : Type} (x3 : Value) (x0 : Value) (h : H) (K : Ex → T Value → H → Option β) :
    execK Try.prog C L 0 94 [2] c9arlrb [0] [(0, [0])] (fs [(3, x3), (0, x0)]) h K =
      p9arlrb C L x3 x0 h (fun x2 h => K .ret (fs [(2, x2)]) h) (fun x0 h => K (.exit 0) (fs [(0, x0)]) h) := by
  rw [execK_loop (b := c9arlrbo) (fr1 := (fs [(3, x3), (0, x0)])) (by kernel_rfl) (show live [2] c9arlrbo [] [(0, [0])] = [3, 0] by kernel_rfl) (by kernel_rfl), ep9arlrbw]
  rfl
noncomputable def p9arlr (C : CF) (L : Nat) {β : Type} (x3 : Value) (x0 : Value) (h : H) (kr : Value → H → Option β) (kn : Value → H → Option β) : Option β :=
  p9arlrb C L x3 x0 h kr kn
theorem ep9arlr (C : CF) (L : Nat) {β : Type} (x3 : Value) (x0 : Value) (h : H) (K : Ex → T Value → H → Option β) :
    execK Try.prog C L 0 94 [2] c9arlr [0] [] (fs [(3, x3), (0, x0)]) h K =
      p9arlr C L x3 x0 h (fun x2 h => K .ret (fs [(2, x2)]) h) (fun x0 h => K .normal (fs [(0, x0)]) h) := by
  rw [execK_block (b := c9arlrb) (id := 0) (by kernel_rfl), ep9arlrb]
  rfl
noncomputable def p9arl (C : CF) (L : Nat) {β : Type} (x0 : Value) (h : H) (kr : Value → H → Option β) (kn : Value → H → Option β) : Option β :=
  p9arll C L x0 h (fun x3 x0 h => p9arlr C L x3 x0 h kr kn)
theorem ep9arl (C : CF) (L : Nat) {β : Type} (x0 : Value) (h : H) (K : Ex → T Value → H → Option β) :
    execK Try.prog C L 0 94 [2] c9arl [0] [] (fs [(0, x0)]) h K =
      p9arl C L x0 h (fun x2 h => K .ret (fs [(2, x2)]) h) (fun x0 h => K .normal (fs [(0, x0)]) h) := by
  rw [execK_seq (a := c9arll) (b := c9arlr) (by kernel_rfl) (show live [2] c9arlr [0] [] = [3, 0] by kernel_rfl), ep9arll]
  simp only [seqK, ep9arlr]
  rfl
noncomputable def c9arr : Code := cR c9ar
noncomputable def p9arr (C : CF) (L : Nat) {β : Type} (x0 : Value) (h : H) (kr : Value → H → Option β) : Option β :=
  bnd (A.lenS x0) fun t92 =>
  bnd (A.bin Try.prog .gtr 3 t92 (.int .i64 60)) fun t93 =>
  toBK t93 fun b =>
  kr (.bool b) h
theorem ep9arr (C : CF) (L : Nat) {β : Type} (x0 : Value) (h : H) (K : Ex → T Value → H → Option β) :
    execK Try.prog C L 0 94 [2] c9arr [2] [] (fs [(0, x0)]) h K =
      p9arr C L x0 h (fun x2 h => K .ret (fs [(2, x2)]) h) := by
  kernel_rfl
noncomputable def p9ar (C : CF) (L : Nat) {β : Type} (x0 : Value) (h : H) (kr : Value → H → Option β) : Option β :=
  p9arl C L x0 h kr (fun x0 h => p9arr C L x0 h kr)
theorem ep9ar (C : CF) (L : Nat) {β : Type} (x0 : Value) (h : H) (K : Ex → T Value → H → Option β) :
    execK Try.prog C L 0 94 [2] c9ar [2] [] (fs [(0, x0)]) h K =
      p9ar C L x0 h (fun x2 h => K .ret (fs [(2, x2)]) h) := by
  rw [execK_seq (a := c9arl) (b := c9arr) (by kernel_rfl) (show live [2] c9arr [2] [] = [0] by kernel_rfl), ep9arl]
  simp only [seqK, ep9arr]
  rfl
noncomputable def p9a (C : CF) (L : Nat) {β : Type} (x0 : Value) (h : H) (kr : Value → H → Option β) : Option β :=
  p9al C L x0 h (fun x0 h => p9ar C L x0 h kr)
theorem ep9a (C : CF) (L : Nat) {β : Type} (x0 : Value) (h : H) (K : Ex → T Value → H → Option β) :
    execK Try.prog C L 0 94 [2] c9a [2] [] (fs [(0, x0)]) h K =
      p9a C L x0 h (fun x2 h => K .ret (fs [(2, x2)]) h) := by
  rw [execK_seq (a := c9al) (b := c9ar) (by kernel_rfl) (show live [2] c9ar [2] [] = [0] by kernel_rfl), ep9al]
  simp only [seqK, ep9ar]
  rfl
noncomputable def F9 (C : CF) (L : Nat) (x0 : Value) (h : H) : Option (Value × H) :=
  p9a C L x0 h
    (fun x2 h => some (x2, h))
theorem F9eq (O : List FuncId) (hO : O.any (Nat.beq 9) = false) (n : Nat) (x0 : Value) (h : H) : callB Try.prog 0 O (n + 1) 9 [x0] h = F9 (callB Try.prog 0 O n) n x0 h := by
  rw [callB_eq hO (c := c9a) (nt := 94) (RR := [2]) (fr := (fs [(0, x0)])) Try.func9 (by kernel_rfl) (by kernel_rfl) (by kernel_rfl) (by kernel_rfl) (by kernel_rfl), ep9a]
  kernel_rfl

/-! F10: relayhouse/relayhouselaw17.awake -/
noncomputable def c10a : Code := (Try.f10.body).getD .skip
noncomputable def p10a (C : CF) (L : Nat) {β : Type} (h : H) (kr : Value → H → Option β) : Option β :=
  bnd2 (C 22 [] h) fun t2 hq1 =>
  bnd2 (C 12 [t2, (.int .i64 2), (.slice none 0 0)] hq1) fun t4 hq2 =>
  bnd2 (A.buildSlice 1 2 Z3L [(0, 1, (.int .i64 0)), (1, 1, (.int .i64 2))] hq2) fun t5 hq3 =>
  bnd2 (C 20 [t4, t5] hq3) fun t6 hq4 =>
  toBK t6 fun b =>
  (bif b then
  bnd2 (C 24 [t2] hq4) fun t9 hq5 =>
  bnd (A.bin Try.prog .eql 3 t9 (.int .i64 3)) fun t10 =>
  toBK t10 fun bq1 =>
  (bif bq1 then
  bnd2 (C 19 [t2] hq5) fun t14 hq6 =>
  bnd (A.bin Try.prog .eql 3 t14 (.int .i64 3)) fun t15 =>
  toBK t15 fun bq2 =>
  kr (.bool bq2) hq6
  else
  kr (.bool false) hq5)
  else
  kr (.bool false) hq4)
theorem ep10a (C : CF) (L : Nat) {β : Type} (h : H) (K : Ex → T Value → H → Option β) :
    execK Try.prog C L 0 17 [0] c10a [0] [] (fs []) h K =
      p10a C L h (fun x0 h => K .ret (fs [(0, x0)]) h) := by
  kernel_rfl
noncomputable def F10 (C : CF) (L : Nat) (h : H) : Option (Value × H) :=
  p10a C L h
    (fun x0 h => some (x0, h))
theorem F10eq (O : List FuncId) (hO : O.any (Nat.beq 10) = false) (n : Nat) (h : H) : callB Try.prog 0 O (n + 1) 10 [] h = F10 (callB Try.prog 0 O n) n h := by
  rw [callB_eq hO (c := c10a) (nt := 17) (RR := [0]) (fr := (fs [])) Try.func10 (by kernel_rfl) (by kernel_rfl) (by kernel_rfl) (by kernel_rfl) (by kernel_rfl), ep10a]
  kernel_rfl

/-! F11: relayhouse/relayhouselaw17.filled -/
noncomputable def c11a : Code := (Try.f11.body).getD .skip
noncomputable def c11al : Code := cL c11a
noncomputable def p11al (C : CF) (L : Nat) {β : Type} (x0 : Value) (h : H) (kn : Value → H → Option β) : Option β :=
  kn x0 h
theorem ep11al (C : CF) (L : Nat) {β : Type} (x0 : Value) (h : H) (K : Ex → T Value → H → Option β) :
    execK Try.prog C L 0 25 [2] c11al [0] [] (fs [(0, x0)]) h K =
      p11al C L x0 h (fun x0 h => K .normal (fs [(0, x0)]) h) := by
  kernel_rfl
noncomputable def c11ar : Code := cR c11a
noncomputable def c11arl : Code := cL c11ar
noncomputable def p11arl (C : CF) (L : Nat) {β : Type} (x0 : Value) (h : H) (kn : Value → Value → H → Option β) : Option β :=
  bnd2 (C 25 [] h) fun t5 hq1 =>
  kn x0 t5 hq1
theorem ep11arl (C : CF) (L : Nat) {β : Type} (x0 : Value) (h : H) (K : Ex → T Value → H → Option β) :
    execK Try.prog C L 0 25 [2] c11arl [0, 3] [] (fs [(0, x0)]) h K =
      p11arl C L x0 h (fun x0 x3 h => K .normal (fs [(0, x0), (3, x3)]) h) := by
  kernel_rfl
noncomputable def c11arr : Code := cR c11ar
noncomputable def c11arrl : Code := cL c11arr
noncomputable def c11arrll : Code := cL c11arrl
noncomputable def p11arrll (C : CF) (L : Nat) {β : Type} (x0 : Value) (x3 : Value) (h : H) (kn : Value → Value → Value → H → Option β) : Option β :=
  kn (.int .i64 0) x0 x3 h
theorem ep11arrll (C : CF) (L : Nat) {β : Type} (x0 : Value) (x3 : Value) (h : H) (K : Ex → T Value → H → Option β) :
    execK Try.prog C L 0 25 [2] c11arrll [4, 0, 3] [] (fs [(0, x0), (3, x3)]) h K =
      p11arrll C L x0 x3 h (fun x4 x0 x3 h => K .normal (fs [(4, x4), (0, x0), (3, x3)]) h) := by
  kernel_rfl
noncomputable def c11arrlr : Code := cR c11arrl
noncomputable def c11arrlrb : Code := cL c11arrlr
noncomputable def c11arrlrbo : Code := cL c11arrlrb
noncomputable def p11arrlrbo (C : CF) (L : Nat) {β : Type} (x4 : Value) (x0 : Value) (x3 : Value) (h : H) (kn : Value → Value → Value → H → Option β) (kx0 : Value → H → Option β) : Option β :=
  bnd (A.lenS x0) fun t8 =>
  bnd (A.bin Try.prog .lss 3 x4 t8) fun t9 =>
  toBK t9 fun b =>
  (bif b then
  bnd (A.bin Try.prog .rem 3 x4 (.int .i64 2)) fun t13 =>
  bnd (A.bin Try.prog .eql 3 t13 (.int .i64 0)) fun t14 =>
  toBK t14 fun bq1 =>
  (bif bq1 then
  bnd2 (C 24 [x3] h) fun t16 hq1 =>
  bnd (A.idxS 35 x0 x4) fun t20 =>
  bnd (A.load true 35 t20 hq1) fun t21 =>
  bnd2 (C 14 [t21] hq1) fun t22 hq2 =>
  bnd2 (C 23 [x3, t22] hq2) fun t23 hq3 =>
  bnd (A.bin Try.prog .add 3 x4 (.int .i64 1)) fun t11 =>
  kn t11 x0 x3 hq3
  else
  bnd (A.idxS 35 x0 x4) fun t20q1 =>
  bnd (A.load true 35 t20q1 h) fun t21q1 =>
  bnd2 (C 14 [t21q1] h) fun t22q1 hq4 =>
  bnd2 (C 23 [x3, t22q1] hq4) fun t23q1 hq5 =>
  bnd (A.bin Try.prog .add 3 x4 (.int .i64 1)) fun t11q1 =>
  kn t11q1 x0 x3 hq5)
  else
  kx0 x3 h)
theorem ep11arrlrbo (C : CF) (L : Nat) {β : Type} (x4 : Value) (x0 : Value) (x3 : Value) (h : H) (K : Ex → T Value → H → Option β) :
    execK Try.prog C L 0 25 [2] c11arrlrbo [4, 0, 3] [(0, [3])] (fs [(4, x4), (0, x0), (3, x3)]) h K =
      p11arrlrbo C L x4 x0 x3 h (fun x4 x0 x3 h => K .normal (fs [(4, x4), (0, x0), (3, x3)]) h) (fun x3 h => K (.exit 0) (fs [(3, x3)]) h) := by
  kernel_rfl
noncomputable def p11arrlrbw (C : CF) (L : Nat) {β : Type} (kx0 : Value → H → Option β) : Nat → Value → Value → Value → H → Option β
  | 0, _, _, _, _ => none
  | n + 1, x4, x0, x3, h => p11arrlrbo C L x4 x0 x3 h (fun x4 x0 x3 h => p11arrlrbw C L kx0 n x4 x0 x3 h) kx0
theorem ep11arrlrbw (C : CF) (L : Nat) {β : Type} (K : Ex → T Value → H → Option β) : ∀ (n : Nat) (x4 : Value) (x0 : Value) (x3 : Value) (h : H),
    loopK (fun fr h K => execK Try.prog C L 0 25 [2] c11arrlrbo [4, 0, 3] [(0, [3])] fr h K) n (fs [(4, x4), (0, x0), (3, x3)]) h K =
      p11arrlrbw C L (fun x3 h => K (.exit 0) (fs [(3, x3)]) h) n x4 x0 x3 h := by
  intro n
  induction n with
  | zero => intros; rfl
  | succ n ih =>
    intros
    simp only [loopK]
    rw [ep11arrlrbo]
    simp only [seqK, ih]
    rfl
noncomputable def p11arrlrb (C : CF) (L : Nat) {β : Type} (x4 : Value) (x0 : Value) (x3 : Value) (h : H) (kx0 : Value → H → Option β) : Option β :=
  p11arrlrbw C L kx0 L x4 x0 x3 h
theorem ep11arrlrb (C : CF) (L : Nat) {β : Type} (x4 : Value) (x0 : Value) (x3 : Value) (h : H) (K : Ex → T Value → H → Option β) :
    execK Try.prog C L 0 25 [2] c11arrlrb [3] [(0, [3])] (fs [(4, x4), (0, x0), (3, x3)]) h K =
      p11arrlrb C L x4 x0 x3 h (fun x3 h => K (.exit 0) (fs [(3, x3)]) h) := by
  rw [execK_loop (b := c11arrlrbo) (fr1 := (fs [(4, x4), (0, x0), (3, x3)])) (by kernel_rfl) (show live [2] c11arrlrbo [] [(0, [3])] = [4, 0, 3] by kernel_rfl) (by kernel_rfl), ep11arrlrbw]
  rfl
noncomputable def p11arrlr (C : CF) (L : Nat) {β : Type} (x4 : Value) (x0 : Value) (x3 : Value) (h : H) (kn : Value → H → Option β) : Option β :=
  p11arrlrb C L x4 x0 x3 h kn
theorem ep11arrlr (C : CF) (L : Nat) {β : Type} (x4 : Value) (x0 : Value) (x3 : Value) (h : H) (K : Ex → T Value → H → Option β) :
    execK Try.prog C L 0 25 [2] c11arrlr [3] [] (fs [(4, x4), (0, x0), (3, x3)]) h K =
      p11arrlr C L x4 x0 x3 h (fun x3 h => K .normal (fs [(3, x3)]) h) := by
  rw [execK_block (b := c11arrlrb) (id := 0) (by kernel_rfl), ep11arrlrb]
  rfl
noncomputable def p11arrl (C : CF) (L : Nat) {β : Type} (x0 : Value) (x3 : Value) (h : H) (kn : Value → H → Option β) : Option β :=
  p11arrll C L x0 x3 h (fun x4 x0 x3 h => p11arrlr C L x4 x0 x3 h kn)
theorem ep11arrl (C : CF) (L : Nat) {β : Type} (x0 : Value) (x3 : Value) (h : H) (K : Ex → T Value → H → Option β) :
    execK Try.prog C L 0 25 [2] c11arrl [3] [] (fs [(0, x0), (3, x3)]) h K =
      p11arrl C L x0 x3 h (fun x3 h => K .normal (fs [(3, x3)]) h) := by
  rw [execK_seq (a := c11arrll) (b := c11arrlr) (by kernel_rfl) (show live [2] c11arrlr [3] [] = [4, 0, 3] by kernel_rfl), ep11arrll]
  simp only [seqK, ep11arrlr]
  rfl
noncomputable def c11arrr : Code := cR c11arr
noncomputable def p11arrr (C : CF) (L : Nat) {β : Type} (x3 : Value) (h : H) (kr : Value → H → Option β) : Option β :=
  kr x3 h
theorem ep11arrr (C : CF) (L : Nat) {β : Type} (x3 : Value) (h : H) (K : Ex → T Value → H → Option β) :
    execK Try.prog C L 0 25 [2] c11arrr [2] [] (fs [(3, x3)]) h K =
      p11arrr C L x3 h (fun x2 h => K .ret (fs [(2, x2)]) h) := by
  kernel_rfl
noncomputable def p11arr (C : CF) (L : Nat) {β : Type} (x0 : Value) (x3 : Value) (h : H) (kr : Value → H → Option β) : Option β :=
  p11arrl C L x0 x3 h (fun x3 h => p11arrr C L x3 h kr)
theorem ep11arr (C : CF) (L : Nat) {β : Type} (x0 : Value) (x3 : Value) (h : H) (K : Ex → T Value → H → Option β) :
    execK Try.prog C L 0 25 [2] c11arr [2] [] (fs [(0, x0), (3, x3)]) h K =
      p11arr C L x0 x3 h (fun x2 h => K .ret (fs [(2, x2)]) h) := by
  rw [execK_seq (a := c11arrl) (b := c11arrr) (by kernel_rfl) (show live [2] c11arrr [2] [] = [3] by kernel_rfl), ep11arrl]
  simp only [seqK, ep11arrr]
  rfl
noncomputable def p11ar (C : CF) (L : Nat) {β : Type} (x0 : Value) (h : H) (kr : Value → H → Option β) : Option β :=
  p11arl C L x0 h (fun x0 x3 h => p11arr C L x0 x3 h kr)
theorem ep11ar (C : CF) (L : Nat) {β : Type} (x0 : Value) (h : H) (K : Ex → T Value → H → Option β) :
    execK Try.prog C L 0 25 [2] c11ar [2] [] (fs [(0, x0)]) h K =
      p11ar C L x0 h (fun x2 h => K .ret (fs [(2, x2)]) h) := by
  rw [execK_seq (a := c11arl) (b := c11arr) (by kernel_rfl) (show live [2] c11arr [2] [] = [0, 3] by kernel_rfl), ep11arl]
  simp only [seqK, ep11arr]
  rfl
noncomputable def p11a (C : CF) (L : Nat) {β : Type} (x0 : Value) (h : H) (kr : Value → H → Option β) : Option β :=
  p11al C L x0 h (fun x0 h => p11ar C L x0 h kr)
theorem ep11a (C : CF) (L : Nat) {β : Type} (x0 : Value) (h : H) (K : Ex → T Value → H → Option β) :
    execK Try.prog C L 0 25 [2] c11a [2] [] (fs [(0, x0)]) h K =
      p11a C L x0 h (fun x2 h => K .ret (fs [(2, x2)]) h) := by
  rw [execK_seq (a := c11al) (b := c11ar) (by kernel_rfl) (show live [2] c11ar [2] [] = [0] by kernel_rfl), ep11al]
  simp only [seqK, ep11ar]
  rfl
noncomputable def F11 (C : CF) (L : Nat) (x0 : Value) (h : H) : Option (Value × H) :=
  p11a C L x0 h
    (fun x2 h => some (x2, h))
theorem F11eq (O : List FuncId) (hO : O.any (Nat.beq 11) = false) (n : Nat) (x0 : Value) (h : H) : callB Try.prog 0 O (n + 1) 11 [x0] h = F11 (callB Try.prog 0 O n) n x0 h := by
  rw [callB_eq hO (c := c11a) (nt := 25) (RR := [2]) (fr := (fs [(0, x0)])) Try.func11 (by kernel_rfl) (by kernel_rfl) (by kernel_rfl) (by kernel_rfl) (by kernel_rfl), ep11a]
  kernel_rfl

/-! F12: (*relayhouse/record.Log).Of -/
noncomputable def c12a : Code := (Try.f12.body).getD .skip
noncomputable def c12al : Code := cL c12a
noncomputable def p12al (C : CF) (L : Nat) {β : Type} (x0 : Value) (x1 : Value) (x2 : Value) (h : H) (kn : Value → Value → Value → H → Option β) : Option β :=
  bnd2 (A.box 1 x1 h) fun t4 hq1 =>
  bnd2 (A.box 1 x2 hq1) fun t5 hq2 =>
  kn t5 t4 x0 hq2
theorem ep12al (C : CF) (L : Nat) {β : Type} (x0 : Value) (x1 : Value) (x2 : Value) (h : H) (K : Ex → T Value → H → Option β) :
    execK Try.prog C L 0 31 [6] c12al [5, 4, 0] [] (fs [(0, x0), (1, x1), (2, x2)]) h K =
      p12al C L x0 x1 x2 h (fun x5 x4 x0 h => K .normal (fs [(5, x5), (4, x4), (0, x0)]) h) := by
  kernel_rfl
noncomputable def c12ar : Code := cR c12a
noncomputable def c12arl : Code := cL c12ar
noncomputable def p12arl (C : CF) (L : Nat) {β : Type} (x5 : Value) (x4 : Value) (x0 : Value) (h : H) (kn : Value → Value → H → Option β) : Option β :=
  kn x0 (.func (.func 27) ⟨[]⟩ ⟨[x4, x5]⟩) h
theorem ep12arl (C : CF) (L : Nat) {β : Type} (x5 : Value) (x4 : Value) (x0 : Value) (h : H) (K : Ex → T Value → H → Option β) :
    execK Try.prog C L 0 31 [6] c12arl [0, 7] [] (fs [(5, x5), (4, x4), (0, x0)]) h K =
      p12arl C L x5 x4 x0 h (fun x0 x7 h => K .normal (fs [(0, x0), (7, x7)]) h) := by
  kernel_rfl
noncomputable def c12arr : Code := cR c12ar
noncomputable def c12arrl : Code := cL c12arr
noncomputable def p12arrl (C : CF) (L : Nat) {β : Type} (x0 : Value) (x7 : Value) (h : H) (kn : Value → Value → Value → H → Option β) : Option β :=
  kn x0 x7 (.slice none 0 0) h
theorem ep12arrl (C : CF) (L : Nat) {β : Type} (x0 : Value) (x7 : Value) (h : H) (K : Ex → T Value → H → Option β) :
    execK Try.prog C L 0 31 [6] c12arrl [0, 7, 8] [] (fs [(0, x0), (7, x7)]) h K =
      p12arrl C L x0 x7 h (fun x0 x7 x8 h => K .normal (fs [(0, x0), (7, x7), (8, x8)]) h) := by
  kernel_rfl
noncomputable def c12arrr : Code := cR c12arr
noncomputable def c12arrrl : Code := cL c12arrr
noncomputable def c12arrrll : Code := cL c12arrrl
noncomputable def p12arrrll (C : CF) (L : Nat) {β : Type} (x0 : Value) (x7 : Value) (x8 : Value) (h : H) (kn : Value → Value → Value → Value → Value → H → Option β) : Option β :=
  bnd2 (C 19 [x0] h) fun t12 hq1 =>
  kn t12 (.int .i64 0) x0 x7 x8 hq1
theorem ep12arrrll (C : CF) (L : Nat) {β : Type} (x0 : Value) (x7 : Value) (x8 : Value) (h : H) (K : Ex → T Value → H → Option β) :
    execK Try.prog C L 0 31 [6] c12arrrll [12, 13, 0, 7, 8] [] (fs [(0, x0), (7, x7), (8, x8)]) h K =
      p12arrrll C L x0 x7 x8 h (fun x12 x13 x0 x7 x8 h => K .normal (fs [(12, x12), (13, x13), (0, x0), (7, x7), (8, x8)]) h) := by
  kernel_rfl
noncomputable def c12arrrlr : Code := cR c12arrrl
noncomputable def c12arrrlrb : Code := cL c12arrrlr
noncomputable def c12arrrlrbo : Code := cL c12arrrlrb
noncomputable def p12arrrlrbo (C : CF) (L : Nat) {β : Type} (x12 : Value) (x13 : Value) (x0 : Value) (x7 : Value) (x8 : Value) (h : H) (kn : Value → Value → Value → Value → Value → H → Option β) (kx0 : Value → H → Option β) : Option β :=
  bnd (A.bin Try.prog .lss 3 x13 x12) fun t14 =>
  toBK t14 fun b =>
  (bif b then
  bnd (A.nilCheck x0) fun t18 =>
  bnd (A.fieldAddr 0 t18) fun t19 =>
  bnd (A.load false 1 t19 h) fun t20 =>
  bnd (A.idxS 35 t20 x13) fun t22 =>
  bnd (A.load true 35 t22 h) fun t23 =>
  bnd2 (callV C x7 [t23] h) fun t24 hq1 =>
  toBK t24 fun bq1 =>
  (bif bq1 then
  bnd2 (A.buildSlice 1 1 Z3L [(0, 1, x13)] hq1) fun t27 hq2 =>
  bnd2 (A.append 1 8 x8 t27 hq2) fun t28 hq3 =>
  bnd (A.bin Try.prog .add 3 x13 (.int .i64 1)) fun t29 =>
  kn x12 t29 x0 x7 t28 hq3
  else
  bnd (A.bin Try.prog .add 3 x13 (.int .i64 1)) fun t29q1 =>
  kn x12 t29q1 x0 x7 x8 hq1)
  else
  kx0 x8 h)
theorem ep12arrrlrbo (C : CF) (L : Nat) {β : Type} (x12 : Value) (x13 : Value) (x0 : Value) (x7 : Value) (x8 : Value) (h : H) (K : Ex → T Value → H → Option β) :
    execK Try.prog C L 0 31 [6] c12arrrlrbo [12, 13, 0, 7, 8] [(0, [8])] (fs [(12, x12), (13, x13), (0, x0), (7, x7), (8, x8)]) h K =
      p12arrrlrbo C L x12 x13 x0 x7 x8 h (fun x12 x13 x0 x7 x8 h => K .normal (fs [(12, x12), (13, x13), (0, x0), (7, x7), (8, x8)]) h) (fun x8 h => K (.exit 0) (fs [(8, x8)]) h) := by
  kernel_rfl
noncomputable def p12arrrlrbw (C : CF) (L : Nat) {β : Type} (kx0 : Value → H → Option β) : Nat → Value → Value → Value → Value → Value → H → Option β
  | 0, _, _, _, _, _, _ => none
  | n + 1, x12, x13, x0, x7, x8, h => p12arrrlrbo C L x12 x13 x0 x7 x8 h (fun x12 x13 x0 x7 x8 h => p12arrrlrbw C L kx0 n x12 x13 x0 x7 x8 h) kx0
theorem ep12arrrlrbw (C : CF) (L : Nat) {β : Type} (K : Ex → T Value → H → Option β) : ∀ (n : Nat) (x12 : Value) (x13 : Value) (x0 : Value) (x7 : Value) (x8 : Value) (h : H),
    loopK (fun fr h K => execK Try.prog C L 0 31 [6] c12arrrlrbo [12, 13, 0, 7, 8] [(0, [8])] fr h K) n (fs [(12, x12), (13, x13), (0, x0), (7, x7), (8, x8)]) h K =
      p12arrrlrbw C L (fun x8 h => K (.exit 0) (fs [(8, x8)]) h) n x12 x13 x0 x7 x8 h := by
  intro n
  induction n with
  | zero => intros; rfl
  | succ n ih =>
    intros
    simp only [loopK]
    rw [ep12arrrlrbo]
    simp only [seqK, ih]
    rfl
noncomputable def p12arrrlrb (C : CF) (L : Nat) {β : Type} (x12 : Value) (x13 : Value) (x0 : Value) (x7 : Value) (x8 : Value) (h : H) (kx0 : Value → H → Option β) : Option β :=
  p12arrrlrbw C L kx0 L x12 x13 x0 x7 x8 h
theorem ep12arrrlrb (C : CF) (L : Nat) {β : Type} (x12 : Value) (x13 : Value) (x0 : Value) (x7 : Value) (x8 : Value) (h : H) (K : Ex → T Value → H → Option β) :
    execK Try.prog C L 0 31 [6] c12arrrlrb [8] [(0, [8])] (fs [(12, x12), (13, x13), (0, x0), (7, x7), (8, x8)]) h K =
      p12arrrlrb C L x12 x13 x0 x7 x8 h (fun x8 h => K (.exit 0) (fs [(8, x8)]) h) := by
  rw [execK_loop (b := c12arrrlrbo) (fr1 := (fs [(12, x12), (13, x13), (0, x0), (7, x7), (8, x8)])) (by kernel_rfl) (show live [6] c12arrrlrbo [] [(0, [8])] = [12, 13, 0, 7, 8] by kernel_rfl) (by kernel_rfl), ep12arrrlrbw]
  rfl
noncomputable def p12arrrlr (C : CF) (L : Nat) {β : Type} (x12 : Value) (x13 : Value) (x0 : Value) (x7 : Value) (x8 : Value) (h : H) (kn : Value → H → Option β) : Option β :=
  p12arrrlrb C L x12 x13 x0 x7 x8 h kn
theorem ep12arrrlr (C : CF) (L : Nat) {β : Type} (x12 : Value) (x13 : Value) (x0 : Value) (x7 : Value) (x8 : Value) (h : H) (K : Ex → T Value → H → Option β) :
    execK Try.prog C L 0 31 [6] c12arrrlr [8] [] (fs [(12, x12), (13, x13), (0, x0), (7, x7), (8, x8)]) h K =
      p12arrrlr C L x12 x13 x0 x7 x8 h (fun x8 h => K .normal (fs [(8, x8)]) h) := by
  rw [execK_block (b := c12arrrlrb) (id := 0) (by kernel_rfl), ep12arrrlrb]
  rfl
noncomputable def p12arrrl (C : CF) (L : Nat) {β : Type} (x0 : Value) (x7 : Value) (x8 : Value) (h : H) (kn : Value → H → Option β) : Option β :=
  p12arrrll C L x0 x7 x8 h (fun x12 x13 x0 x7 x8 h => p12arrrlr C L x12 x13 x0 x7 x8 h kn)
theorem ep12arrrl (C : CF) (L : Nat) {β : Type} (x0 : Value) (x7 : Value) (x8 : Value) (h : H) (K : Ex → T Value → H → Option β) :
    execK Try.prog C L 0 31 [6] c12arrrl [8] [] (fs [(0, x0), (7, x7), (8, x8)]) h K =
      p12arrrl C L x0 x7 x8 h (fun x8 h => K .normal (fs [(8, x8)]) h) := by
  rw [execK_seq (a := c12arrrll) (b := c12arrrlr) (by kernel_rfl) (show live [6] c12arrrlr [8] [] = [12, 13, 0, 7, 8] by kernel_rfl), ep12arrrll]
  simp only [seqK, ep12arrrlr]
  rfl
noncomputable def c12arrrr : Code := cR c12arrr
noncomputable def p12arrrr (C : CF) (L : Nat) {β : Type} (x8 : Value) (h : H) (kr : Value → H → Option β) : Option β :=
  kr x8 h
theorem ep12arrrr (C : CF) (L : Nat) {β : Type} (x8 : Value) (h : H) (K : Ex → T Value → H → Option β) :
    execK Try.prog C L 0 31 [6] c12arrrr [6] [] (fs [(8, x8)]) h K =
      p12arrrr C L x8 h (fun x6 h => K .ret (fs [(6, x6)]) h) := by
  kernel_rfl
noncomputable def p12arrr (C : CF) (L : Nat) {β : Type} (x0 : Value) (x7 : Value) (x8 : Value) (h : H) (kr : Value → H → Option β) : Option β :=
  p12arrrl C L x0 x7 x8 h (fun x8 h => p12arrrr C L x8 h kr)
theorem ep12arrr (C : CF) (L : Nat) {β : Type} (x0 : Value) (x7 : Value) (x8 : Value) (h : H) (K : Ex → T Value → H → Option β) :
    execK Try.prog C L 0 31 [6] c12arrr [6] [] (fs [(0, x0), (7, x7), (8, x8)]) h K =
      p12arrr C L x0 x7 x8 h (fun x6 h => K .ret (fs [(6, x6)]) h) := by
  rw [execK_seq (a := c12arrrl) (b := c12arrrr) (by kernel_rfl) (show live [6] c12arrrr [6] [] = [8] by kernel_rfl), ep12arrrl]
  simp only [seqK, ep12arrrr]
  rfl
noncomputable def p12arr (C : CF) (L : Nat) {β : Type} (x0 : Value) (x7 : Value) (h : H) (kr : Value → H → Option β) : Option β :=
  p12arrl C L x0 x7 h (fun x0 x7 x8 h => p12arrr C L x0 x7 x8 h kr)
theorem ep12arr (C : CF) (L : Nat) {β : Type} (x0 : Value) (x7 : Value) (h : H) (K : Ex → T Value → H → Option β) :
    execK Try.prog C L 0 31 [6] c12arr [6] [] (fs [(0, x0), (7, x7)]) h K =
      p12arr C L x0 x7 h (fun x6 h => K .ret (fs [(6, x6)]) h) := by
  rw [execK_seq (a := c12arrl) (b := c12arrr) (by kernel_rfl) (show live [6] c12arrr [6] [] = [0, 7, 8] by kernel_rfl), ep12arrl]
  simp only [seqK, ep12arrr]
  rfl
noncomputable def p12ar (C : CF) (L : Nat) {β : Type} (x5 : Value) (x4 : Value) (x0 : Value) (h : H) (kr : Value → H → Option β) : Option β :=
  p12arl C L x5 x4 x0 h (fun x0 x7 h => p12arr C L x0 x7 h kr)
theorem ep12ar (C : CF) (L : Nat) {β : Type} (x5 : Value) (x4 : Value) (x0 : Value) (h : H) (K : Ex → T Value → H → Option β) :
    execK Try.prog C L 0 31 [6] c12ar [6] [] (fs [(5, x5), (4, x4), (0, x0)]) h K =
      p12ar C L x5 x4 x0 h (fun x6 h => K .ret (fs [(6, x6)]) h) := by
  rw [execK_seq (a := c12arl) (b := c12arr) (by kernel_rfl) (show live [6] c12arr [6] [] = [0, 7] by kernel_rfl), ep12arl]
  simp only [seqK, ep12arr]
  rfl
noncomputable def p12a (C : CF) (L : Nat) {β : Type} (x0 : Value) (x1 : Value) (x2 : Value) (h : H) (kr : Value → H → Option β) : Option β :=
  p12al C L x0 x1 x2 h (fun x5 x4 x0 h => p12ar C L x5 x4 x0 h kr)
theorem ep12a (C : CF) (L : Nat) {β : Type} (x0 : Value) (x1 : Value) (x2 : Value) (h : H) (K : Ex → T Value → H → Option β) :
    execK Try.prog C L 0 31 [6] c12a [6] [] (fs [(0, x0), (1, x1), (2, x2)]) h K =
      p12a C L x0 x1 x2 h (fun x6 h => K .ret (fs [(6, x6)]) h) := by
  rw [execK_seq (a := c12al) (b := c12ar) (by kernel_rfl) (show live [6] c12ar [6] [] = [5, 4, 0] by kernel_rfl), ep12al]
  simp only [seqK, ep12ar]
  rfl
noncomputable def F12 (C : CF) (L : Nat) (x0 : Value) (x1 : Value) (x2 : Value) (h : H) : Option (Value × H) :=
  p12a C L x0 x1 x2 h
    (fun x6 h => some (x6, h))
theorem F12eq (O : List FuncId) (hO : O.any (Nat.beq 12) = false) (n : Nat) (x0 : Value) (x1 : Value) (x2 : Value) (h : H) : callB Try.prog 0 O (n + 1) 12 [x0, x1, x2] h = F12 (callB Try.prog 0 O n) n x0 x1 x2 h := by
  rw [callB_eq hO (c := c12a) (nt := 31) (RR := [6]) (fr := (fs [(0, x0), (1, x1), (2, x2)])) Try.func12 (by kernel_rfl) (by kernel_rfl) (by kernel_rfl) (by kernel_rfl) (by kernel_rfl), ep12a]
  kernel_rfl

/-! F14: relayhouse/relayhouselaw17.copied -/
noncomputable def c14a : Code := (Try.f14.body).getD .skip
noncomputable def p14a (C : CF) (L : Nat) {β : Type} (x0 : Value) (h : H) (kr : Value → H → Option β) : Option β :=
  bnd2 (A.box 35 x0 h) fun t1 hq1 =>
  bnd2 (A.box 35 Z36 hq1) fun t2 hq2 =>
  bnd2 (A.buildSlice 2 0 Z57L [] hq2) fun t3 hq3 =>
  bnd (A.fieldAddr 4 t1) fun t4 =>
  bnd (A.fieldAddr 22 t4) fun t5 =>
  bnd (A.load false 1 t5 hq3) fun t6 =>
  bnd2 (A.append 2 24 t3 t6 hq3) fun t7 hq4 =>
  bnd (A.fieldAddr 4 t1) fun t8 =>
  bnd (A.fieldAddr 22 t8) fun t9 =>
  bnd (A.store 1 t9 t7 hq4) fun hq5 =>
  bnd (A.load true 35 t1 hq5) fun t10 =>
  bnd (A.store 35 t2 t10 hq5) fun hq6 =>
  kr t2 hq6
theorem ep14a (C : CF) (L : Nat) {β : Type} (x0 : Value) (h : H) (K : Ex → T Value → H → Option β) :
    execK Try.prog C L 0 11 [2] c14a [2] [] (fs [(0, x0)]) h K =
      p14a C L x0 h (fun x2 h => K .ret (fs [(2, x2)]) h) := by
  kernel_rfl
noncomputable def F14 (C : CF) (L : Nat) (x0 : Value) (h : H) : Option (Value × H) :=
  p14a C L x0 h
    (fun x2 h => bnd (resC (A.load true 35 x2 h) (some [])) fun vs => some (packA vs, h))
theorem F14eq (O : List FuncId) (hO : O.any (Nat.beq 14) = false) (n : Nat) (x0 : Value) (h : H) : callB Try.prog 0 O (n + 1) 14 [x0] h = F14 (callB Try.prog 0 O n) n x0 h := by
  rw [callB_eq hO (c := c14a) (nt := 11) (RR := [2]) (fr := (fs [(0, x0)])) Try.func14 (by kernel_rfl) (by kernel_rfl) (by kernel_rfl) (by kernel_rfl) (by kernel_rfl), ep14a]
  kernel_rfl

/-! F15: (*relayhouse/record.Log).At -/
noncomputable def c15a : Code := (Try.f15.body).getD .skip
noncomputable def p15a (C : CF) (L : Nat) {β : Type} (x0 : Value) (x1 : Value) (h : H) (kr : Value → Value → H → Option β) : Option β :=
  bnd2 (A.box 35 Z36 h) fun t4 hq1 =>
  bnd (A.bin Try.prog .lss 3 x1 (.int .i64 0)) fun t7 =>
  toBK t7 fun b =>
  (bif b then
  bnd (A.build Z36L []) fun t14 =>
  bnd (A.store 35 t4 t14 hq1) fun hq2 =>
  kr t4 (.bool false) hq2
  else
  bnd2 (C 19 [x0] hq1) fun t11 hq3 =>
  bnd (A.bin Try.prog .geq 3 x1 t11) fun t12 =>
  toBK t12 fun bq1 =>
  (bif bq1 then
  bnd (A.build Z36L []) fun t14q1 =>
  bnd (A.store 35 t4 t14q1 hq3) fun hq4 =>
  kr t4 (.bool false) hq4
  else
  bnd (A.nilCheck x0) fun t16 =>
  bnd (A.fieldAddr 0 t16) fun t17 =>
  bnd (A.load false 1 t17 hq3) fun t18 =>
  bnd (A.idxS 35 t18 x1) fun t20 =>
  bnd (A.load true 35 t20 hq3) fun t21 =>
  bnd2 (C 29 [t21] hq3) fun t22 hq5 =>
  bnd (A.store 35 t4 t22 hq5) fun hq6 =>
  kr t4 (.bool true) hq6))
theorem ep15a (C : CF) (L : Nat) {β : Type} (x0 : Value) (x1 : Value) (h : H) (K : Ex → T Value → H → Option β) :
    execK Try.prog C L 0 23 [4, 5] c15a [4, 5] [] (fs [(0, x0), (1, x1)]) h K =
      p15a C L x0 x1 h (fun x4 x5 h => K .ret (fs [(4, x4), (5, x5)]) h) := by
  kernel_rfl
noncomputable def F15 (C : CF) (L : Nat) (x0 : Value) (x1 : Value) (h : H) : Option (Value × H) :=
  p15a C L x0 x1 h
    (fun x4 x5 h => bnd (resC (A.load true 35 x4 h) (resC (some x5) (some []))) fun vs => some (packA vs, h))
theorem F15eq (O : List FuncId) (hO : O.any (Nat.beq 15) = false) (n : Nat) (x0 : Value) (x1 : Value) (h : H) : callB Try.prog 0 O (n + 1) 15 [x0, x1] h = F15 (callB Try.prog 0 O n) n x0 x1 h := by
  rw [callB_eq hO (c := c15a) (nt := 23) (RR := [4, 5]) (fr := (fs [(0, x0), (1, x1)])) Try.func15 (by kernel_rfl) (by kernel_rfl) (by kernel_rfl) (by kernel_rfl) (by kernel_rfl), ep15a]
  kernel_rfl

/-! F18: (*relayhouse/record.Log).All -/
noncomputable def c18a : Code := (Try.f18.body).getD .skip
noncomputable def c18al : Code := cL c18a
noncomputable def p18al (C : CF) (L : Nat) {β : Type} (x0 : Value) (h : H) (kn : Value → H → Option β) : Option β :=
  kn x0 h
theorem ep18al (C : CF) (L : Nat) {β : Type} (x0 : Value) (h : H) (K : Ex → T Value → H → Option β) :
    execK Try.prog C L 0 23 [2] c18al [0] [] (fs [(0, x0)]) h K =
      p18al C L x0 h (fun x0 h => K .normal (fs [(0, x0)]) h) := by
  kernel_rfl
noncomputable def c18ar : Code := cR c18a
noncomputable def c18arl : Code := cL c18ar
noncomputable def p18arl (C : CF) (L : Nat) {β : Type} (x0 : Value) (h : H) (kn : Value → Value → H → Option β) : Option β :=
  kn x0 (.slice none 0 0) h
theorem ep18arl (C : CF) (L : Nat) {β : Type} (x0 : Value) (h : H) (K : Ex → T Value → H → Option β) :
    execK Try.prog C L 0 23 [2] c18arl [0, 3] [] (fs [(0, x0)]) h K =
      p18arl C L x0 h (fun x0 x3 h => K .normal (fs [(0, x0), (3, x3)]) h) := by
  kernel_rfl
noncomputable def c18arr : Code := cR c18ar
noncomputable def c18arrl : Code := cL c18arr
noncomputable def c18arrll : Code := cL c18arrl
noncomputable def p18arrll (C : CF) (L : Nat) {β : Type} (x0 : Value) (x3 : Value) (h : H) (kn : Value → Value → Value → Value → H → Option β) : Option β :=
  bnd2 (C 19 [x0] h) fun t6 hq1 =>
  kn t6 (.int .i64 0) x0 x3 hq1
theorem ep18arrll (C : CF) (L : Nat) {β : Type} (x0 : Value) (x3 : Value) (h : H) (K : Ex → T Value → H → Option β) :
    execK Try.prog C L 0 23 [2] c18arrll [6, 7, 0, 3] [] (fs [(0, x0), (3, x3)]) h K =
      p18arrll C L x0 x3 h (fun x6 x7 x0 x3 h => K .normal (fs [(6, x6), (7, x7), (0, x0), (3, x3)]) h) := by
  kernel_rfl
noncomputable def c18arrlr : Code := cR c18arrl
noncomputable def c18arrlrb : Code := cL c18arrlr
noncomputable def c18arrlrbo : Code := cL c18arrlrb
noncomputable def p18arrlrbo (C : CF) (L : Nat) {β : Type} (x6 : Value) (x7 : Value) (x0 : Value) (x3 : Value) (h : H) (kn : Value → Value → Value → Value → H → Option β) (kx0 : Value → H → Option β) : Option β :=
  bnd (A.bin Try.prog .lss 3 x7 x6) fun t8 =>
  toBK t8 fun b =>
  (bif b then
  bnd (A.nilCheck x0) fun t12 =>
  bnd (A.fieldAddr 0 t12) fun t13 =>
  bnd (A.load false 1 t13 h) fun t14 =>
  bnd (A.idxS 35 t14 x7) fun t16 =>
  bnd (A.load true 35 t16 h) fun t17 =>
  bnd2 (C 29 [t17] h) fun t18 hq1 =>
  bnd2 (A.buildSlice 35 1 Z36L [(0, 35, t18)] hq1) fun t19 hq2 =>
  bnd2 (A.append 35 304 x3 t19 hq2) fun t20 hq3 =>
  bnd (A.bin Try.prog .add 3 x7 (.int .i64 1)) fun t21 =>
  kn x6 t21 x0 t20 hq3
  else
  kx0 x3 h)
theorem ep18arrlrbo (C : CF) (L : Nat) {β : Type} (x6 : Value) (x7 : Value) (x0 : Value) (x3 : Value) (h : H) (K : Ex → T Value → H → Option β) :
    execK Try.prog C L 0 23 [2] c18arrlrbo [6, 7, 0, 3] [(0, [3])] (fs [(6, x6), (7, x7), (0, x0), (3, x3)]) h K =
      p18arrlrbo C L x6 x7 x0 x3 h (fun x6 x7 x0 x3 h => K .normal (fs [(6, x6), (7, x7), (0, x0), (3, x3)]) h) (fun x3 h => K (.exit 0) (fs [(3, x3)]) h) := by
  kernel_rfl
noncomputable def p18arrlrbw (C : CF) (L : Nat) {β : Type} (kx0 : Value → H → Option β) : Nat → Value → Value → Value → Value → H → Option β
  | 0, _, _, _, _, _ => none
  | n + 1, x6, x7, x0, x3, h => p18arrlrbo C L x6 x7 x0 x3 h (fun x6 x7 x0 x3 h => p18arrlrbw C L kx0 n x6 x7 x0 x3 h) kx0
theorem ep18arrlrbw (C : CF) (L : Nat) {β : Type} (K : Ex → T Value → H → Option β) : ∀ (n : Nat) (x6 : Value) (x7 : Value) (x0 : Value) (x3 : Value) (h : H),
    loopK (fun fr h K => execK Try.prog C L 0 23 [2] c18arrlrbo [6, 7, 0, 3] [(0, [3])] fr h K) n (fs [(6, x6), (7, x7), (0, x0), (3, x3)]) h K =
      p18arrlrbw C L (fun x3 h => K (.exit 0) (fs [(3, x3)]) h) n x6 x7 x0 x3 h := by
  intro n
  induction n with
  | zero => intros; rfl
  | succ n ih =>
    intros
    simp only [loopK]
    rw [ep18arrlrbo]
    simp only [seqK, ih]
    rfl
noncomputable def p18arrlrb (C : CF) (L : Nat) {β : Type} (x6 : Value) (x7 : Value) (x0 : Value) (x3 : Value) (h : H) (kx0 : Value → H → Option β) : Option β :=
  p18arrlrbw C L kx0 L x6 x7 x0 x3 h
theorem ep18arrlrb (C : CF) (L : Nat) {β : Type} (x6 : Value) (x7 : Value) (x0 : Value) (x3 : Value) (h : H) (K : Ex → T Value → H → Option β) :
    execK Try.prog C L 0 23 [2] c18arrlrb [3] [(0, [3])] (fs [(6, x6), (7, x7), (0, x0), (3, x3)]) h K =
      p18arrlrb C L x6 x7 x0 x3 h (fun x3 h => K (.exit 0) (fs [(3, x3)]) h) := by
  rw [execK_loop (b := c18arrlrbo) (fr1 := (fs [(6, x6), (7, x7), (0, x0), (3, x3)])) (by kernel_rfl) (show live [2] c18arrlrbo [] [(0, [3])] = [6, 7, 0, 3] by kernel_rfl) (by kernel_rfl), ep18arrlrbw]
  rfl
noncomputable def p18arrlr (C : CF) (L : Nat) {β : Type} (x6 : Value) (x7 : Value) (x0 : Value) (x3 : Value) (h : H) (kn : Value → H → Option β) : Option β :=
  p18arrlrb C L x6 x7 x0 x3 h kn
theorem ep18arrlr (C : CF) (L : Nat) {β : Type} (x6 : Value) (x7 : Value) (x0 : Value) (x3 : Value) (h : H) (K : Ex → T Value → H → Option β) :
    execK Try.prog C L 0 23 [2] c18arrlr [3] [] (fs [(6, x6), (7, x7), (0, x0), (3, x3)]) h K =
      p18arrlr C L x6 x7 x0 x3 h (fun x3 h => K .normal (fs [(3, x3)]) h) := by
  rw [execK_block (b := c18arrlrb) (id := 0) (by kernel_rfl), ep18arrlrb]
  rfl
noncomputable def p18arrl (C : CF) (L : Nat) {β : Type} (x0 : Value) (x3 : Value) (h : H) (kn : Value → H → Option β) : Option β :=
  p18arrll C L x0 x3 h (fun x6 x7 x0 x3 h => p18arrlr C L x6 x7 x0 x3 h kn)
theorem ep18arrl (C : CF) (L : Nat) {β : Type} (x0 : Value) (x3 : Value) (h : H) (K : Ex → T Value → H → Option β) :
    execK Try.prog C L 0 23 [2] c18arrl [3] [] (fs [(0, x0), (3, x3)]) h K =
      p18arrl C L x0 x3 h (fun x3 h => K .normal (fs [(3, x3)]) h) := by
  rw [execK_seq (a := c18arrll) (b := c18arrlr) (by kernel_rfl) (show live [2] c18arrlr [3] [] = [6, 7, 0, 3] by kernel_rfl), ep18arrll]
  simp only [seqK, ep18arrlr]
  rfl
noncomputable def c18arrr : Code := cR c18arr
noncomputable def p18arrr (C : CF) (L : Nat) {β : Type} (x3 : Value) (h : H) (kr : Value → H → Option β) : Option β :=
  kr x3 h
theorem ep18arrr (C : CF) (L : Nat) {β : Type} (x3 : Value) (h : H) (K : Ex → T Value → H → Option β) :
    execK Try.prog C L 0 23 [2] c18arrr [2] [] (fs [(3, x3)]) h K =
      p18arrr C L x3 h (fun x2 h => K .ret (fs [(2, x2)]) h) := by
  kernel_rfl
noncomputable def p18arr (C : CF) (L : Nat) {β : Type} (x0 : Value) (x3 : Value) (h : H) (kr : Value → H → Option β) : Option β :=
  p18arrl C L x0 x3 h (fun x3 h => p18arrr C L x3 h kr)
theorem ep18arr (C : CF) (L : Nat) {β : Type} (x0 : Value) (x3 : Value) (h : H) (K : Ex → T Value → H → Option β) :
    execK Try.prog C L 0 23 [2] c18arr [2] [] (fs [(0, x0), (3, x3)]) h K =
      p18arr C L x0 x3 h (fun x2 h => K .ret (fs [(2, x2)]) h) := by
  rw [execK_seq (a := c18arrl) (b := c18arrr) (by kernel_rfl) (show live [2] c18arrr [2] [] = [3] by kernel_rfl), ep18arrl]
  simp only [seqK, ep18arrr]
  rfl
noncomputable def p18ar (C : CF) (L : Nat) {β : Type} (x0 : Value) (h : H) (kr : Value → H → Option β) : Option β :=
  p18arl C L x0 h (fun x0 x3 h => p18arr C L x0 x3 h kr)
theorem ep18ar (C : CF) (L : Nat) {β : Type} (x0 : Value) (h : H) (K : Ex → T Value → H → Option β) :
    execK Try.prog C L 0 23 [2] c18ar [2] [] (fs [(0, x0)]) h K =
      p18ar C L x0 h (fun x2 h => K .ret (fs [(2, x2)]) h) := by
  rw [execK_seq (a := c18arl) (b := c18arr) (by kernel_rfl) (show live [2] c18arr [2] [] = [0, 3] by kernel_rfl), ep18arl]
  simp only [seqK, ep18arr]
  rfl
noncomputable def p18a (C : CF) (L : Nat) {β : Type} (x0 : Value) (h : H) (kr : Value → H → Option β) : Option β :=
  p18al C L x0 h (fun x0 h => p18ar C L x0 h kr)
theorem ep18a (C : CF) (L : Nat) {β : Type} (x0 : Value) (h : H) (K : Ex → T Value → H → Option β) :
    execK Try.prog C L 0 23 [2] c18a [2] [] (fs [(0, x0)]) h K =
      p18a C L x0 h (fun x2 h => K .ret (fs [(2, x2)]) h) := by
  rw [execK_seq (a := c18al) (b := c18ar) (by kernel_rfl) (show live [2] c18ar [2] [] = [0] by kernel_rfl), ep18al]
  simp only [seqK, ep18ar]
  rfl
noncomputable def F18 (C : CF) (L : Nat) (x0 : Value) (h : H) : Option (Value × H) :=
  p18a C L x0 h
    (fun x2 h => some (x2, h))
theorem F18eq (O : List FuncId) (hO : O.any (Nat.beq 18) = false) (n : Nat) (x0 : Value) (h : H) : callB Try.prog 0 O (n + 1) 18 [x0] h = F18 (callB Try.prog 0 O n) n x0 h := by
  rw [callB_eq hO (c := c18a) (nt := 23) (RR := [2]) (fr := (fs [(0, x0)])) Try.func18 (by kernel_rfl) (by kernel_rfl) (by kernel_rfl) (by kernel_rfl) (by kernel_rfl), ep18a]
  kernel_rfl

/-! F19: (*relayhouse/record.Log).Len -/
noncomputable def c19a : Code := (Try.f19.body).getD .skip
noncomputable def p19a (C : CF) (L : Nat) {β : Type} (x0 : Value) (h : H) (kr : Value → H → Option β) : Option β :=
  bnd (A.bin Try.prog .eql 25 x0 (.pointer none)) fun t4 =>
  toBK t4 fun b =>
  (bif b then
  kr (.int .i64 0) h
  else
  bnd (A.nilCheck x0) fun t6 =>
  bnd (A.fieldAddr 0 t6) fun t7 =>
  bnd (A.load false 1 t7 h) fun t8 =>
  bnd (A.lenS t8) fun t9 =>
  kr t9 h)
theorem ep19a (C : CF) (L : Nat) {β : Type} (x0 : Value) (h : H) (K : Ex → T Value → H → Option β) :
    execK Try.prog C L 0 10 [2] c19a [2] [] (fs [(0, x0)]) h K =
      p19a C L x0 h (fun x2 h => K .ret (fs [(2, x2)]) h) := by
  kernel_rfl
noncomputable def F19 (C : CF) (L : Nat) (x0 : Value) (h : H) : Option (Value × H) :=
  p19a C L x0 h
    (fun x2 h => some (x2, h))
theorem F19eq (O : List FuncId) (hO : O.any (Nat.beq 19) = false) (n : Nat) (x0 : Value) (h : H) : callB Try.prog 0 O (n + 1) 19 [x0] h = F19 (callB Try.prog 0 O n) n x0 h := by
  rw [callB_eq hO (c := c19a) (nt := 10) (RR := [2]) (fr := (fs [(0, x0)])) Try.func19 (by kernel_rfl) (by kernel_rfl) (by kernel_rfl) (by kernel_rfl) (by kernel_rfl), ep19a]
  kernel_rfl

/-! F23: (*relayhouse/record.Log).Add -/
noncomputable def c23a : Code := (Try.f23.body).getD .skip
noncomputable def p23a (C : CF) (L : Nat) {β : Type} (x0 : Value) (x1 : Value) (h : H) (kr : Value → H → Option β) : Option β :=
  bnd2 (A.box 35 x1 h) fun t3 hq1 =>
  bnd (A.bin Try.prog .eql 25 x0 (.pointer none)) fun t6 =>
  toBK t6 fun b =>
  (bif b then
  kr (.int .i64 (-1)) hq1
  else
  bnd (A.nilCheck x0) fun t9 =>
  bnd (A.fieldAddr 0 t9) fun t10 =>
  bnd (A.load false 1 t10 hq1) fun t11 =>
  bnd (A.load true 35 t3 hq1) fun t12 =>
  bnd2 (C 29 [t12] hq1) fun t13 hq2 =>
  bif (chk (bnd (A.load false 1 t10 hq2) fun v => some v) t11 && true) then
  bnd2 (A.buildSlice 35 1 Z36L [(0, 35, t13)] hq2) fun t14 hq3 =>
  bnd2 (A.append 35 304 t11 t14 hq3) fun t15 hq4 =>
  bnd (A.nilCheck x0) fun t16 =>
  bnd (A.fieldAddr 0 t16) fun t17 =>
  bnd (A.store 1 t17 t15 hq4) fun hq5 =>
  bnd (A.nilCheck x0) fun t19 =>
  bnd (A.fieldAddr 0 t19) fun t20 =>
  bnd (A.load false 1 t20 hq5) fun t21 =>
  bnd (A.lenS t21) fun t22 =>
  bnd (A.bin Try.prog .sub 3 t22 (.int .i64 1)) fun t23 =>
  kr t23 hq5
  else none)
theorem ep23a (C : CF) (L : Nat) {β : Type} (x0 : Value) (x1 : Value) (h : H) (K : Ex → T Value → H → Option β) :
    execK Try.prog C L 0 24 [4] c23a [4] [] (fs [(0, x0), (1, x1)]) h K =
      p23a C L x0 x1 h (fun x4 h => K .ret (fs [(4, x4)]) h) := by
  kernel_rfl
noncomputable def F23 (C : CF) (L : Nat) (x0 : Value) (x1 : Value) (h : H) : Option (Value × H) :=
  p23a C L x0 x1 h
    (fun x4 h => some (x4, h))
theorem F23eq (O : List FuncId) (hO : O.any (Nat.beq 23) = false) (n : Nat) (x0 : Value) (x1 : Value) (h : H) : callB Try.prog 0 O (n + 1) 23 [x0, x1] h = F23 (callB Try.prog 0 O n) n x0 x1 h := by
  rw [callB_eq hO (c := c23a) (nt := 24) (RR := [4]) (fr := (fs [(0, x0), (1, x1)])) Try.func23 (by kernel_rfl) (by kernel_rfl) (by kernel_rfl) (by kernel_rfl) (by kernel_rfl), ep23a]
  kernel_rfl

/-! F24: (*relayhouse/record.Log).Op -/
noncomputable def c24a : Code := (Try.f24.body).getD .skip
noncomputable def p24a (C : CF) (L : Nat) {β : Type} (x0 : Value) (h : H) (kr : Value → H → Option β) : Option β :=
  bnd (A.bin Try.prog .eql 25 x0 (.pointer none)) fun t4 =>
  toBK t4 fun b =>
  (bif b then
  kr (.int .i64 0) h
  else
  bnd (A.nilCheck x0) fun t6 =>
  bnd (A.fieldAddr 1 t6) fun t7 =>
  bnd (A.load false 1 t7 h) fun t8 =>
  bnd (A.bin Try.prog .add 3 t8 (.int .i64 1)) fun t9 =>
  bnd (A.nilCheck x0) fun t10 =>
  bnd (A.fieldAddr 1 t10) fun t11 =>
  bnd (A.store 1 t11 t9 h) fun hq1 =>
  bnd (A.nilCheck x0) fun t13 =>
  bnd (A.fieldAddr 1 t13) fun t14 =>
  bnd (A.load false 1 t14 hq1) fun t15 =>
  kr t15 hq1)
theorem ep24a (C : CF) (L : Nat) {β : Type} (x0 : Value) (h : H) (K : Ex → T Value → H → Option β) :
    execK Try.prog C L 0 16 [2] c24a [2] [] (fs [(0, x0)]) h K =
      p24a C L x0 h (fun x2 h => K .ret (fs [(2, x2)]) h) := by
  kernel_rfl
noncomputable def F24 (C : CF) (L : Nat) (x0 : Value) (h : H) : Option (Value × H) :=
  p24a C L x0 h
    (fun x2 h => some (x2, h))
theorem F24eq (O : List FuncId) (hO : O.any (Nat.beq 24) = false) (n : Nat) (x0 : Value) (h : H) : callB Try.prog 0 O (n + 1) 24 [x0] h = F24 (callB Try.prog 0 O n) n x0 h := by
  rw [callB_eq hO (c := c24a) (nt := 16) (RR := [2]) (fr := (fs [(0, x0)])) Try.func24 (by kernel_rfl) (by kernel_rfl) (by kernel_rfl) (by kernel_rfl) (by kernel_rfl), ep24a]
  kernel_rfl

/-! F25: relayhouse/record.New -/
noncomputable def c25a : Code := (Try.f25.body).getD .skip
noncomputable def p25a (C : CF) (L : Nat) {β : Type} (h : H) (kr : Value → H → Option β) : Option β :=
  bnd (A.build Z63L []) fun t1 =>
  bnd2 (A.box 2 t1 h) fun t2 hq1 =>
  kr t2 hq1
theorem ep25a (C : CF) (L : Nat) {β : Type} (h : H) (K : Ex → T Value → H → Option β) :
    execK Try.prog C L 0 3 [0] c25a [0] [] (fs []) h K =
      p25a C L h (fun x0 h => K .ret (fs [(0, x0)]) h) := by
  kernel_rfl
noncomputable def F25 (C : CF) (L : Nat) (h : H) : Option (Value × H) :=
  p25a C L h
    (fun x0 h => some (x0, h))
theorem F25eq (O : List FuncId) (hO : O.any (Nat.beq 25) = false) (n : Nat) (h : H) : callB Try.prog 0 O (n + 1) 25 [] h = F25 (callB Try.prog 0 O n) n h := by
  rw [callB_eq hO (c := c25a) (nt := 3) (RR := [0]) (fr := (fs [])) Try.func25 (by kernel_rfl) (by kernel_rfl) (by kernel_rfl) (by kernel_rfl) (by kernel_rfl), ep25a]
  kernel_rfl

/-! F26: relayhouse/record.Same -/
noncomputable def c26a : Code := (Try.f26.body).getD .skip
noncomputable def c26al : Code := cL c26a
noncomputable def p26al (C : CF) (L : Nat) {β : Type} (x0 : Value) (x1 : Value) (h : H) (kn : Value → Value → H → Option β) : Option β :=
  bnd2 (A.box 35 x0 h) fun t2 hq1 =>
  bnd2 (A.box 35 x1 hq1) fun t3 hq2 =>
  kn t2 t3 hq2
theorem ep26al (C : CF) (L : Nat) {β : Type} (x0 : Value) (x1 : Value) (h : H) (K : Ex → T Value → H → Option β) :
    execK Try.prog C L 0 68 [4] c26al [2, 3] [] (fs [(0, x0), (1, x1)]) h K =
      p26al C L x0 x1 h (fun x2 x3 h => K .normal (fs [(2, x2), (3, x3)]) h) := by
  kernel_rfl
noncomputable def c26ar : Code := cR c26a
noncomputable def c26arl : Code := cL c26ar
noncomputable def p26arl (C : CF) (L : Nat) {β : Type} (x2 : Value) (x3 : Value) (h : H) (kn : Value → Value → Value → H → Option β) : Option β :=
  bnd (A.fieldAddr 0 x2) fun t6 =>
  bnd (A.load false 1 t6 h) fun t7 =>
  bnd (A.fieldAddr 0 x3) fun t8 =>
  bnd (A.load false 1 t8 h) fun t9 =>
  bnd (A.bin Try.prog .eql 5 t7 t9) fun t10 =>
  toBK t10 fun b =>
  (bif b then
  bnd (A.fieldAddr 1 x2) fun t12 =>
  bnd (A.load false 1 t12 h) fun t13 =>
  bnd (A.fieldAddr 1 x3) fun t14 =>
  bnd (A.load false 1 t14 h) fun t15 =>
  bnd (A.bin Try.prog .eql 3 t13 t15) fun t16 =>
  toBK t16 fun bq1 =>
  (bif bq1 then
  bnd (A.fieldAddr 2 x2) fun t19 =>
  bnd (A.load false 1 t19 h) fun t20 =>
  bnd (A.fieldAddr 2 x3) fun t21 =>
  bnd (A.load false 1 t21 h) fun t22 =>
  bnd (A.bin Try.prog .eql 3 t20 t22) fun t23 =>
  toBK t23 fun bq2 =>
  (bif bq2 then
  bnd (A.fieldAddr 3 x2) fun t26 =>
  bnd (A.load false 1 t26 h) fun t27 =>
  bnd (A.fieldAddr 3 x3) fun t28 =>
  bnd (A.load false 1 t28 h) fun t29 =>
  bnd (A.bin Try.prog .eql 9 t27 t29) fun t30 =>
  toBK t30 fun bq3 =>
  (bif bq3 then
  bnd (A.fieldAddr 32 x2) fun t33 =>
  bnd (A.load false 1 t33 h) fun t34 =>
  bnd (A.fieldAddr 32 x3) fun t35 =>
  bnd (A.load false 1 t35 h) fun t36 =>
  bnd (A.bin Try.prog .eql 9 t34 t36) fun t37 =>
  toBK t37 fun bq4 =>
  kn (.bool bq4) x2 x3 h
  else
  kn (.bool false) x2 x3 h)
  else
  kn (.bool false) x2 x3 h)
  else
  kn (.bool false) x2 x3 h)
  else
  kn (.bool false) x2 x3 h)
theorem ep26arl (C : CF) (L : Nat) {β : Type} (x2 : Value) (x3 : Value) (h : H) (K : Ex → T Value → H → Option β) :
    execK Try.prog C L 0 68 [4] c26arl [5, 2, 3] [] (fs [(2, x2), (3, x3)]) h K =
      p26arl C L x2 x3 h (fun x5 x2 x3 h => K .normal (fs [(5, x5), (2, x2), (3, x3)]) h) := by
  kernel_rfl
noncomputable def c26arr : Code := cR c26ar
noncomputable def p26arr (C : CF) (L : Nat) {β : Type} (x5 : Value) (x2 : Value) (x3 : Value) (h : H) (kr : Value → H → Option β) : Option β :=
  toBK x5 fun b =>
  (bif b then
  bnd (A.fieldAddr 28 x2) fun t41 =>
  bnd (A.load true 4 t41 h) fun t42 =>
  bnd (A.fieldAddr 28 x3) fun t43 =>
  bnd (A.load true 4 t43 h) fun t44 =>
  bnd (A.bin Try.prog .eql 31 t42 t44) fun t45 =>
  toBK t45 fun bq1 =>
  (bif bq1 then
  bnd (A.fieldAddr 33 x2) fun t48 =>
  bnd (A.load false 1 t48 h) fun t49 =>
  toBK t49 fun bq2 =>
  bnd (A.fieldAddr 33 x3) fun t50 =>
  bnd (A.load false 1 t50 h) fun t51 =>
  toBK t51 fun bq3 =>
  bnd (A.bin Try.prog .eql 4 (.bool bq2) (.bool bq3)) fun t52 =>
  toBK t52 fun bq4 =>
  (bif bq4 then
  bnd (A.fieldAddr 34 x2) fun t55 =>
  bnd (A.load false 1 t55 h) fun t56 =>
  bnd (A.fieldAddr 34 x3) fun t57 =>
  bnd (A.load false 1 t57 h) fun t58 =>
  bnd (A.bin Try.prog .eql 5 t56 t58) fun t59 =>
  toBK t59 fun bq5 =>
  (bif bq5 then
  bnd (A.fieldAddr 4 x2) fun t62 =>
  bnd (A.load true 24 t62 h) fun t63 =>
  bnd (A.fieldAddr 4 x3) fun t64 =>
  bnd (A.load true 24 t64 h) fun t65 =>
  bnd2 (C 31 [t63, t65] h) fun t66 hq1 =>
  toBK t66 fun bq6 =>
  kr (.bool bq6) hq1
  else
  kr (.bool false) h)
  else
  kr (.bool false) h)
  else
  kr (.bool false) h)
  else
  kr (.bool false) h)
theorem ep26arr (C : CF) (L : Nat) {β : Type} (x5 : Value) (x2 : Value) (x3 : Value) (h : H) (K : Ex → T Value → H → Option β) :
    execK Try.prog C L 0 68 [4] c26arr [4] [] (fs [(5, x5), (2, x2), (3, x3)]) h K =
      p26arr C L x5 x2 x3 h (fun x4 h => K .ret (fs [(4, x4)]) h) := by
  kernel_rfl
noncomputable def p26ar (C : CF) (L : Nat) {β : Type} (x2 : Value) (x3 : Value) (h : H) (kr : Value → H → Option β) : Option β :=
  p26arl C L x2 x3 h (fun x5 x2 x3 h => p26arr C L x5 x2 x3 h kr)
theorem ep26ar (C : CF) (L : Nat) {β : Type} (x2 : Value) (x3 : Value) (h : H) (K : Ex → T Value → H → Option β) :
    execK Try.prog C L 0 68 [4] c26ar [4] [] (fs [(2, x2), (3, x3)]) h K =
      p26ar C L x2 x3 h (fun x4 h => K .ret (fs [(4, x4)]) h) := by
  rw [execK_seq (a := c26arl) (b := c26arr) (by kernel_rfl) (show live [4] c26arr [4] [] = [5, 2, 3] by kernel_rfl), ep26arl]
  simp only [seqK, ep26arr]
  rfl
noncomputable def p26a (C : CF) (L : Nat) {β : Type} (x0 : Value) (x1 : Value) (h : H) (kr : Value → H → Option β) : Option β :=
  p26al C L x0 x1 h (fun x2 x3 h => p26ar C L x2 x3 h kr)
theorem ep26a (C : CF) (L : Nat) {β : Type} (x0 : Value) (x1 : Value) (h : H) (K : Ex → T Value → H → Option β) :
    execK Try.prog C L 0 68 [4] c26a [4] [] (fs [(0, x0), (1, x1)]) h K =
      p26a C L x0 x1 h (fun x4 h => K .ret (fs [(4, x4)]) h) := by
  rw [execK_seq (a := c26al) (b := c26ar) (by kernel_rfl) (show live [4] c26ar [4] [] = [2, 3] by kernel_rfl), ep26al]
  simp only [seqK, ep26ar]
  rfl
noncomputable def F26 (C : CF) (L : Nat) (x0 : Value) (x1 : Value) (h : H) : Option (Value × H) :=
  p26a C L x0 x1 h
    (fun x4 h => some (x4, h))
theorem F26eq (O : List FuncId) (hO : O.any (Nat.beq 26) = false) (n : Nat) (x0 : Value) (x1 : Value) (h : H) : callB Try.prog 0 O (n + 1) 26 [x0, x1] h = F26 (callB Try.prog 0 O n) n x0 x1 h := by
  rw [callB_eq hO (c := c26a) (nt := 68) (RR := [4]) (fr := (fs [(0, x0), (1, x1)])) Try.func26 (by kernel_rfl) (by kernel_rfl) (by kernel_rfl) (by kernel_rfl) (by kernel_rfl), ep26a]
  kernel_rfl

/-! F27: (*relayhouse/record.Log).Of$1 -/
noncomputable def c27a : Code := (Try.f27.body).getD .skip
noncomputable def p27a (C : CF) (L : Nat) {β : Type} (x0 : Value) (x1 : Value) (x2 : Value) (h : H) (kr : Value → H → Option β) : Option β :=
  bnd2 (A.box 35 x0 h) fun t3 hq1 =>
  bnd (A.fieldAddr 1 t3) fun t5 =>
  bnd (A.load false 1 t5 hq1) fun t6 =>
  bnd (A.load false 1 x1 hq1) fun t7 =>
  bnd (A.bin Try.prog .eql 3 t6 t7) fun t8 =>
  toBK t8 fun b =>
  (bif b then
  bnd (A.load false 1 x2 hq1) fun t10 =>
  bnd (A.lenS t10) fun t11 =>
  bnd (A.bin Try.prog .eql 3 t11 (.int .i64 0)) fun t12 =>
  toBK t12 fun bq1 =>
  (bif bq1 then
  kr (.bool true) hq1
  else
  bnd (A.load false 1 x2 hq1) fun t14 =>
  bnd (A.fieldAddr 0 t3) fun t15 =>
  bnd (A.load false 1 t15 hq1) fun t16 =>
  bnd2 (C 28 [t14, t16] hq1) fun t17 hq2 =>
  toBK t17 fun bq2 =>
  kr (.bool bq2) hq2)
  else
  kr (.bool false) hq1)
theorem ep27a (C : CF) (L : Nat) {β : Type} (x0 : Value) (x1 : Value) (x2 : Value) (h : H) (K : Ex → T Value → H → Option β) :
    execK Try.prog C L 0 20 [4] c27a [4] [] (fs [(0, x0), (1, x1), (2, x2)]) h K =
      p27a C L x0 x1 x2 h (fun x4 h => K .ret (fs [(4, x4)]) h) := by
  kernel_rfl
noncomputable def F27 (C : CF) (L : Nat) (x0 : Value) (x1 : Value) (x2 : Value) (h : H) : Option (Value × H) :=
  p27a C L x0 x1 x2 h
    (fun x4 h => some (x4, h))
theorem F27eq (O : List FuncId) (hO : O.any (Nat.beq 27) = false) (n : Nat) (x0 : Value) (x1 : Value) (x2 : Value) (h : H) : callB Try.prog 0 O (n + 1) 27 [x0, x1, x2] h = F27 (callB Try.prog 0 O n) n x0 x1 x2 h := by
  rw [callB_eq hO (c := c27a) (nt := 20) (RR := [4]) (fr := (fs [(0, x0), (1, x1), (2, x2)])) Try.func27 (by kernel_rfl) (by kernel_rfl) (by kernel_rfl) (by kernel_rfl) (by kernel_rfl), ep27a]
  kernel_rfl

/-! F28: slices.Contains[[]byte,byte] -/
noncomputable def c28a : Code := (Try.f28.body).getD .skip
noncomputable def p28a (C : CF) (L : Nat) {β : Type} (x0 : Value) (x1 : Value) (h : H) (kr : Value → H → Option β) : Option β :=
  bnd2 (C 32 [x0, x1] h) fun t7 hq1 =>
  bnd (A.bin Try.prog .geq 3 t7 (.int .i64 0)) fun t8 =>
  toBK t8 fun b =>
  kr (.bool b) hq1
theorem ep28a (C : CF) (L : Nat) {β : Type} (x0 : Value) (x1 : Value) (h : H) (K : Ex → T Value → H → Option β) :
    execK Try.prog C L 0 9 [4] c28a [4] [] (fs [(0, x0), (1, x1)]) h K =
      p28a C L x0 x1 h (fun x4 h => K .ret (fs [(4, x4)]) h) := by
  kernel_rfl
noncomputable def F28 (C : CF) (L : Nat) (x0 : Value) (x1 : Value) (h : H) : Option (Value × H) :=
  p28a C L x0 x1 h
    (fun x4 h => some (x4, h))
theorem F28eq (O : List FuncId) (hO : O.any (Nat.beq 28) = false) (n : Nat) (x0 : Value) (x1 : Value) (h : H) : callB Try.prog 0 O (n + 1) 28 [x0, x1] h = F28 (callB Try.prog 0 O n) n x0 x1 h := by
  rw [callB_eq hO (c := c28a) (nt := 9) (RR := [4]) (fr := (fs [(0, x0), (1, x1)])) Try.func28 (by kernel_rfl) (by kernel_rfl) (by kernel_rfl) (by kernel_rfl) (by kernel_rfl), ep28a]
  kernel_rfl

/-! F29: relayhouse/record.own -/
noncomputable def c29a : Code := (Try.f29.body).getD .skip
noncomputable def p29a (C : CF) (L : Nat) {β : Type} (x0 : Value) (h : H) (kr : Value → H → Option β) : Option β :=
  bnd2 (A.box 35 x0 h) fun t1 hq1 =>
  bnd2 (A.box 35 Z36 hq1) fun t2 hq2 =>
  bnd (A.fieldAddr 4 t1) fun t3 =>
  bnd (A.fieldAddr 22 t3) fun t4 =>
  bnd (A.load false 1 t4 hq2) fun t5 =>
  bnd2 (C 33 [t5] hq2) fun t6 hq3 =>
  bnd (A.fieldAddr 4 t1) fun t7 =>
  bnd (A.fieldAddr 22 t7) fun t8 =>
  bnd (A.store 1 t8 t6 hq3) fun hq4 =>
  bnd (A.load true 35 t1 hq4) fun t9 =>
  bnd (A.store 35 t2 t9 hq4) fun hq5 =>
  kr t2 hq5
theorem ep29a (C : CF) (L : Nat) {β : Type} (x0 : Value) (h : H) (K : Ex → T Value → H → Option β) :
    execK Try.prog C L 0 10 [2] c29a [2] [] (fs [(0, x0)]) h K =
      p29a C L x0 h (fun x2 h => K .ret (fs [(2, x2)]) h) := by
  kernel_rfl
noncomputable def F29 (C : CF) (L : Nat) (x0 : Value) (h : H) : Option (Value × H) :=
  p29a C L x0 h
    (fun x2 h => bnd (resC (A.load true 35 x2 h) (some [])) fun vs => some (packA vs, h))
theorem F29eq (O : List FuncId) (hO : O.any (Nat.beq 29) = false) (n : Nat) (x0 : Value) (h : H) : callB Try.prog 0 O (n + 1) 29 [x0] h = F29 (callB Try.prog 0 O n) n x0 h := by
  rw [callB_eq hO (c := c29a) (nt := 10) (RR := [2]) (fr := (fs [(0, x0)])) Try.func29 (by kernel_rfl) (by kernel_rfl) (by kernel_rfl) (by kernel_rfl) (by kernel_rfl), ep29a]
  kernel_rfl

/-! F31: relayhouse/packet.Same -/
noncomputable def c31a : Code := (Try.f31.body).getD .skip
noncomputable def c31al : Code := cL c31a
noncomputable def p31al (C : CF) (L : Nat) {β : Type} (x0 : Value) (x1 : Value) (h : H) (kn : Value → Value → H → Option β) : Option β :=
  bnd2 (A.box 24 x0 h) fun t2 hq1 =>
  bnd2 (A.box 24 x1 hq1) fun t3 hq2 =>
  kn t2 t3 hq2
theorem ep31al (C : CF) (L : Nat) {β : Type} (x0 : Value) (x1 : Value) (h : H) (K : Ex → T Value → H → Option β) :
    execK Try.prog C L 0 37 [4] c31al [2, 3] [] (fs [(0, x0), (1, x1)]) h K =
      p31al C L x0 x1 h (fun x2 x3 h => K .normal (fs [(2, x2), (3, x3)]) h) := by
  kernel_rfl
noncomputable def c31ar : Code := cR c31a
noncomputable def c31arl : Code := cL c31ar
noncomputable def p31arl (C : CF) (L : Nat) {β : Type} (x2 : Value) (x3 : Value) (h : H) (kr : Value → H → Option β) (kn : Value → Value → H → Option β) : Option β :=
  bnd (A.load true 24 x2 h) fun t7 =>
  bnd2 (C 34 [t7] h) fun t8 hq1 =>
  bnd (A.load true 24 x3 hq1) fun t9 =>
  bif (chk (bnd (A.load true 24 x3 h) fun v => some v) t9 && true) then
  bnd2 (C 34 [t9] hq1) fun t10 hq2 =>
  bnd (A.bin Try.prog .neq 68 t8 t10) fun t11 =>
  toBK t11 fun b =>
  (bif b then
  kr (.bool false) hq2
  else
  bnd (A.fieldAddr 22 x2) fun t13 =>
  bnd (A.load false 1 t13 hq2) fun t14 =>
  bnd (A.lenS t14) fun t15 =>
  bnd (A.fieldAddr 22 x3) fun t16 =>
  bnd (A.load false 1 t16 hq2) fun t17 =>
  bnd (A.lenS t17) fun t18 =>
  bnd (A.bin Try.prog .neq 3 t15 t18) fun t19 =>
  toBK t19 fun bq1 =>
  (bif bq1 then
  kr (.bool false) hq2
  else
  kn x2 x3 hq2))
  else none
theorem ep31arl (C : CF) (L : Nat) {β : Type} (x2 : Value) (x3 : Value) (h : H) (K : Ex → T Value → H → Option β) :
    execK Try.prog C L 0 37 [4] c31arl [2, 3] [] (fs [(2, x2), (3, x3)]) h K =
      p31arl C L x2 x3 h (fun x4 h => K .ret (fs [(4, x4)]) h) (fun x2 x3 h => K .normal (fs [(2, x2), (3, x3)]) h) := by
  kernel_rfl
noncomputable def c31arr : Code := cR c31ar
noncomputable def c31arrl : Code := cL c31arr
noncomputable def c31arrll : Code := cL c31arrl
noncomputable def p31arrll (C : CF) (L : Nat) {β : Type} (x2 : Value) (x3 : Value) (h : H) (kn : Value → Value → Value → Value → H → Option β) : Option β :=
  bnd (A.fieldAddr 22 x2) fun t21 =>
  bnd (A.load false 1 t21 h) fun t22 =>
  bnd (A.lenS t22) fun t23 =>
  kn t23 (.int .i64 0) x3 t22 h
theorem ep31arrll (C : CF) (L : Nat) {β : Type} (x2 : Value) (x3 : Value) (h : H) (K : Ex → T Value → H → Option β) :
    execK Try.prog C L 0 37 [4] c31arrll [23, 24, 3, 22] [] (fs [(2, x2), (3, x3)]) h K =
      p31arrll C L x2 x3 h (fun x23 x24 x3 x22 h => K .normal (fs [(23, x23), (24, x24), (3, x3), (22, x22)]) h) := by
  kernel_rfl
noncomputable def c31arrlr : Code := cR c31arrl
noncomputable def c31arrlrb : Code := cL c31arrlr
noncomputable def c31arrlrbo : Code := cL c31arrlrb
noncomputable def p31arrlrbo (C : CF) (L : Nat) {β : Type} (x23 : Value) (x24 : Value) (x3 : Value) (x22 : Value) (h : H) (kr : Value → H → Option β) (kn : Value → Value → Value → Value → H → Option β) (kx0 : H → Option β) : Option β :=
  bnd (A.bin Try.prog .lss 3 x24 x23) fun t25 =>
  condV t25 (
  bnd (A.idxS 2 x22 x24) fun t27 =>
  bnd (A.load true 2 t27 h) fun t28 =>
  bnd2 (A.box 2 Z57 h) fun t6 hq1 =>
  bnd (A.store 2 t6 t28 hq1) fun hq2 =>
  bnd (A.load true 2 t6 hq2) fun t29 =>
  bnd (A.fieldAddr 22 x3) fun t30 =>
  bnd (A.load false 1 t30 hq2) fun t31 =>
  bnd (A.idxS 2 t31 x24) fun t33 =>
  bnd (A.load true 2 t33 hq2) fun t34 =>
  bnd (A.bin Try.prog .neq 57 t29 t34) fun t35 =>
  toBK t35 fun b =>
  (bif b then
  kr (.bool false) hq2
  else
  bnd (A.bin Try.prog .add 3 x24 (.int .i64 1)) fun t36 =>
  kn x23 t36 x3 x22 hq2)) (
  kx0 h)
theorem ep31arrlrbo (C : CF) (L : Nat) {β : Type} (x23 : Value) (x24 : Value) (x3 : Value) (x22 : Value) (h : H) (K : Ex → T Value → H → Option β) :
    execK Try.prog C L 0 37 [4] c31arrlrbo [23, 24, 3, 22] [(0, [])] (fs [(23, x23), (24, x24), (3, x3), (22, x22)]) h K =
      p31arrlrbo C L x23 x24 x3 x22 h (fun x4 h => K .ret (fs [(4, x4)]) h) (fun x23 x24 x3 x22 h => K .normal (fs [(23, x23), (24, x24), (3, x3), (22, x22)]) h) (fun h => K (.exit 0) (fs []) h) := by
  kernel_rfl
noncomputable def p31arrlrbw (C : CF) (L : Nat) {β : Type} (kr : Value → H → Option β) (kx0 : H → Option β) : Nat → Value → Value → Value → Value → H → Option β
  | 0, _, _, _, _, _ => none
  | n + 1, x23, x24, x3, x22, h => p31arrlrbo C L x23 x24 x3 x22 h kr (fun x23 x24 x3 x22 h => p31arrlrbw C L kr kx0 n x23 x24 x3 x22 h) kx0
theorem ep31arrlrbw (C : CF) (L : Nat) {β : Type} (K : Ex → T Value → H → Option β) : ∀ (n : Nat) (x23 : Value) (x24 : Value) (x3 : Value) (x22 : Value) (h : H),
    loopK (fun fr h K => execK Try.prog C L 0 37 [4] c31arrlrbo [23, 24, 3, 22] [(0, [])] fr h K) n (fs [(23, x23), (24, x24), (3, x3), (22, x22)]) h K =
      p31arrlrbw C L (fun x4 h => K .ret (fs [(4, x4)]) h) (fun h => K (.exit 0) (fs []) h) n x23 x24 x3 x22 h := by
  intro n
  induction n with
  | zero => intros; rfl
  | succ n ih =>
    intros
    simp only [loopK]
    rw [ep31arrlrbo]
    simp only [seqK, ih]
    rfl
noncomputable def p31arrlrb (C : CF) (L : Nat) {β : Type} (x23 : Value) (x24 : Value) (x3 : Value) (x22 : Value) (h : H) (kr : Value → H → Option β) (kx0 : H → Option β) : Option β :=
  p31arrlrbw C L kr kx0 L x23 x24 x3 x22 h
theorem ep31arrlrb (C : CF) (L : Nat) {β : Type} (x23 : Value) (x24 : Value) (x3 : Value) (x22 : Value) (h : H) (K : Ex → T Value → H → Option β) :
    execK Try.prog C L 0 37 [4] c31arrlrb [] [(0, [])] (fs [(23, x23), (24, x24), (3, x3), (22, x22)]) h K =
      p31arrlrb C L x23 x24 x3 x22 h (fun x4 h => K .ret (fs [(4, x4)]) h) (fun h => K (.exit 0) (fs []) h) := by
  rw [execK_loop (b := c31arrlrbo) (fr1 := (fs [(23, x23), (24, x24), (3, x3), (22, x22)])) (by kernel_rfl) (show live [4] c31arrlrbo [] [(0, [])] = [23, 24, 3, 22] by kernel_rfl) (by kernel_rfl), ep31arrlrbw]
  rfl
noncomputable def p31arrlr (C : CF) (L : Nat) {β : Type} (x23 : Value) (x24 : Value) (x3 : Value) (x22 : Value) (h : H) (kr : Value → H → Option β) (kn : H → Option β) : Option β :=
  p31arrlrb C L x23 x24 x3 x22 h kr kn
theorem ep31arrlr (C : CF) (L : Nat) {β : Type} (x23 : Value) (x24 : Value) (x3 : Value) (x22 : Value) (h : H) (K : Ex → T Value → H → Option β) :
    execK Try.prog C L 0 37 [4] c31arrlr [] [] (fs [(23, x23), (24, x24), (3, x3), (22, x22)]) h K =
      p31arrlr C L x23 x24 x3 x22 h (fun x4 h => K .ret (fs [(4, x4)]) h) (fun h => K .normal (fs []) h) := by
  rw [execK_block (b := c31arrlrb) (id := 0) (by kernel_rfl), ep31arrlrb]
  rfl
noncomputable def p31arrl (C : CF) (L : Nat) {β : Type} (x2 : Value) (x3 : Value) (h : H) (kr : Value → H → Option β) (kn : H → Option β) : Option β :=
  p31arrll C L x2 x3 h (fun x23 x24 x3 x22 h => p31arrlr C L x23 x24 x3 x22 h kr kn)
theorem ep31arrl (C : CF) (L : Nat) {β : Type} (x2 : Value) (x3 : Value) (h : H) (K : Ex → T Value → H → Option β) :
    execK Try.prog C L 0 37 [4] c31arrl [] [] (fs [(2, x2), (3, x3)]) h K =
      p31arrl C L x2 x3 h (fun x4 h => K .ret (fs [(4, x4)]) h) (fun h => K .normal (fs []) h) := by
  rw [execK_seq (a := c31arrll) (b := c31arrlr) (by kernel_rfl) (show live [4] c31arrlr [] [] = [23, 24, 3, 22] by kernel_rfl), ep31arrll]
  simp only [seqK, ep31arrlr]
  rfl
noncomputable def c31arrr : Code := cR c31arr
noncomputable def p31arrr (C : CF) (L : Nat) {β : Type} (h : H) (kr : Value → H → Option β) : Option β :=
  kr (.bool true) h
theorem ep31arrr (C : CF) (L : Nat) {β : Type} (h : H) (K : Ex → T Value → H → Option β) :
    execK Try.prog C L 0 37 [4] c31arrr [4] [] (fs []) h K =
      p31arrr C L h (fun x4 h => K .ret (fs [(4, x4)]) h) := by
  kernel_rfl
noncomputable def p31arr (C : CF) (L : Nat) {β : Type} (x2 : Value) (x3 : Value) (h : H) (kr : Value → H → Option β) : Option β :=
  p31arrl C L x2 x3 h kr (fun h => p31arrr C L h kr)
theorem ep31arr (C : CF) (L : Nat) {β : Type} (x2 : Value) (x3 : Value) (h : H) (K : Ex → T Value → H → Option β) :
    execK Try.prog C L 0 37 [4] c31arr [4] [] (fs [(2, x2), (3, x3)]) h K =
      p31arr C L x2 x3 h (fun x4 h => K .ret (fs [(4, x4)]) h) := by
  rw [execK_seq (a := c31arrl) (b := c31arrr) (by kernel_rfl) (show live [4] c31arrr [4] [] = [] by kernel_rfl), ep31arrl]
  simp only [seqK, ep31arrr]
  rfl
noncomputable def p31ar (C : CF) (L : Nat) {β : Type} (x2 : Value) (x3 : Value) (h : H) (kr : Value → H → Option β) : Option β :=
  p31arl C L x2 x3 h kr (fun x2 x3 h => p31arr C L x2 x3 h kr)
theorem ep31ar (C : CF) (L : Nat) {β : Type} (x2 : Value) (x3 : Value) (h : H) (K : Ex → T Value → H → Option β) :
    execK Try.prog C L 0 37 [4] c31ar [4] [] (fs [(2, x2), (3, x3)]) h K =
      p31ar C L x2 x3 h (fun x4 h => K .ret (fs [(4, x4)]) h) := by
  rw [execK_seq (a := c31arl) (b := c31arr) (by kernel_rfl) (show live [4] c31arr [4] [] = [2, 3] by kernel_rfl), ep31arl]
  simp only [seqK, ep31arr]
  rfl
noncomputable def p31a (C : CF) (L : Nat) {β : Type} (x0 : Value) (x1 : Value) (h : H) (kr : Value → H → Option β) : Option β :=
  p31al C L x0 x1 h (fun x2 x3 h => p31ar C L x2 x3 h kr)
theorem ep31a (C : CF) (L : Nat) {β : Type} (x0 : Value) (x1 : Value) (h : H) (K : Ex → T Value → H → Option β) :
    execK Try.prog C L 0 37 [4] c31a [4] [] (fs [(0, x0), (1, x1)]) h K =
      p31a C L x0 x1 h (fun x4 h => K .ret (fs [(4, x4)]) h) := by
  rw [execK_seq (a := c31al) (b := c31ar) (by kernel_rfl) (show live [4] c31ar [4] [] = [2, 3] by kernel_rfl), ep31al]
  simp only [seqK, ep31ar]
  rfl
noncomputable def F31 (C : CF) (L : Nat) (x0 : Value) (x1 : Value) (h : H) : Option (Value × H) :=
  p31a C L x0 x1 h
    (fun x4 h => some (x4, h))
theorem F31eq (O : List FuncId) (hO : O.any (Nat.beq 31) = false) (n : Nat) (x0 : Value) (x1 : Value) (h : H) : callB Try.prog 0 O (n + 1) 31 [x0, x1] h = F31 (callB Try.prog 0 O n) n x0 x1 h := by
  rw [callB_eq hO (c := c31a) (nt := 37) (RR := [4]) (fr := (fs [(0, x0), (1, x1)])) Try.func31 (by kernel_rfl) (by kernel_rfl) (by kernel_rfl) (by kernel_rfl) (by kernel_rfl), ep31a]
  kernel_rfl

/-! F32: slices.Index[[]byte,byte] -/
noncomputable def c32a : Code := (Try.f32.body).getD .skip
noncomputable def c32al : Code := cL c32a
noncomputable def p32al (C : CF) (L : Nat) {β : Type} (x0 : Value) (x1 : Value) (h : H) (kn : Value → Value → H → Option β) : Option β :=
  kn x0 x1 h
theorem ep32al (C : CF) (L : Nat) {β : Type} (x0 : Value) (x1 : Value) (h : H) (K : Ex → T Value → H → Option β) :
    execK Try.prog C L 0 19 [4] c32al [0, 1] [] (fs [(0, x0), (1, x1)]) h K =
      p32al C L x0 x1 h (fun x0 x1 h => K .normal (fs [(0, x0), (1, x1)]) h) := by
  kernel_rfl
noncomputable def c32ar : Code := cR c32a
noncomputable def c32arl : Code := cL c32ar
noncomputable def c32arll : Code := cL c32arl
noncomputable def p32arll (C : CF) (L : Nat) {β : Type} (x0 : Value) (x1 : Value) (h : H) (kn : Value → Value → Value → Value → H → Option β) : Option β :=
  bnd (A.lenS x0) fun t7 =>
  kn t7 (.int .i64 0) x0 x1 h
theorem ep32arll (C : CF) (L : Nat) {β : Type} (x0 : Value) (x1 : Value) (h : H) (K : Ex → T Value → H → Option β) :
    execK Try.prog C L 0 19 [4] c32arll [7, 8, 0, 1] [] (fs [(0, x0), (1, x1)]) h K =
      p32arll C L x0 x1 h (fun x7 x8 x0 x1 h => K .normal (fs [(7, x7), (8, x8), (0, x0), (1, x1)]) h) := by
  kernel_rfl
noncomputable def c32arlr : Code := cR c32arl
noncomputable def c32arlrb : Code := cL c32arlr
noncomputable def c32arlrbo : Code := cL c32arlrb
noncomputable def p32arlrbo (C : CF) (L : Nat) {β : Type} (x7 : Value) (x8 : Value) (x0 : Value) (x1 : Value) (h : H) (kr : Value → H → Option β) (kn : Value → Value → Value → Value → H → Option β) (kx0 : H → Option β) : Option β :=
  bnd (A.bin Try.prog .lss 3 x8 x7) fun t9 =>
  condV t9 (
  bnd (A.idxS 1 x0 x8) fun t14 =>
  bnd (A.load false 1 t14 h) fun t15 =>
  bnd (A.bin Try.prog .eql 5 x1 t15) fun t16 =>
  toBK t16 fun b =>
  (bif b then
  kr x8 h
  else
  bnd (A.bin Try.prog .add 3 x8 (.int .i64 1)) fun t18 =>
  kn x7 t18 x0 x1 h)) (
  kx0 h)
theorem ep32arlrbo (C : CF) (L : Nat) {β : Type} (x7 : Value) (x8 : Value) (x0 : Value) (x1 : Value) (h : H) (K : Ex → T Value → H → Option β) :
    execK Try.prog C L 0 19 [4] c32arlrbo [7, 8, 0, 1] [(0, [])] (fs [(7, x7), (8, x8), (0, x0), (1, x1)]) h K =
      p32arlrbo C L x7 x8 x0 x1 h (fun x4 h => K .ret (fs [(4, x4)]) h) (fun x7 x8 x0 x1 h => K .normal (fs [(7, x7), (8, x8), (0, x0), (1, x1)]) h) (fun h => K (.exit 0) (fs []) h) := by
  kernel_rfl
noncomputable def p32arlrbw (C : CF) (L : Nat) {β : Type} (kr : Value → H → Option β) (kx0 : H → Option β) : Nat → Value → Value → Value → Value → H → Option β
  | 0, _, _, _, _, _ => none
  | n + 1, x7, x8, x0, x1, h => p32arlrbo C L x7 x8 x0 x1 h kr (fun x7 x8 x0 x1 h => p32arlrbw C L kr kx0 n x7 x8 x0 x1 h) kx0
theorem ep32arlrbw (C : CF) (L : Nat) {β : Type} (K : Ex → T Value → H → Option β) : ∀ (n : Nat) (x7 : Value) (x8 : Value) (x0 : Value) (x1 : Value) (h : H),
    loopK (fun fr h K => execK Try.prog C L 0 19 [4] c32arlrbo [7, 8, 0, 1] [(0, [])] fr h K) n (fs [(7, x7), (8, x8), (0, x0), (1, x1)]) h K =
      p32arlrbw C L (fun x4 h => K .ret (fs [(4, x4)]) h) (fun h => K (.exit 0) (fs []) h) n x7 x8 x0 x1 h := by
  intro n
  induction n with
  | zero => intros; rfl
  | succ n ih =>
    intros
    simp only [loopK]
    rw [ep32arlrbo]
    simp only [seqK, ih]
    rfl
noncomputable def p32arlrb (C : CF) (L : Nat) {β : Type} (x7 : Value) (x8 : Value) (x0 : Value) (x1 : Value) (h : H) (kr : Value → H → Option β) (kx0 : H → Option β) : Option β :=
  p32arlrbw C L kr kx0 L x7 x8 x0 x1 h
theorem ep32arlrb (C : CF) (L : Nat) {β : Type} (x7 : Value) (x8 : Value) (x0 : Value) (x1 : Value) (h : H) (K : Ex → T Value → H → Option β) :
    execK Try.prog C L 0 19 [4] c32arlrb [] [(0, [])] (fs [(7, x7), (8, x8), (0, x0), (1, x1)]) h K =
      p32arlrb C L x7 x8 x0 x1 h (fun x4 h => K .ret (fs [(4, x4)]) h) (fun h => K (.exit 0) (fs []) h) := by
  rw [execK_loop (b := c32arlrbo) (fr1 := (fs [(7, x7), (8, x8), (0, x0), (1, x1)])) (by kernel_rfl) (show live [4] c32arlrbo [] [(0, [])] = [7, 8, 0, 1] by kernel_rfl) (by kernel_rfl), ep32arlrbw]
  rfl
noncomputable def p32arlr (C : CF) (L : Nat) {β : Type} (x7 : Value) (x8 : Value) (x0 : Value) (x1 : Value) (h : H) (kr : Value → H → Option β) (kn : H → Option β) : Option β :=
  p32arlrb C L x7 x8 x0 x1 h kr kn
theorem ep32arlr (C : CF) (L : Nat) {β : Type} (x7 : Value) (x8 : Value) (x0 : Value) (x1 : Value) (h : H) (K : Ex → T Value → H → Option β) :
    execK Try.prog C L 0 19 [4] c32arlr [] [] (fs [(7, x7), (8, x8), (0, x0), (1, x1)]) h K =
      p32arlr C L x7 x8 x0 x1 h (fun x4 h => K .ret (fs [(4, x4)]) h) (fun h => K .normal (fs []) h) := by
  rw [execK_block (b := c32arlrb) (id := 0) (by kernel_rfl), ep32arlrb]
  rfl
noncomputable def p32arl (C : CF) (L : Nat) {β : Type} (x0 : Value) (x1 : Value) (h : H) (kr : Value → H → Option β) (kn : H → Option β) : Option β :=
  p32arll C L x0 x1 h (fun x7 x8 x0 x1 h => p32arlr C L x7 x8 x0 x1 h kr kn)
theorem ep32arl (C : CF) (L : Nat) {β : Type} (x0 : Value) (x1 : Value) (h : H) (K : Ex → T Value → H → Option β) :
    execK Try.prog C L 0 19 [4] c32arl [] [] (fs [(0, x0), (1, x1)]) h K =
      p32arl C L x0 x1 h (fun x4 h => K .ret (fs [(4, x4)]) h) (fun h => K .normal (fs []) h) := by
  rw [execK_seq (a := c32arll) (b := c32arlr) (by kernel_rfl) (show live [4] c32arlr [] [] = [7, 8, 0, 1] by kernel_rfl), ep32arll]
  simp only [seqK, ep32arlr]
  rfl
noncomputable def c32arr : Code := cR c32ar
noncomputable def p32arr (C : CF) (L : Nat) {β : Type} (h : H) (kr : Value → H → Option β) : Option β :=
  kr (.int .i64 (-1)) h
theorem ep32arr (C : CF) (L : Nat) {β : Type} (h : H) (K : Ex → T Value → H → Option β) :
    execK Try.prog C L 0 19 [4] c32arr [4] [] (fs []) h K =
      p32arr C L h (fun x4 h => K .ret (fs [(4, x4)]) h) := by
  kernel_rfl
noncomputable def p32ar (C : CF) (L : Nat) {β : Type} (x0 : Value) (x1 : Value) (h : H) (kr : Value → H → Option β) : Option β :=
  p32arl C L x0 x1 h kr (fun h => p32arr C L h kr)
theorem ep32ar (C : CF) (L : Nat) {β : Type} (x0 : Value) (x1 : Value) (h : H) (K : Ex → T Value → H → Option β) :
    execK Try.prog C L 0 19 [4] c32ar [4] [] (fs [(0, x0), (1, x1)]) h K =
      p32ar C L x0 x1 h (fun x4 h => K .ret (fs [(4, x4)]) h) := by
  rw [execK_seq (a := c32arl) (b := c32arr) (by kernel_rfl) (show live [4] c32arr [4] [] = [] by kernel_rfl), ep32arl]
  simp only [seqK, ep32arr]
  rfl
noncomputable def p32a (C : CF) (L : Nat) {β : Type} (x0 : Value) (x1 : Value) (h : H) (kr : Value → H → Option β) : Option β :=
  p32al C L x0 x1 h (fun x0 x1 h => p32ar C L x0 x1 h kr)
theorem ep32a (C : CF) (L : Nat) {β : Type} (x0 : Value) (x1 : Value) (h : H) (K : Ex → T Value → H → Option β) :
    execK Try.prog C L 0 19 [4] c32a [4] [] (fs [(0, x0), (1, x1)]) h K =
      p32a C L x0 x1 h (fun x4 h => K .ret (fs [(4, x4)]) h) := by
  rw [execK_seq (a := c32al) (b := c32ar) (by kernel_rfl) (show live [4] c32ar [4] [] = [0, 1] by kernel_rfl), ep32al]
  simp only [seqK, ep32ar]
  rfl
noncomputable def F32 (C : CF) (L : Nat) (x0 : Value) (x1 : Value) (h : H) : Option (Value × H) :=
  p32a C L x0 x1 h
    (fun x4 h => some (x4, h))
theorem F32eq (O : List FuncId) (hO : O.any (Nat.beq 32) = false) (n : Nat) (x0 : Value) (x1 : Value) (h : H) : callB Try.prog 0 O (n + 1) 32 [x0, x1] h = F32 (callB Try.prog 0 O n) n x0 x1 h := by
  rw [callB_eq hO (c := c32a) (nt := 19) (RR := [4]) (fr := (fs [(0, x0), (1, x1)])) Try.func32 (by kernel_rfl) (by kernel_rfl) (by kernel_rfl) (by kernel_rfl) (by kernel_rfl), ep32a]
  kernel_rfl

/-! F33: slices.Clone[[]relayhouse/api.Sub,relayhouse/api.Sub] -/
noncomputable def c33a : Code := (Try.f33.body).getD .skip
noncomputable def p33a (C : CF) (L : Nat) {β : Type} (x0 : Value) (h : H) (kr : Value → H → Option β) : Option β :=
  bnd (A.bin Try.prog .eql 32 x0 (.slice none 0 0)) fun t4 =>
  toBK t4 fun b =>
  (bif b then
  kr (.slice none 0 0) h
  else
  bnd2 (A.buildSlice 2 0 Z57L [] h) fun t5 hq1 =>
  bnd2 (A.append 2 24 t5 x0 hq1) fun t7 hq2 =>
  kr t7 hq2)
theorem ep33a (C : CF) (L : Nat) {β : Type} (x0 : Value) (h : H) (K : Ex → T Value → H → Option β) :
    execK Try.prog C L 0 8 [2] c33a [2] [] (fs [(0, x0)]) h K =
      p33a C L x0 h (fun x2 h => K .ret (fs [(2, x2)]) h) := by
  kernel_rfl
noncomputable def F33 (C : CF) (L : Nat) (x0 : Value) (h : H) : Option (Value × H) :=
  p33a C L x0 h
    (fun x2 h => some (x2, h))
theorem F33eq (O : List FuncId) (hO : O.any (Nat.beq 33) = false) (n : Nat) (x0 : Value) (h : H) : callB Try.prog 0 O (n + 1) 33 [x0] h = F33 (callB Try.prog 0 O n) n x0 h := by
  rw [callB_eq hO (c := c33a) (nt := 8) (RR := [2]) (fr := (fs [(0, x0)])) Try.func33 (by kernel_rfl) (by kernel_rfl) (by kernel_rfl) (by kernel_rfl) (by kernel_rfl), ep33a]
  kernel_rfl

/-! F34: relayhouse/packet.plain -/
noncomputable def c34a : Code := (Try.f34.body).getD .skip
noncomputable def p34a (C : CF) (L : Nat) {β : Type} (x0 : Value) (h : H) (kr : Value → H → Option β) : Option β :=
  bnd2 (A.box 24 x0 h) fun t1 hq1 =>
  bnd2 (A.box 23 Z68 hq1) fun t2 hq2 =>
  bnd (A.fieldAddr 0 t1) fun t3 =>
  bnd (A.load false 1 t3 hq2) fun t4 =>
  bnd (A.fieldAddr 2 t1) fun t5 =>
  bnd (A.load false 1 t5 hq2) fun t6 =>
  bnd (A.fieldAddr 7 t1) fun t7 =>
  bnd (A.load false 1 t7 hq2) fun t8 =>
  bnd (A.fieldAddr 21 t1) fun t9 =>
  bnd (A.load false 1 t9 hq2) fun t10 =>
  bnd (A.fieldAddr 1 t1) fun t11 =>
  bnd (A.load false 1 t11 hq2) fun t12 =>
  toBK t12 fun b =>
  bnd (A.fieldAddr 3 t1) fun t13 =>
  bnd (A.load false 1 t13 hq2) fun t14 =>
  toBK t14 fun bq1 =>
  bnd (A.fieldAddr 8 t1) fun t15 =>
  bnd (A.load false 1 t15 hq2) fun t16 =>
  toBK t16 fun bq2 =>
  bnd (A.fieldAddr 11 t1) fun t17 =>
  bnd (A.load false 1 t17 hq2) fun t18 =>
  toBK t18 fun bq3 =>
  bnd (A.fieldAddr 16 t1) fun t19 =>
  bnd (A.load false 1 t19 hq2) fun t20 =>
  toBK t20 fun bq4 =>
  bnd (A.fieldAddr 17 t1) fun t21 =>
  bnd (A.load false 1 t21 hq2) fun t22 =>
  toBK t22 fun bq5 =>
  bnd (A.fieldAddr 20 t1) fun t23 =>
  bnd (A.load false 1 t23 hq2) fun t24 =>
  toBK t24 fun bq6 =>
  bnd (A.fieldAddr 4 t1) fun t25 =>
  bnd (A.load false 1 t25 hq2) fun t26 =>
  bnd (A.fieldAddr 9 t1) fun t27 =>
  bnd (A.load false 1 t27 hq2) fun t28 =>
  bnd (A.fieldAddr 5 t1) fun t29 =>
  bnd (A.load false 1 t29 hq2) fun t30 =>
  bnd (A.fieldAddr 6 t1) fun t31 =>
  bnd (A.load false 1 t31 hq2) fun t32 =>
  bnd (A.fieldAddr 10 t1) fun t33 =>
  bnd (A.load false 1 t33 hq2) fun t34 =>
  bnd (A.fieldAddr 18 t1) fun t35 =>
  bnd (A.load false 1 t35 hq2) fun t36 =>
  bnd (A.fieldAddr 19 t1) fun t37 =>
  bnd (A.load false 1 t37 hq2) fun t38 =>
  bnd (A.fieldAddr 23 t1) fun t39 =>
  bnd (A.load false 1 t39 hq2) fun t40 =>
  bnd (A.fieldAddr 12 t1) fun t41 =>
  bnd (A.load true 4 t41 hq2) fun t42 =>
  bnd (A.build Z68L [(0, 1, t4), (1, 1, t6), (2, 1, t8), (3, 1, t10), (4, 1, (.bool b)), (5, 1, (.bool bq1)), (6, 1, (.bool bq2)), (7, 1, (.bool bq3)), (8, 1, (.bool bq4)), (9, 1, (.bool bq5)), (10, 1, (.bool bq6)), (11, 1, t26), (12, 1, t28), (13, 1, t30), (14, 1, t32), (15, 1, t34), (16, 1, t36), (17, 1, t38), (18, 1, t40), (19, 4, t42)]) fun t43 =>
  bnd (A.store 23 t2 t43 hq2) fun hq3 =>
  kr t2 hq3
theorem ep34a (C : CF) (L : Nat) {β : Type} (x0 : Value) (h : H) (K : Ex → T Value → H → Option β) :
    execK Try.prog C L 0 44 [2] c34a [2] [] (fs [(0, x0)]) h K =
      p34a C L x0 h (fun x2 h => K .ret (fs [(2, x2)]) h) := by
  kernel_rfl
noncomputable def F34 (C : CF) (L : Nat) (x0 : Value) (h : H) : Option (Value × H) :=
  p34a C L x0 h
    (fun x2 h => bnd (resC (A.load true 23 x2 h) (some [])) fun vs => some (packA vs, h))
theorem F34eq (O : List FuncId) (hO : O.any (Nat.beq 34) = false) (n : Nat) (x0 : Value) (h : H) : callB Try.prog 0 O (n + 1) 34 [x0] h = F34 (callB Try.prog 0 O n) n x0 h := by
  rw [callB_eq hO (c := c34a) (nt := 44) (RR := [2]) (fr := (fs [(0, x0)])) Try.func34 (by kernel_rfl) (by kernel_rfl) (by kernel_rfl) (by kernel_rfl) (by kernel_rfl), ep34a]
  kernel_rfl

/-! F16: relayhouse/relayhouseref17.Same -/
noncomputable def c16a : Code := (Try.f16.body).getD .skip
noncomputable def c16al : Code := cL c16a
noncomputable def p16al (C : CF) (L : Nat) {β : Type} (x0 : Value) (x1 : Value) (h : H) (kn : Value → Value → H → Option β) : Option β :=
  bnd2 (A.box 35 x0 h) fun t2 hq1 =>
  bnd2 (A.box 35 x1 hq1) fun t3 hq2 =>
  kn t2 t3 hq2
theorem ep16al (C : CF) (L : Nat) {β : Type} (x0 : Value) (x1 : Value) (h : H) (K : Ex → T Value → H → Option β) :
    execK Try.prog C L 0 64 [4] c16al [2, 3] [] (fs [(0, x0), (1, x1)]) h K =
      p16al C L x0 x1 h (fun x2 x3 h => K .normal (fs [(2, x2), (3, x3)]) h) := by
  kernel_rfl
noncomputable def c16ar : Code := cR c16a
noncomputable def c16arl : Code := cL c16ar
noncomputable def c16arll : Code := cL c16arl
noncomputable def p16arll (C : CF) (L : Nat) {β : Type} (x2 : Value) (x3 : Value) (h : H) (kn : Value → Value → Value → H → Option β) : Option β :=
  bnd (A.fieldAddr 0 x2) fun t5 =>
  bnd (A.load false 1 t5 h) fun t6 =>
  bnd (A.fieldAddr 0 x3) fun t7 =>
  bnd (A.load false 1 t7 h) fun t8 =>
  bnd (A.bin Try.prog .neq 5 t6 t8) fun t9 =>
  toBK t9 fun b =>
  (bif b then
  kn (.bool true) x2 x3 h
  else
  bnd (A.fieldAddr 1 x2) fun t11 =>
  bnd (A.load false 1 t11 h) fun t12 =>
  bnd (A.fieldAddr 1 x3) fun t13 =>
  bnd (A.load false 1 t13 h) fun t14 =>
  bnd (A.bin Try.prog .neq 3 t12 t14) fun t15 =>
  toBK t15 fun bq1 =>
  (bif bq1 then
  kn (.bool true) x2 x3 h
  else
  bnd (A.fieldAddr 2 x2) fun t18 =>
  bnd (A.load false 1 t18 h) fun t19 =>
  bnd (A.fieldAddr 2 x3) fun t20 =>
  bnd (A.load false 1 t20 h) fun t21 =>
  bnd (A.bin Try.prog .neq 3 t19 t21) fun t22 =>
  toBK t22 fun bq2 =>
  (bif bq2 then
  kn (.bool true) x2 x3 h
  else
  bnd (A.fieldAddr 3 x2) fun t25 =>
  bnd (A.load false 1 t25 h) fun t26 =>
  bnd (A.fieldAddr 3 x3) fun t27 =>
  bnd (A.load false 1 t27 h) fun t28 =>
  bnd (A.bin Try.prog .neq 9 t26 t28) fun t29 =>
  toBK t29 fun bq3 =>
  (bif bq3 then
  kn (.bool true) x2 x3 h
  else
  bnd (A.fieldAddr 32 x2) fun t32 =>
  bnd (A.load false 1 t32 h) fun t33 =>
  bnd (A.fieldAddr 32 x3) fun t34 =>
  bnd (A.load false 1 t34 h) fun t35 =>
  bnd (A.bin Try.prog .neq 9 t33 t35) fun t36 =>
  toBK t36 fun bq4 =>
  kn (.bool bq4) x2 x3 h))))
theorem ep16arll (C : CF) (L : Nat) {β : Type} (x2 : Value) (x3 : Value) (h : H) (K : Ex → T Value → H → Option β) :
    execK Try.prog C L 0 64 [4] c16arll [37, 2, 3] [] (fs [(2, x2), (3, x3)]) h K =
      p16arll C L x2 x3 h (fun x37 x2 x3 h => K .normal (fs [(37, x37), (2, x2), (3, x3)]) h) := by
  kernel_rfl
noncomputable def c16arlr : Code := cR c16arl
noncomputable def p16arlr (C : CF) (L : Nat) {β : Type} (x37 : Value) (x2 : Value) (x3 : Value) (h : H) (kr : Value → H → Option β) (kn : Value → Value → H → Option β) : Option β :=
  condV x37 (
  kr (.bool false) h) (
  kn x2 x3 h)
theorem ep16arlr (C : CF) (L : Nat) {β : Type} (x37 : Value) (x2 : Value) (x3 : Value) (h : H) (K : Ex → T Value → H → Option β) :
    execK Try.prog C L 0 64 [4] c16arlr [2, 3] [] (fs [(37, x37), (2, x2), (3, x3)]) h K =
      p16arlr C L x37 x2 x3 h (fun x4 h => K .ret (fs [(4, x4)]) h) (fun x2 x3 h => K .normal (fs [(2, x2), (3, x3)]) h) := by
  kernel_rfl
noncomputable def p16arl (C : CF) (L : Nat) {β : Type} (x2 : Value) (x3 : Value) (h : H) (kr : Value → H → Option β) (kn : Value → Value → H → Option β) : Option β :=
  p16arll C L x2 x3 h (fun x37 x2 x3 h => p16arlr C L x37 x2 x3 h kr kn)
theorem ep16arl (C : CF) (L : Nat) {β : Type} (x2 : Value) (x3 : Value) (h : H) (K : Ex → T Value → H → Option β) :
    execK Try.prog C L 0 64 [4] c16arl [2, 3] [] (fs [(2, x2), (3, x3)]) h K =
      p16arl C L x2 x3 h (fun x4 h => K .ret (fs [(4, x4)]) h) (fun x2 x3 h => K .normal (fs [(2, x2), (3, x3)]) h) := by
  rw [execK_seq (a := c16arll) (b := c16arlr) (by kernel_rfl) (show live [4] c16arlr [2, 3] [] = [37, 2, 3] by kernel_rfl), ep16arll]
  simp only [seqK, ep16arlr]
  rfl
noncomputable def c16arr : Code := cR c16ar
noncomputable def p16arr (C : CF) (L : Nat) {β : Type} (x2 : Value) (x3 : Value) (h : H) (kr : Value → H → Option β) : Option β :=
  bnd (A.fieldAddr 28 x2) fun t38 =>
  bnd (A.load true 4 t38 h) fun t39 =>
  bnd (A.fieldAddr 28 x3) fun t40 =>
  bnd (A.load true 4 t40 h) fun t41 =>
  bnd (A.bin Try.prog .eql 31 t39 t41) fun t42 =>
  toBK t42 fun b =>
  (bif b then
  bnd (A.fieldAddr 33 x2) fun t44 =>
  bnd (A.load false 1 t44 h) fun t45 =>
  toBK t45 fun bq1 =>
  bnd (A.fieldAddr 33 x3) fun t46 =>
  bnd (A.load false 1 t46 h) fun t47 =>
  toBK t47 fun bq2 =>
  bnd (A.bin Try.prog .eql 4 (.bool bq1) (.bool bq2)) fun t48 =>
  toBK t48 fun bq3 =>
  (bif bq3 then
  bnd (A.fieldAddr 34 x2) fun t51 =>
  bnd (A.load false 1 t51 h) fun t52 =>
  bnd (A.fieldAddr 34 x3) fun t53 =>
  bnd (A.load false 1 t53 h) fun t54 =>
  bnd (A.bin Try.prog .eql 5 t52 t54) fun t55 =>
  toBK t55 fun bq4 =>
  (bif bq4 then
  bnd (A.fieldAddr 4 x2) fun t58 =>
  bnd (A.load true 24 t58 h) fun t59 =>
  bnd (A.fieldAddr 4 x3) fun t60 =>
  bnd (A.load true 24 t60 h) fun t61 =>
  bnd2 (C 30 [t59, t61] h) fun t62 hq1 =>
  toBK t62 fun bq5 =>
  kr (.bool bq5) hq1
  else
  kr (.bool false) h)
  else
  kr (.bool false) h)
  else
  kr (.bool false) h)
theorem ep16arr (C : CF) (L : Nat) {β : Type} (x2 : Value) (x3 : Value) (h : H) (K : Ex → T Value → H → Option β) :
    execK Try.prog C L 0 64 [4] c16arr [4] [] (fs [(2, x2), (3, x3)]) h K =
      p16arr C L x2 x3 h (fun x4 h => K .ret (fs [(4, x4)]) h) := by
  kernel_rfl
noncomputable def p16ar (C : CF) (L : Nat) {β : Type} (x2 : Value) (x3 : Value) (h : H) (kr : Value → H → Option β) : Option β :=
  p16arl C L x2 x3 h kr (fun x2 x3 h => p16arr C L x2 x3 h kr)
theorem ep16ar (C : CF) (L : Nat) {β : Type} (x2 : Value) (x3 : Value) (h : H) (K : Ex → T Value → H → Option β) :
    execK Try.prog C L 0 64 [4] c16ar [4] [] (fs [(2, x2), (3, x3)]) h K =
      p16ar C L x2 x3 h (fun x4 h => K .ret (fs [(4, x4)]) h) := by
  rw [execK_seq (a := c16arl) (b := c16arr) (by kernel_rfl) (show live [4] c16arr [4] [] = [2, 3] by kernel_rfl), ep16arl]
  simp only [seqK, ep16arr]
  rfl
noncomputable def p16a (C : CF) (L : Nat) {β : Type} (x0 : Value) (x1 : Value) (h : H) (kr : Value → H → Option β) : Option β :=
  p16al C L x0 x1 h (fun x2 x3 h => p16ar C L x2 x3 h kr)
theorem ep16a (C : CF) (L : Nat) {β : Type} (x0 : Value) (x1 : Value) (h : H) (K : Ex → T Value → H → Option β) :
    execK Try.prog C L 0 64 [4] c16a [4] [] (fs [(0, x0), (1, x1)]) h K =
      p16a C L x0 x1 h (fun x4 h => K .ret (fs [(4, x4)]) h) := by
  rw [execK_seq (a := c16al) (b := c16ar) (by kernel_rfl) (show live [4] c16ar [4] [] = [2, 3] by kernel_rfl), ep16al]
  simp only [seqK, ep16ar]
  rfl
noncomputable def F16 (C : CF) (L : Nat) (x0 : Value) (x1 : Value) (h : H) : Option (Value × H) :=
  p16a C L x0 x1 h
    (fun x4 h => some (x4, h))
theorem F16eq (O : List FuncId) (hO : O.any (Nat.beq 16) = false) (n : Nat) (x0 : Value) (x1 : Value) (h : H) : callB Try.prog 0 O (n + 1) 16 [x0, x1] h = F16 (callB Try.prog 0 O n) n x0 x1 h := by
  rw [callB_eq hO (c := c16a) (nt := 64) (RR := [4]) (fr := (fs [(0, x0), (1, x1)])) Try.func16 (by kernel_rfl) (by kernel_rfl) (by kernel_rfl) (by kernel_rfl) (by kernel_rfl), ep16a]
  kernel_rfl

/-! F30: relayhouse/relayhouseref03.Same -/
noncomputable def c30a : Code := (Try.f30.body).getD .skip
noncomputable def c30al : Code := cL c30a
noncomputable def p30al (C : CF) (L : Nat) {β : Type} (x0 : Value) (x1 : Value) (h : H) (kn : Value → Value → H → Option β) : Option β :=
  bnd2 (A.box 24 x0 h) fun t2 hq1 =>
  bnd2 (A.box 24 x1 hq1) fun t3 hq2 =>
  kn t3 t2 hq2
theorem ep30al (C : CF) (L : Nat) {β : Type} (x0 : Value) (x1 : Value) (h : H) (K : Ex → T Value → H → Option β) :
    execK Try.prog C L 0 169 [4] c30al [3, 2] [] (fs [(0, x0), (1, x1)]) h K =
      p30al C L x0 x1 h (fun x3 x2 h => K .normal (fs [(3, x3), (2, x2)]) h) := by
  kernel_rfl
noncomputable def c30ar : Code := cR c30a
noncomputable def c30arl : Code := cL c30ar
noncomputable def c30arll : Code := cL c30arl
noncomputable def p30arll (C : CF) (L : Nat) {β : Type} (x3 : Value) (x2 : Value) (h : H) (kn : Value → Value → Value → H → Option β) : Option β :=
  bnd (A.fieldAddr 0 x2) fun t6 =>
  bnd (A.load false 1 t6 h) fun t7 =>
  bnd (A.fieldAddr 0 x3) fun t8 =>
  bnd (A.load false 1 t8 h) fun t9 =>
  bnd (A.bin Try.prog .neq 5 t7 t9) fun t10 =>
  toBK t10 fun b =>
  (bif b then
  kn (.bool true) x3 x2 h
  else
  bnd (A.fieldAddr 1 x2) fun t12 =>
  bnd (A.load false 1 t12 h) fun t13 =>
  toBK t13 fun bq1 =>
  bnd (A.fieldAddr 1 x3) fun t14 =>
  bnd (A.load false 1 t14 h) fun t15 =>
  toBK t15 fun bq2 =>
  bnd (A.bin Try.prog .neq 4 (.bool bq1) (.bool bq2)) fun t16 =>
  toBK t16 fun bq3 =>
  (bif bq3 then
  kn (.bool true) x3 x2 h
  else
  bnd (A.fieldAddr 2 x2) fun t19 =>
  bnd (A.load false 1 t19 h) fun t20 =>
  bnd (A.fieldAddr 2 x3) fun t21 =>
  bnd (A.load false 1 t21 h) fun t22 =>
  bnd (A.bin Try.prog .neq 5 t20 t22) fun t23 =>
  toBK t23 fun bq4 =>
  (bif bq4 then
  kn (.bool true) x3 x2 h
  else
  bnd (A.fieldAddr 3 x2) fun t26 =>
  bnd (A.load false 1 t26 h) fun t27 =>
  toBK t27 fun bq5 =>
  bnd (A.fieldAddr 3 x3) fun t28 =>
  bnd (A.load false 1 t28 h) fun t29 =>
  toBK t29 fun bq6 =>
  bnd (A.bin Try.prog .neq 4 (.bool bq5) (.bool bq6)) fun t30 =>
  toBK t30 fun bq7 =>
  (bif bq7 then
  kn (.bool true) x3 x2 h
  else
  bnd (A.fieldAddr 4 x2) fun t33 =>
  bnd (A.load false 1 t33 h) fun t34 =>
  bnd (A.fieldAddr 4 x3) fun t35 =>
  bnd (A.load false 1 t35 h) fun t36 =>
  bnd (A.bin Try.prog .neq 29 t34 t36) fun t37 =>
  toBK t37 fun bq8 =>
  (bif bq8 then
  kn (.bool true) x3 x2 h
  else
  bnd (A.fieldAddr 5 x2) fun t40 =>
  bnd (A.load false 1 t40 h) fun t41 =>
  bnd (A.fieldAddr 5 x3) fun t42 =>
  bnd (A.load false 1 t42 h) fun t43 =>
  bnd (A.bin Try.prog .neq 9 t41 t43) fun t44 =>
  toBK t44 fun bq9 =>
  (bif bq9 then
  kn (.bool true) x3 x2 h
  else
  bnd (A.fieldAddr 6 x2) fun t47 =>
  bnd (A.load false 1 t47 h) fun t48 =>
  bnd (A.fieldAddr 6 x3) fun t49 =>
  bnd (A.load false 1 t49 h) fun t50 =>
  bnd (A.bin Try.prog .neq 9 t48 t50) fun t51 =>
  toBK t51 fun bq10 =>
  (bif bq10 then
  kn (.bool true) x3 x2 h
  else
  bnd (A.fieldAddr 7 x2) fun t54 =>
  bnd (A.load false 1 t54 h) fun t55 =>
  bnd (A.fieldAddr 7 x3) fun t56 =>
  bnd (A.load false 1 t56 h) fun t57 =>
  bnd (A.bin Try.prog .neq 5 t55 t57) fun t58 =>
  toBK t58 fun bq11 =>
  (bif bq11 then
  kn (.bool true) x3 x2 h
  else
  bnd (A.fieldAddr 8 x2) fun t61 =>
  bnd (A.load false 1 t61 h) fun t62 =>
  toBK t62 fun bq12 =>
  bnd (A.fieldAddr 8 x3) fun t63 =>
  bnd (A.load false 1 t63 h) fun t64 =>
  toBK t64 fun bq13 =>
  bnd (A.bin Try.prog .neq 4 (.bool bq12) (.bool bq13)) fun t65 =>
  toBK t65 fun bq14 =>
  (bif bq14 then
  kn (.bool true) x3 x2 h
  else
  bnd (A.fieldAddr 9 x2) fun t68 =>
  bnd (A.load false 1 t68 h) fun t69 =>
  bnd (A.fieldAddr 9 x3) fun t70 =>
  bnd (A.load false 1 t70 h) fun t71 =>
  bnd (A.bin Try.prog .neq 29 t69 t71) fun t72 =>
  toBK t72 fun bq15 =>
  (bif bq15 then
  kn (.bool true) x3 x2 h
  else
  bnd (A.fieldAddr 10 x2) fun t75 =>
  bnd (A.load false 1 t75 h) fun t76 =>
  bnd (A.fieldAddr 10 x3) fun t77 =>
  bnd (A.load false 1 t77 h) fun t78 =>
  bnd (A.bin Try.prog .neq 9 t76 t78) fun t79 =>
  toBK t79 fun bq16 =>
  kn (.bool bq16) x3 x2 h))))))))))
theorem ep30arll (C : CF) (L : Nat) {β : Type} (x3 : Value) (x2 : Value) (h : H) (K : Ex → T Value → H → Option β) :
    execK Try.prog C L 0 169 [4] c30arll [80, 3, 2] [] (fs [(3, x3), (2, x2)]) h K =
      p30arll C L x3 x2 h (fun x80 x3 x2 h => K .normal (fs [(80, x80), (3, x3), (2, x2)]) h) := by
  kernel_rfl
noncomputable def c30arlr : Code := cR c30arl
noncomputable def p30arlr (C : CF) (L : Nat) {β : Type} (x80 : Value) (x3 : Value) (x2 : Value) (h : H) (kr : Value → H → Option β) (kn : Value → Value → H → Option β) : Option β :=
  condV x80 (
  kr (.bool false) h) (
  kn x3 x2 h)
theorem ep30arlr (C : CF) (L : Nat) {β : Type} (x80 : Value) (x3 : Value) (x2 : Value) (h : H) (K : Ex → T Value → H → Option β) :
    execK Try.prog C L 0 169 [4] c30arlr [3, 2] [] (fs [(80, x80), (3, x3), (2, x2)]) h K =
      p30arlr C L x80 x3 x2 h (fun x4 h => K .ret (fs [(4, x4)]) h) (fun x3 x2 h => K .normal (fs [(3, x3), (2, x2)]) h) := by
  kernel_rfl
noncomputable def p30arl (C : CF) (L : Nat) {β : Type} (x3 : Value) (x2 : Value) (h : H) (kr : Value → H → Option β) (kn : Value → Value → H → Option β) : Option β :=
  p30arll C L x3 x2 h (fun x80 x3 x2 h => p30arlr C L x80 x3 x2 h kr kn)
theorem ep30arl (C : CF) (L : Nat) {β : Type} (x3 : Value) (x2 : Value) (h : H) (K : Ex → T Value → H → Option β) :
    execK Try.prog C L 0 169 [4] c30arl [3, 2] [] (fs [(3, x3), (2, x2)]) h K =
      p30arl C L x3 x2 h (fun x4 h => K .ret (fs [(4, x4)]) h) (fun x3 x2 h => K .normal (fs [(3, x3), (2, x2)]) h) := by
  rw [execK_seq (a := c30arll) (b := c30arlr) (by kernel_rfl) (show live [4] c30arlr [3, 2] [] = [80, 3, 2] by kernel_rfl), ep30arll]
  simp only [seqK, ep30arlr]
  rfl
noncomputable def c30arr : Code := cR c30ar
noncomputable def c30arrl : Code := cL c30arr
noncomputable def c30arrll : Code := cL c30arrl
noncomputable def p30arrll (C : CF) (L : Nat) {β : Type} (x3 : Value) (x2 : Value) (h : H) (kn : Value → Value → Value → H → Option β) : Option β :=
  bnd (A.fieldAddr 11 x2) fun t81 =>
  bnd (A.load false 1 t81 h) fun t82 =>
  toBK t82 fun b =>
  bnd (A.fieldAddr 11 x3) fun t83 =>
  bnd (A.load false 1 t83 h) fun t84 =>
  toBK t84 fun bq1 =>
  bnd (A.bin Try.prog .neq 4 (.bool b) (.bool bq1)) fun t85 =>
  toBK t85 fun bq2 =>
  (bif bq2 then
  kn (.bool true) x3 x2 h
  else
  bnd (A.fieldAddr 12 x2) fun t87 =>
  bnd (A.load true 4 t87 h) fun t88 =>
  bnd (A.fieldAddr 12 x3) fun t89 =>
  bnd (A.load true 4 t89 h) fun t90 =>
  bnd (A.bin Try.prog .neq 31 t88 t90) fun t91 =>
  toBK t91 fun bq3 =>
  (bif bq3 then
  kn (.bool true) x3 x2 h
  else
  bnd (A.fieldAddr 16 x2) fun t94 =>
  bnd (A.load false 1 t94 h) fun t95 =>
  toBK t95 fun bq4 =>
  bnd (A.fieldAddr 16 x3) fun t96 =>
  bnd (A.load false 1 t96 h) fun t97 =>
  toBK t97 fun bq5 =>
  bnd (A.bin Try.prog .neq 4 (.bool bq4) (.bool bq5)) fun t98 =>
  toBK t98 fun bq6 =>
  (bif bq6 then
  kn (.bool true) x3 x2 h
  else
  bnd (A.fieldAddr 17 x2) fun t101 =>
  bnd (A.load false 1 t101 h) fun t102 =>
  toBK t102 fun bq7 =>
  bnd (A.fieldAddr 17 x3) fun t103 =>
  bnd (A.load false 1 t103 h) fun t104 =>
  toBK t104 fun bq8 =>
  bnd (A.bin Try.prog .neq 4 (.bool bq7) (.bool bq8)) fun t105 =>
  toBK t105 fun bq9 =>
  (bif bq9 then
  kn (.bool true) x3 x2 h
  else
  bnd (A.fieldAddr 18 x2) fun t108 =>
  bnd (A.load false 1 t108 h) fun t109 =>
  bnd (A.fieldAddr 18 x3) fun t110 =>
  bnd (A.load false 1 t110 h) fun t111 =>
  bnd (A.bin Try.prog .neq 9 t109 t111) fun t112 =>
  toBK t112 fun bq10 =>
  (bif bq10 then
  kn (.bool true) x3 x2 h
  else
  bnd (A.fieldAddr 19 x2) fun t115 =>
  bnd (A.load false 1 t115 h) fun t116 =>
  bnd (A.fieldAddr 19 x3) fun t117 =>
  bnd (A.load false 1 t117 h) fun t118 =>
  bnd (A.bin Try.prog .neq 9 t116 t118) fun t119 =>
  toBK t119 fun bq11 =>
  (bif bq11 then
  kn (.bool true) x3 x2 h
  else
  bnd (A.fieldAddr 20 x2) fun t122 =>
  bnd (A.load false 1 t122 h) fun t123 =>
  toBK t123 fun bq12 =>
  bnd (A.fieldAddr 20 x3) fun t124 =>
  bnd (A.load false 1 t124 h) fun t125 =>
  toBK t125 fun bq13 =>
  bnd (A.bin Try.prog .neq 4 (.bool bq12) (.bool bq13)) fun t126 =>
  toBK t126 fun bq14 =>
  (bif bq14 then
  kn (.bool true) x3 x2 h
  else
  bnd (A.fieldAddr 21 x2) fun t129 =>
  bnd (A.load false 1 t129 h) fun t130 =>
  bnd (A.fieldAddr 21 x3) fun t131 =>
  bnd (A.load false 1 t131 h) fun t132 =>
  bnd (A.bin Try.prog .neq 5 t130 t132) fun t133 =>
  toBK t133 fun bq15 =>
  (bif bq15 then
  kn (.bool true) x3 x2 h
  else
  bnd (A.fieldAddr 23 x2) fun t136 =>
  bnd (A.load false 1 t136 h) fun t137 =>
  bnd (A.fieldAddr 23 x3) fun t138 =>
  bnd (A.load false 1 t138 h) fun t139 =>
  bnd (A.bin Try.prog .neq 9 t137 t139) fun t140 =>
  toBK t140 fun bq16 =>
  (bif bq16 then
  kn (.bool true) x3 x2 h
  else
  bnd (A.fieldAddr 22 x2) fun t143 =>
  bnd (A.load false 1 t143 h) fun t144 =>
  bnd (A.lenS t144) fun t145 =>
  bnd (A.fieldAddr 22 x3) fun t146 =>
  bnd (A.load false 1 t146 h) fun t147 =>
  bnd (A.lenS t147) fun t148 =>
  bnd (A.bin Try.prog .neq 3 t145 t148) fun t149 =>
  toBK t149 fun bq17 =>
  kn (.bool bq17) x3 x2 h)))))))))
theorem ep30arrll (C : CF) (L : Nat) {β : Type} (x3 : Value) (x2 : Value) (h : H) (K : Ex → T Value → H → Option β) :
    execK Try.prog C L 0 169 [4] c30arrll [150, 3, 2] [] (fs [(3, x3), (2, x2)]) h K =
      p30arrll C L x3 x2 h (fun x150 x3 x2 h => K .normal (fs [(150, x150), (3, x3), (2, x2)]) h) := by
  kernel_rfl
noncomputable def c30arrlr : Code := cR c30arrl
noncomputable def p30arrlr (C : CF) (L : Nat) {β : Type} (x150 : Value) (x3 : Value) (x2 : Value) (h : H) (kr : Value → H → Option β) (kn : Value → Value → H → Option β) : Option β :=
  condV x150 (
  kr (.bool false) h) (
  kn x3 x2 h)
theorem ep30arrlr (C : CF) (L : Nat) {β : Type} (x150 : Value) (x3 : Value) (x2 : Value) (h : H) (K : Ex → T Value → H → Option β) :
    execK Try.prog C L 0 169 [4] c30arrlr [3, 2] [] (fs [(150, x150), (3, x3), (2, x2)]) h K =
      p30arrlr C L x150 x3 x2 h (fun x4 h => K .ret (fs [(4, x4)]) h) (fun x3 x2 h => K .normal (fs [(3, x3), (2, x2)]) h) := by
  kernel_rfl
noncomputable def p30arrl (C : CF) (L : Nat) {β : Type} (x3 : Value) (x2 : Value) (h : H) (kr : Value → H → Option β) (kn : Value → Value → H → Option β) : Option β :=
  p30arrll C L x3 x2 h (fun x150 x3 x2 h => p30arrlr C L x150 x3 x2 h kr kn)
theorem ep30arrl (C : CF) (L : Nat) {β : Type} (x3 : Value) (x2 : Value) (h : H) (K : Ex → T Value → H → Option β) :
    execK Try.prog C L 0 169 [4] c30arrl [3, 2] [] (fs [(3, x3), (2, x2)]) h K =
      p30arrl C L x3 x2 h (fun x4 h => K .ret (fs [(4, x4)]) h) (fun x3 x2 h => K .normal (fs [(3, x3), (2, x2)]) h) := by
  rw [execK_seq (a := c30arrll) (b := c30arrlr) (by kernel_rfl) (show live [4] c30arrlr [3, 2] [] = [150, 3, 2] by kernel_rfl), ep30arrll]
  simp only [seqK, ep30arrlr]
  rfl
noncomputable def c30arrr : Code := cR c30arr
noncomputable def c30arrrl : Code := cL c30arrr
noncomputable def c30arrrll : Code := cL c30arrrl
noncomputable def p30arrrll (C : CF) (L : Nat) {β : Type} (x3 : Value) (x2 : Value) (h : H) (kn : Value → Value → Value → H → Option β) : Option β :=
  kn (.int .i64 0) x3 x2 h
theorem ep30arrrll (C : CF) (L : Nat) {β : Type} (x3 : Value) (x2 : Value) (h : H) (K : Ex → T Value → H → Option β) :
    execK Try.prog C L 0 169 [4] c30arrrll [5, 3, 2] [] (fs [(3, x3), (2, x2)]) h K =
      p30arrrll C L x3 x2 h (fun x5 x3 x2 h => K .normal (fs [(5, x5), (3, x3), (2, x2)]) h) := by
  kernel_rfl
noncomputable def c30arrrlr : Code := cR c30arrrl
noncomputable def c30arrrlrb : Code := cL c30arrrlr
noncomputable def c30arrrlrbo : Code := cL c30arrrlrb
noncomputable def p30arrrlrbo (C : CF) (L : Nat) {β : Type} (x5 : Value) (x3 : Value) (x2 : Value) (h : H) (kr : Value → H → Option β) (kn : Value → Value → Value → H → Option β) (kx0 : H → Option β) : Option β :=
  bnd (A.fieldAddr 22 x2) fun t152 =>
  bnd (A.load false 1 t152 h) fun t153 =>
  bnd (A.lenS t153) fun t154 =>
  bnd (A.bin Try.prog .lss 3 x5 t154) fun t155 =>
  toBK t155 fun b =>
  (bif b then
  bnd (A.fieldAddr 22 x2) fun t158 =>
  bnd (A.load false 1 t158 h) fun t159 =>
  bnd (A.idxS 2 t159 x5) fun t161 =>
  bnd (A.load true 2 t161 h) fun t162 =>
  bnd (A.fieldAddr 22 x3) fun t163 =>
  bnd (A.load false 1 t163 h) fun t164 =>
  bnd (A.idxS 2 t164 x5) fun t166 =>
  bnd (A.load true 2 t166 h) fun t167 =>
  bnd (A.bin Try.prog .neq 57 t162 t167) fun t168 =>
  toBK t168 fun bq1 =>
  (bif bq1 then
  kr (.bool false) h
  else
  bnd (A.bin Try.prog .add 3 x5 (.int .i64 1)) fun t157 =>
  kn t157 x3 x2 h)
  else
  kx0 h)
theorem ep30arrrlrbo (C : CF) (L : Nat) {β : Type} (x5 : Value) (x3 : Value) (x2 : Value) (h : H) (K : Ex → T Value → H → Option β) :
    execK Try.prog C L 0 169 [4] c30arrrlrbo [5, 3, 2] [(0, [])] (fs [(5, x5), (3, x3), (2, x2)]) h K =
      p30arrrlrbo C L x5 x3 x2 h (fun x4 h => K .ret (fs [(4, x4)]) h) (fun x5 x3 x2 h => K .normal (fs [(5, x5), (3, x3), (2, x2)]) h) (fun h => K (.exit 0) (fs []) h) := by
  kernel_rfl
noncomputable def p30arrrlrbw (C : CF) (L : Nat) {β : Type} (kr : Value → H → Option β) (kx0 : H → Option β) : Nat → Value → Value → Value → H → Option β
  | 0, _, _, _, _ => none
  | n + 1, x5, x3, x2, h => p30arrrlrbo C L x5 x3 x2 h kr (fun x5 x3 x2 h => p30arrrlrbw C L kr kx0 n x5 x3 x2 h) kx0
theorem ep30arrrlrbw (C : CF) (L : Nat) {β : Type} (K : Ex → T Value → H → Option β) : ∀ (n : Nat) (x5 : Value) (x3 : Value) (x2 : Value) (h : H),
    loopK (fun fr h K => execK Try.prog C L 0 169 [4] c30arrrlrbo [5, 3, 2] [(0, [])] fr h K) n (fs [(5, x5), (3, x3), (2, x2)]) h K =
      p30arrrlrbw C L (fun x4 h => K .ret (fs [(4, x4)]) h) (fun h => K (.exit 0) (fs []) h) n x5 x3 x2 h := by
  intro n
  induction n with
  | zero => intros; rfl
  | succ n ih =>
    intros
    simp only [loopK]
    rw [ep30arrrlrbo]
    simp only [seqK, ih]
    rfl
noncomputable def p30arrrlrb (C : CF) (L : Nat) {β : Type} (x5 : Value) (x3 : Value) (x2 : Value) (h : H) (kr : Value → H → Option β) (kx0 : H → Option β) : Option β :=
  p30arrrlrbw C L kr kx0 L x5 x3 x2 h
theorem ep30arrrlrb (C : CF) (L : Nat) {β : Type} (x5 : Value) (x3 : Value) (x2 : Value) (h : H) (K : Ex → T Value → H → Option β) :
    execK Try.prog C L 0 169 [4] c30arrrlrb [] [(0, [])] (fs [(5, x5), (3, x3), (2, x2)]) h K =
      p30arrrlrb C L x5 x3 x2 h (fun x4 h => K .ret (fs [(4, x4)]) h) (fun h => K (.exit 0) (fs []) h) := by
  rw [execK_loop (b := c30arrrlrbo) (fr1 := (fs [(5, x5), (3, x3), (2, x2)])) (by kernel_rfl) (show live [4] c30arrrlrbo [] [(0, [])] = [5, 3, 2] by kernel_rfl) (by kernel_rfl), ep30arrrlrbw]
  rfl
noncomputable def p30arrrlr (C : CF) (L : Nat) {β : Type} (x5 : Value) (x3 : Value) (x2 : Value) (h : H) (kr : Value → H → Option β) (kn : H → Option β) : Option β :=
  p30arrrlrb C L x5 x3 x2 h kr kn
theorem ep30arrrlr (C : CF) (L : Nat) {β : Type} (x5 : Value) (x3 : Value) (x2 : Value) (h : H) (K : Ex → T Value → H → Option β) :
    execK Try.prog C L 0 169 [4] c30arrrlr [] [] (fs [(5, x5), (3, x3), (2, x2)]) h K =
      p30arrrlr C L x5 x3 x2 h (fun x4 h => K .ret (fs [(4, x4)]) h) (fun h => K .normal (fs []) h) := by
  rw [execK_block (b := c30arrrlrb) (id := 0) (by kernel_rfl), ep30arrrlrb]
  rfl
noncomputable def p30arrrl (C : CF) (L : Nat) {β : Type} (x3 : Value) (x2 : Value) (h : H) (kr : Value → H → Option β) (kn : H → Option β) : Option β :=
  p30arrrll C L x3 x2 h (fun x5 x3 x2 h => p30arrrlr C L x5 x3 x2 h kr kn)
theorem ep30arrrl (C : CF) (L : Nat) {β : Type} (x3 : Value) (x2 : Value) (h : H) (K : Ex → T Value → H → Option β) :
    execK Try.prog C L 0 169 [4] c30arrrl [] [] (fs [(3, x3), (2, x2)]) h K =
      p30arrrl C L x3 x2 h (fun x4 h => K .ret (fs [(4, x4)]) h) (fun h => K .normal (fs []) h) := by
  rw [execK_seq (a := c30arrrll) (b := c30arrrlr) (by kernel_rfl) (show live [4] c30arrrlr [] [] = [5, 3, 2] by kernel_rfl), ep30arrrll]
  simp only [seqK, ep30arrrlr]
  rfl
noncomputable def c30arrrr : Code := cR c30arrr
noncomputable def p30arrrr (C : CF) (L : Nat) {β : Type} (h : H) (kr : Value → H → Option β) : Option β :=
  kr (.bool true) h
theorem ep30arrrr (C : CF) (L : Nat) {β : Type} (h : H) (K : Ex → T Value → H → Option β) :
    execK Try.prog C L 0 169 [4] c30arrrr [4] [] (fs []) h K =
      p30arrrr C L h (fun x4 h => K .ret (fs [(4, x4)]) h) := by
  kernel_rfl
noncomputable def p30arrr (C : CF) (L : Nat) {β : Type} (x3 : Value) (x2 : Value) (h : H) (kr : Value → H → Option β) : Option β :=
  p30arrrl C L x3 x2 h kr (fun h => p30arrrr C L h kr)
theorem ep30arrr (C : CF) (L : Nat) {β : Type} (x3 : Value) (x2 : Value) (h : H) (K : Ex → T Value → H → Option β) :
    execK Try.prog C L 0 169 [4] c30arrr [4] [] (fs [(3, x3), (2, x2)]) h K =
      p30arrr C L x3 x2 h (fun x4 h => K .ret (fs [(4, x4)]) h) := by
  rw [execK_seq (a := c30arrrl) (b := c30arrrr) (by kernel_rfl) (show live [4] c30arrrr [4] [] = [] by kernel_rfl), ep30arrrl]
  simp only [seqK, ep30arrrr]
  rfl
noncomputable def p30arr (C : CF) (L : Nat) {β : Type} (x3 : Value) (x2 : Value) (h : H) (kr : Value → H → Option β) : Option β :=
  p30arrl C L x3 x2 h kr (fun x3 x2 h => p30arrr C L x3 x2 h kr)
theorem ep30arr (C : CF) (L : Nat) {β : Type} (x3 : Value) (x2 : Value) (h : H) (K : Ex → T Value → H → Option β) :
    execK Try.prog C L 0 169 [4] c30arr [4] [] (fs [(3, x3), (2, x2)]) h K =
      p30arr C L x3 x2 h (fun x4 h => K .ret (fs [(4, x4)]) h) := by
  rw [execK_seq (a := c30arrl) (b := c30arrr) (by kernel_rfl) (show live [4] c30arrr [4] [] = [3, 2] by kernel_rfl), ep30arrl]
  simp only [seqK, ep30arrr]
  rfl
noncomputable def p30ar (C : CF) (L : Nat) {β : Type} (x3 : Value) (x2 : Value) (h : H) (kr : Value → H → Option β) : Option β :=
  p30arl C L x3 x2 h kr (fun x3 x2 h => p30arr C L x3 x2 h kr)
theorem ep30ar (C : CF) (L : Nat) {β : Type} (x3 : Value) (x2 : Value) (h : H) (K : Ex → T Value → H → Option β) :
    execK Try.prog C L 0 169 [4] c30ar [4] [] (fs [(3, x3), (2, x2)]) h K =
      p30ar C L x3 x2 h (fun x4 h => K .ret (fs [(4, x4)]) h) := by
  rw [execK_seq (a := c30arl) (b := c30arr) (by kernel_rfl) (show live [4] c30arr [4] [] = [3, 2] by kernel_rfl), ep30arl]
  simp only [seqK, ep30arr]
  rfl
noncomputable def p30a (C : CF) (L : Nat) {β : Type} (x0 : Value) (x1 : Value) (h : H) (kr : Value → H → Option β) : Option β :=
  p30al C L x0 x1 h (fun x3 x2 h => p30ar C L x3 x2 h kr)
theorem ep30a (C : CF) (L : Nat) {β : Type} (x0 : Value) (x1 : Value) (h : H) (K : Ex → T Value → H → Option β) :
    execK Try.prog C L 0 169 [4] c30a [4] [] (fs [(0, x0), (1, x1)]) h K =
      p30a C L x0 x1 h (fun x4 h => K .ret (fs [(4, x4)]) h) := by
  rw [execK_seq (a := c30al) (b := c30ar) (by kernel_rfl) (show live [4] c30ar [4] [] = [3, 2] by kernel_rfl), ep30al]
  simp only [seqK, ep30ar]
  rfl
noncomputable def F30 (C : CF) (L : Nat) (x0 : Value) (x1 : Value) (h : H) : Option (Value × H) :=
  p30a C L x0 x1 h
    (fun x4 h => some (x4, h))
theorem F30eq (O : List FuncId) (hO : O.any (Nat.beq 30) = false) (n : Nat) (x0 : Value) (x1 : Value) (h : H) : callB Try.prog 0 O (n + 1) 30 [x0, x1] h = F30 (callB Try.prog 0 O n) n x0 x1 h := by
  rw [callB_eq hO (c := c30a) (nt := 169) (RR := [4]) (fr := (fs [(0, x0), (1, x1)])) Try.func30 (by kernel_rfl) (by kernel_rfl) (by kernel_rfl) (by kernel_rfl) (by kernel_rfl), ep30a]
  kernel_rfl

end Go.Proofs.Ytlhppeikbgolbaa.RecD
