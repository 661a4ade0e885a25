/-
  Functions of the program over the abstract machine: printed by a program of mine (wip/tools/Dec.lean), each with its equation to the machine's call.
-/
import Derived.Test.YtlhppeikbgolbaaProg
import Derived.Test.YtlhppeikbgolbaaAmDec
set_option linter.unusedVariables false
set_option maxRecDepth 100000
namespace Go.Proofs.Ytlhppeikbgolbaa.RecD
open Go Go.AM

noncomputable def Z5 : Value := (.int .u8 0)
noncomputable def Z5L : List Value := [(.int .u8 0)]
noncomputable def Z34 : Value := (.agg ⟨[(.int .u8 0), (.bool false), (.int .u8 0), (.bool false), (.int .u16 0), (.string ⟨⟨[]⟩⟩), (.string ⟨⟨[]⟩⟩), (.int .u8 0), (.bool false), (.int .u16 0), (.string ⟨⟨[]⟩⟩), (.bool false), (.string ⟨⟨[]⟩⟩), (.string ⟨⟨[]⟩⟩), (.int .u8 0), (.bool false), (.bool false), (.bool false), (.string ⟨⟨[]⟩⟩), (.string ⟨⟨[]⟩⟩), (.bool false), (.int .u8 0), (.slice none 0 0), (.string ⟨⟨[]⟩⟩)]⟩)
noncomputable def Z34L : List Value := [(.int .u8 0), (.bool false), (.int .u8 0), (.bool false), (.int .u16 0), (.string ⟨⟨[]⟩⟩), (.string ⟨⟨[]⟩⟩), (.int .u8 0), (.bool false), (.int .u16 0), (.string ⟨⟨[]⟩⟩), (.bool false), (.string ⟨⟨[]⟩⟩), (.string ⟨⟨[]⟩⟩), (.int .u8 0), (.bool false), (.bool false), (.bool false), (.string ⟨⟨[]⟩⟩), (.string ⟨⟨[]⟩⟩), (.bool false), (.int .u8 0), (.slice none 0 0), (.string ⟨⟨[]⟩⟩)]
noncomputable def Z9 : Value := (.string ⟨⟨[]⟩⟩)
noncomputable def Z9L : List Value := [(.string ⟨⟨[]⟩⟩)]
noncomputable def Z3 : Value := (.int .i64 0)
noncomputable def Z3L : List Value := [(.int .i64 0)]
noncomputable def Z36 : Value := (.agg ⟨[(.int .u8 0), (.int .i64 0), (.int .i64 0), (.string ⟨⟨[]⟩⟩), (.int .u8 0), (.bool false), (.int .u8 0), (.bool false), (.int .u16 0), (.string ⟨⟨[]⟩⟩), (.string ⟨⟨[]⟩⟩), (.int .u8 0), (.bool false), (.int .u16 0), (.string ⟨⟨[]⟩⟩), (.bool false), (.string ⟨⟨[]⟩⟩), (.string ⟨⟨[]⟩⟩), (.int .u8 0), (.bool false), (.bool false), (.bool false), (.string ⟨⟨[]⟩⟩), (.string ⟨⟨[]⟩⟩), (.bool false), (.int .u8 0), (.slice none 0 0), (.string ⟨⟨[]⟩⟩), (.string ⟨⟨[]⟩⟩), (.string ⟨⟨[]⟩⟩), (.int .u8 0), (.bool false), (.string ⟨⟨[]⟩⟩), (.bool false), (.int .u8 0)]⟩)
noncomputable def Z36L : List Value := [(.int .u8 0), (.int .i64 0), (.int .i64 0), (.string ⟨⟨[]⟩⟩), (.int .u8 0), (.bool false), (.int .u8 0), (.bool false), (.int .u16 0), (.string ⟨⟨[]⟩⟩), (.string ⟨⟨[]⟩⟩), (.int .u8 0), (.bool false), (.int .u16 0), (.string ⟨⟨[]⟩⟩), (.bool false), (.string ⟨⟨[]⟩⟩), (.string ⟨⟨[]⟩⟩), (.int .u8 0), (.bool false), (.bool false), (.bool false), (.string ⟨⟨[]⟩⟩), (.string ⟨⟨[]⟩⟩), (.bool false), (.int .u8 0), (.slice none 0 0), (.string ⟨⟨[]⟩⟩), (.string ⟨⟨[]⟩⟩), (.string ⟨⟨[]⟩⟩), (.int .u8 0), (.bool false), (.string ⟨⟨[]⟩⟩), (.bool false), (.int .u8 0)]
noncomputable def Z57 : Value := (.agg ⟨[(.string ⟨⟨[]⟩⟩), (.int .u8 0)]⟩)
noncomputable def Z57L : List Value := [(.string ⟨⟨[]⟩⟩), (.int .u8 0)]
noncomputable def Z63 : Value := (.agg ⟨[(.slice none 0 0), (.int .i64 0)]⟩)
noncomputable def Z63L : List Value := [(.slice none 0 0), (.int .i64 0)]

/-! F3: relayhouse/relayhouselaw17.RecordOf -/
noncomputable def c3a : Code := (Try.f3.body).getD .skip
noncomputable def c3al : Code := cL c3a
noncomputable def p3al (C : CF) (L : Nat) {β : Type} (x0 : Value) (x1 : Value) (x2 : Value) (h : H) (kn : Value → Value → Value → H → Option β) : Option β :=
  kn x2 x0 x1 h
theorem ep3al (C : CF) (L : Nat) {β : Type} (x0 : Value) (x1 : Value) (x2 : Value) (h : H) (K : Ex → T Value → H → Option β) :
    execK Try.prog C L 0 88 [6] c3al [2, 0, 1] [] (fs [(0, x0), (1, x1), (2, x2)]) h K =
      p3al C L x0 x1 x2 h (fun x2 x0 x1 h => K .normal (fs [(2, x2), (0, x0), (1, x1)]) h) := by
  kernel_rfl
noncomputable def c3ar : Code := cR c3a
noncomputable def c3arl : Code := cL c3ar
noncomputable def p3arl (C : CF) (L : Nat) {β : Type} (x2 : Value) (x0 : Value) (x1 : Value) (h : H) (kr : Value → H → Option β) (kn : Value → Value → Value → H → Option β) : Option β :=
  (C 9 [x0] h).bind fun (t14, hq1) =>
  toBK t14 fun b =>
  (bif b then
  (C 10 [] hq1).bind fun (t15, hq2) =>
  toBK t15 fun bq1 =>
  kr (.bool bq1) hq2
  else
  kn x2 x0 x1 hq1)
theorem ep3arl (C : CF) (L : Nat) {β : Type} (x2 : Value) (x0 : Value) (x1 : Value) (h : H) (K : Ex → T Value → H → Option β) :
    execK Try.prog C L 0 88 [6] c3arl [2, 0, 1] [] (fs [(2, x2), (0, x0), (1, x1)]) h K =
      p3arl C L x2 x0 x1 h (fun x6 h => K .ret (fs [(6, x6)]) h) (fun x2 x0 x1 h => K .normal (fs [(2, x2), (0, x0), (1, x1)]) h) := by
  kernel_rfl
noncomputable def c3arr : Code := cR c3ar
noncomputable def c3arrl : Code := cL c3arr
noncomputable def p3arrl (C : CF) (L : Nat) {β : Type} (x2 : Value) (x0 : Value) (x1 : Value) (h : H) (kn : Value → Value → Value → Value → H → Option β) : Option β :=
  (C 11 [x0] h).bind fun (t17, hq1) =>
  kn t17 x2 x0 x1 hq1
theorem ep3arrl (C : CF) (L : Nat) {β : Type} (x2 : Value) (x0 : Value) (x1 : Value) (h : H) (K : Ex → T Value → H → Option β) :
    execK Try.prog C L 0 88 [6] c3arrl [7, 2, 0, 1] [] (fs [(2, x2), (0, x0), (1, x1)]) h K =
      p3arrl C L x2 x0 x1 h (fun x7 x2 x0 x1 h => K .normal (fs [(7, x7), (2, x2), (0, x0), (1, x1)]) h) := by
  kernel_rfl
noncomputable def c3arrr : Code := cR c3arr
noncomputable def c3arrrl : Code := cL c3arrr
noncomputable def p3arrrl (C : CF) (L : Nat) {β : Type} (x7 : Value) (x2 : Value) (x0 : Value) (x1 : Value) (h : H) (kn : Value → Value → Value → Value → Value → H → Option β) : Option β :=
  (C 12 [x7, x1, (.slice none 0 0)] h).bind fun (t20, hq1) =>
  (A.buildSlice 1 2 Z5L [(0, 1, x2), (1, 1, x2)] hq1).bind fun (t25, hq2) =>
  (C 12 [x7, x1, t25] hq2).bind fun (t26, hq3) =>
  kn x2 x0 x1 t20 t26 hq3
theorem ep3arrrl (C : CF) (L : Nat) {β : Type} (x7 : Value) (x2 : Value) (x0 : Value) (x1 : Value) (h : H) (K : Ex → T Value → H → Option β) :
    execK Try.prog C L 0 88 [6] c3arrrl [2, 0, 1, 8, 9] [] (fs [(7, x7), (2, x2), (0, x0), (1, x1)]) h K =
      p3arrrl C L x7 x2 x0 x1 h (fun x2 x0 x1 x8 x9 h => K .normal (fs [(2, x2), (0, x0), (1, x1), (8, x8), (9, x9)]) h) := by
  kernel_rfl
noncomputable def c3arrrr : Code := cR c3arrr
noncomputable def c3arrrrl : Code := cL c3arrrr
noncomputable def p3arrrrl (C : CF) (L : Nat) {β : Type} (x2 : Value) (x0 : Value) (x1 : Value) (x8 : Value) (x9 : Value) (h : H) (kn : Value → Value → Value → Value → Value → Value → Value → H → Option β) : Option β :=
  kn x2 x0 x1 (.int .i64 0) x8 (.int .i64 0) x9 h
theorem ep3arrrrl (C : CF) (L : Nat) {β : Type} (x2 : Value) (x0 : Value) (x1 : Value) (x8 : Value) (x9 : Value) (h : H) (K : Ex → T Value → H → Option β) :
    execK Try.prog C L 0 88 [6] c3arrrrl [2, 0, 1, 10, 8, 11, 9] [] (fs [(2, x2), (0, x0), (1, x1), (8, x8), (9, x9)]) h K =
      p3arrrrl C L x2 x0 x1 x8 x9 h (fun x2 x0 x1 x10 x8 x11 x9 h => K .normal (fs [(2, x2), (0, x0), (1, x1), (10, x10), (8, x8), (11, x11), (9, x9)]) h) := by
  kernel_rfl
noncomputable def c3arrrrr : Code := cR c3arrrr
noncomputable def c3arrrrrl : Code := cL c3arrrrr
noncomputable def c3arrrrrll : Code := cL c3arrrrrl
noncomputable def p3arrrrrll (C : CF) (L : Nat) {β : Type} (x2 : Value) (x0 : Value) (x1 : Value) (x10 : Value) (x8 : Value) (x11 : Value) (x9 : Value) (h : H) (kn : Value → Value → Value → Value → Value → Value → Value → Value → H → Option β) : Option β :=
  kn (.int .i64 0) x2 x0 x1 x10 x8 x11 x9 h
theorem ep3arrrrrll (C : CF) (L : Nat) {β : Type} (x2 : Value) (x0 : Value) (x1 : Value) (x10 : Value) (x8 : Value) (x11 : Value) (x9 : Value) (h : H) (K : Ex → T Value → H → Option β) :
    execK Try.prog C L 0 88 [6] c3arrrrrll [12, 2, 0, 1, 10, 8, 11, 9] [] (fs [(2, x2), (0, x0), (1, x1), (10, x10), (8, x8), (11, x11), (9, x9)]) h K =
      p3arrrrrll C L x2 x0 x1 x10 x8 x11 x9 h (fun x12 x2 x0 x1 x10 x8 x11 x9 h => K .normal (fs [(12, x12), (2, x2), (0, x0), (1, x1), (10, x10), (8, x8), (11, x11), (9, x9)]) h) := by
  kernel_rfl
noncomputable def c3arrrrrlr : Code := cR c3arrrrrl
noncomputable def c3arrrrrlrb : Code := cL c3arrrrrlr
noncomputable def c3arrrrrlrbo : Code := cL c3arrrrrlrb
noncomputable def c3arrrrrlrbol : Code := cL c3arrrrrlrbo
noncomputable def p3arrrrrlrbol (C : CF) (L : Nat) {β : Type} (x12 : Value) (x2 : Value) (x0 : Value) (x1 : Value) (x10 : Value) (x8 : Value) (x11 : Value) (x9 : Value) (h : H) (kn : Value → Value → Value → Value → Value → Value → Value → Value → H → Option β) (kx0 : Value → Value → Value → Value → H → Option β) : Option β :=
  (A.lenS x0).bind fun t29 =>
  (A.bin Try.prog .lss 3 x12 t29).bind fun t30 =>
  toBK t30 fun b =>
  (bif b then
  kn x10 x12 x2 x0 x1 x8 x11 x9 h
  else
  kx0 x10 x8 x11 x9 h)
theorem ep3arrrrrlrbol (C : CF) (L : Nat) {β : Type} (x12 : Value) (x2 : Value) (x0 : Value) (x1 : Value) (x10 : Value) (x8 : Value) (x11 : Value) (x9 : Value) (h : H) (K : Ex → T Value → H → Option β) :
    execK Try.prog C L 0 88 [6] c3arrrrrlrbol [10, 12, 2, 0, 1, 8, 11, 9] [(0, [10, 8, 11, 9])] (fs [(12, x12), (2, x2), (0, x0), (1, x1), (10, x10), (8, x8), (11, x11), (9, x9)]) h K =
      p3arrrrrlrbol C L x12 x2 x0 x1 x10 x8 x11 x9 h (fun x10 x12 x2 x0 x1 x8 x11 x9 h => K .normal (fs [(10, x10), (12, x12), (2, x2), (0, x0), (1, x1), (8, x8), (11, x11), (9, x9)]) h) (fun x10 x8 x11 x9 h => K (.exit 0) (fs [(10, x10), (8, x8), (11, x11), (9, x9)]) h) := by
  kernel_rfl
noncomputable def c3arrrrrlrbor : Code := cR c3arrrrrlrbo
noncomputable def c3arrrrrlrborl : Code := cL c3arrrrrlrbor
noncomputable def c3arrrrrlrborlb : Code := cL c3arrrrrlrborl
noncomputable def c3arrrrrlrborlbl : Code := cL c3arrrrrlrborlb
noncomputable def p3arrrrrlrborlbl (C : CF) (L : Nat) {β : Type} (x10 : Value) (x12 : Value) (x2 : Value) (x0 : Value) (x1 : Value) (x8 : Value) (x11 : Value) (x9 : Value) (h : H) (kx1 : Value → Value → Value → Value → Value → Value → Value → Value → H → Option β) (kn : Value → Value → Value → Value → Value → Value → Value → Value → H → Option β) : Option β :=
  (A.idxS 35 x0 x12).bind fun t35 =>
  (A.fieldAddr 1 t35).bind fun t36 =>
  (A.load false 1 t36 h).bind fun t37 =>
  (A.bin Try.prog .neq 3 t37 x1).bind fun t39 =>
  toBK t39 fun b =>
  (bif b then
  kx1 x12 x2 x0 x1 x10 x8 x11 x9 h
  else
  kn x10 x12 x2 x0 x1 x8 x11 x9 h)
theorem ep3arrrrrlrborlbl (C : CF) (L : Nat) {β : Type} (x10 : Value) (x12 : Value) (x2 : Value) (x0 : Value) (x1 : Value) (x8 : Value) (x11 : Value) (x9 : Value) (h : H) (K : Ex → T Value → H → Option β) :
    execK Try.prog C L 0 88 [6] c3arrrrrlrborlbl [10, 12, 2, 0, 1, 8, 11, 9] [(1, [12, 2, 0, 1, 10, 8, 11, 9]), (0, [10, 8, 11, 9])] (fs [(10, x10), (12, x12), (2, x2), (0, x0), (1, x1), (8, x8), (11, x11), (9, x9)]) h K =
      p3arrrrrlrborlbl C L x10 x12 x2 x0 x1 x8 x11 x9 h (fun x12 x2 x0 x1 x10 x8 x11 x9 h => K (.exit 1) (fs [(12, x12), (2, x2), (0, x0), (1, x1), (10, x10), (8, x8), (11, x11), (9, x9)]) h) (fun x10 x12 x2 x0 x1 x8 x11 x9 h => K .normal (fs [(10, x10), (12, x12), (2, x2), (0, x0), (1, x1), (8, x8), (11, x11), (9, x9)]) h) := by
  kernel_rfl
noncomputable def c3arrrrrlrborlbr : Code := cR c3arrrrrlrborlb
noncomputable def c3arrrrrlrborlbrl : Code := cL c3arrrrrlrborlbr
noncomputable def p3arrrrrlrborlbrl (C : CF) (L : Nat) {β : Type} (x10 : Value) (x12 : Value) (x2 : Value) (x0 : Value) (x1 : Value) (x8 : Value) (x11 : Value) (x9 : Value) (h : H) (kr : Value → H → Option β) (kn : Value → Value → Value → Value → Value → Value → Value → Value → H → Option β) : Option β :=
  (A.lenS x8).bind fun t42 =>
  (A.bin Try.prog .geq 3 x10 t42).bind fun t43 =>
  toBK t43 fun b =>
  (bif b then
  kr (.bool false) h
  else
  (A.idxS 1 x8 x10).bind fun t47 =>
  (A.load false 1 t47 h).bind fun t48 =>
  (A.bin Try.prog .neq 3 t48 x12).bind fun t50 =>
  toBK t50 fun bq1 =>
  (bif bq1 then
  kr (.bool false) h
  else
  kn x10 x12 x2 x0 x1 x8 x11 x9 h))
theorem ep3arrrrrlrborlbrl (C : CF) (L : Nat) {β : Type} (x10 : Value) (x12 : Value) (x2 : Value) (x0 : Value) (x1 : Value) (x8 : Value) (x11 : Value) (x9 : Value) (h : H) (K : Ex → T Value → H → Option β) :
    execK Try.prog C L 0 88 [6] c3arrrrrlrborlbrl [10, 12, 2, 0, 1, 8, 11, 9] [(1, [12, 2, 0, 1, 10, 8, 11, 9]), (0, [10, 8, 11, 9])] (fs [(10, x10), (12, x12), (2, x2), (0, x0), (1, x1), (8, x8), (11, x11), (9, x9)]) h K =
      p3arrrrrlrborlbrl C L x10 x12 x2 x0 x1 x8 x11 x9 h (fun x6 h => K .ret (fs [(6, x6)]) h) (fun x10 x12 x2 x0 x1 x8 x11 x9 h => K .normal (fs [(10, x10), (12, x12), (2, x2), (0, x0), (1, x1), (8, x8), (11, x11), (9, x9)]) h) := by
  kernel_rfl
noncomputable def c3arrrrrlrborlbrr : Code := cR c3arrrrrlrborlbr
noncomputable def c3arrrrrlrborlbrrl : Code := cL c3arrrrrlrborlbrr
noncomputable def p3arrrrrlrborlbrrl (C : CF) (L : Nat) {β : Type} (x10 : Value) (x12 : Value) (x2 : Value) (x0 : Value) (x1 : Value) (x8 : Value) (x11 : Value) (x9 : Value) (h : H) (kn : Value → Value → Value → Value → Value → Value → Value → Value → H → Option β) : Option β :=
  (A.bin Try.prog .add 3 x10 (.int .i64 1)).bind fun t53 =>
  kn x12 x2 x0 x1 t53 x8 x11 x9 h
theorem ep3arrrrrlrborlbrrl (C : CF) (L : Nat) {β : Type} (x10 : Value) (x12 : Value) (x2 : Value) (x0 : Value) (x1 : Value) (x8 : Value) (x11 : Value) (x9 : Value) (h : H) (K : Ex → T Value → H → Option β) :
    execK Try.prog C L 0 88 [6] c3arrrrrlrborlbrrl [12, 2, 0, 1, 10, 8, 11, 9] [(1, [12, 2, 0, 1, 10, 8, 11, 9]), (0, [10, 8, 11, 9])] (fs [(10, x10), (12, x12), (2, x2), (0, x0), (1, x1), (8, x8), (11, x11), (9, x9)]) h K =
      p3arrrrrlrborlbrrl C L x10 x12 x2 x0 x1 x8 x11 x9 h (fun x12 x2 x0 x1 x10 x8 x11 x9 h => K .normal (fs [(12, x12), (2, x2), (0, x0), (1, x1), (10, x10), (8, x8), (11, x11), (9, x9)]) h) := by
  kernel_rfl
noncomputable def c3arrrrrlrborlbrrr : Code := cR c3arrrrrlrborlbrr
noncomputable def c3arrrrrlrborlbrrrl : Code := cL c3arrrrrlrborlbrrr
noncomputable def p3arrrrrlrborlbrrrl (C : CF) (L : Nat) {β : Type} (x12 : Value) (x2 : Value) (x0 : Value) (x1 : Value) (x10 : Value) (x8 : Value) (x11 : Value) (x9 : Value) (h : H) (kn : Value → Value → Value → Value → Value → Value → Value → Value → Value → H → Option β) : Option β :=
  (A.idxS 35 x0 x12).bind fun t56 =>
  (A.fieldAddr 0 t56).bind fun t57 =>
  (A.load false 1 t57 h).bind fun t58 =>
  (A.bin Try.prog .eql 5 t58 x2).bind fun t60 =>
  toBK t60 fun b =>
  kn (.bool b) x12 x2 x0 x1 x10 x8 x11 x9 h
theorem ep3arrrrrlrborlbrrrl (C : CF) (L : Nat) {β : Type} (x12 : Value) (x2 : Value) (x0 : Value) (x1 : Value) (x10 : Value) (x8 : Value) (x11 : Value) (x9 : Value) (h : H) (K : Ex → T Value → H → Option β) :
    execK Try.prog C L 0 88 [6] c3arrrrrlrborlbrrrl [60, 12, 2, 0, 1, 10, 8, 11, 9] [(1, [12, 2, 0, 1, 10, 8, 11, 9]), (0, [10, 8, 11, 9])] (fs [(12, x12), (2, x2), (0, x0), (1, x1), (10, x10), (8, x8), (11, x11), (9, x9)]) h K =
      p3arrrrrlrborlbrrrl C L x12 x2 x0 x1 x10 x8 x11 x9 h (fun x60 x12 x2 x0 x1 x10 x8 x11 x9 h => K .normal (fs [(60, x60), (12, x12), (2, x2), (0, x0), (1, x1), (10, x10), (8, x8), (11, x11), (9, x9)]) h) := by
  kernel_rfl
noncomputable def c3arrrrrlrborlbrrrr : Code := cR c3arrrrrlrborlbrrr
noncomputable def c3arrrrrlrborlbrrrrt : Code := cL c3arrrrrlrborlbrrrr
noncomputable def p3arrrrrlrborlbrrrrt (C : CF) (L : Nat) {β : Type} (x60 : Value) (x12 : Value) (x2 : Value) (x0 : Value) (x1 : Value) (x10 : Value) (x8 : Value) (x11 : Value) (x9 : Value) (h : H) (kr : Value → H → Option β) (kn : Value → Value → Value → Value → Value → Value → Value → Value → H → Option β) : Option β :=
  (A.lenS x9).bind fun t63 =>
  (A.bin Try.prog .geq 3 x11 t63).bind fun t64 =>
  toBK t64 fun b =>
  (bif b then
  kr (.bool false) h
  else
  (A.idxS 1 x9 x11).bind fun t68 =>
  (A.load false 1 t68 h).bind fun t69 =>
  (A.bin Try.prog .neq 3 t69 x12).bind fun t71 =>
  toBK t71 fun bq1 =>
  (bif bq1 then
  kr (.bool false) h
  else
  (A.bin Try.prog .add 3 x11 (.int .i64 1)).bind fun t74 =>
  kn x12 x2 x0 x1 x10 x8 t74 x9 h))
theorem ep3arrrrrlrborlbrrrrt (C : CF) (L : Nat) {β : Type} (x60 : Value) (x12 : Value) (x2 : Value) (x0 : Value) (x1 : Value) (x10 : Value) (x8 : Value) (x11 : Value) (x9 : Value) (h : H) (K : Ex → T Value → H → Option β) :
    execK Try.prog C L 0 88 [6] c3arrrrrlrborlbrrrrt [12, 2, 0, 1, 10, 8, 11, 9] [(1, [12, 2, 0, 1, 10, 8, 11, 9]), (0, [10, 8, 11, 9])] (fs [(60, x60), (12, x12), (2, x2), (0, x0), (1, x1), (10, x10), (8, x8), (11, x11), (9, x9)]) h K =
      p3arrrrrlrborlbrrrrt C L x60 x12 x2 x0 x1 x10 x8 x11 x9 h (fun x6 h => K .ret (fs [(6, x6)]) h) (fun x12 x2 x0 x1 x10 x8 x11 x9 h => K .normal (fs [(12, x12), (2, x2), (0, x0), (1, x1), (10, x10), (8, x8), (11, x11), (9, x9)]) h) := by
  kernel_rfl
noncomputable def c3arrrrrlrborlbrrrrf : Code := cR c3arrrrrlrborlbrrrr
noncomputable def p3arrrrrlrborlbrrrrf (C : CF) (L : Nat) {β : Type} (x60 : Value) (x12 : Value) (x2 : Value) (x0 : Value) (x1 : Value) (x10 : Value) (x8 : Value) (x11 : Value) (x9 : Value) (h : H) (kn : Value → Value → Value → Value → Value → Value → Value → Value → H → Option β) : Option β :=
  kn x12 x2 x0 x1 x10 x8 x11 x9 h
theorem ep3arrrrrlrborlbrrrrf (C : CF) (L : Nat) {β : Type} (x60 : Value) (x12 : Value) (x2 : Value) (x0 : Value) (x1 : Value) (x10 : Value) (x8 : Value) (x11 : Value) (x9 : Value) (h : H) (K : Ex → T Value → H → Option β) :
    execK Try.prog C L 0 88 [6] c3arrrrrlrborlbrrrrf [12, 2, 0, 1, 10, 8, 11, 9] [(1, [12, 2, 0, 1, 10, 8, 11, 9]), (0, [10, 8, 11, 9])] (fs [(60, x60), (12, x12), (2, x2), (0, x0), (1, x1), (10, x10), (8, x8), (11, x11), (9, x9)]) h K =
      p3arrrrrlrborlbrrrrf C L x60 x12 x2 x0 x1 x10 x8 x11 x9 h (fun x12 x2 x0 x1 x10 x8 x11 x9 h => K .normal (fs [(12, x12), (2, x2), (0, x0), (1, x1), (10, x10), (8, x8), (11, x11), (9, x9)]) h) := by
  kernel_rfl
noncomputable def p3arrrrrlrborlbrrrr (C : CF) (L : Nat) {β : Type} (x60 : Value) (x12 : Value) (x2 : Value) (x0 : Value) (x1 : Value) (x10 : Value) (x8 : Value) (x11 : Value) (x9 : Value) (h : H) (kr : Value → H → Option β) (kn : Value → Value → Value → Value → Value → Value → Value → Value → H → Option β) : Option β :=
  condV x60 (p3arrrrrlrborlbrrrrt C L x60 x12 x2 x0 x1 x10 x8 x11 x9 h kr kn) (p3arrrrrlrborlbrrrrf C L x60 x12 x2 x0 x1 x10 x8 x11 x9 h kn)
theorem ep3arrrrrlrborlbrrrr (C : CF) (L : Nat) {β : Type} (x60 : Value) (x12 : Value) (x2 : Value) (x0 : Value) (x1 : Value) (x10 : Value) (x8 : Value) (x11 : Value) (x9 : Value) (h : H) (K : Ex → T Value → H → Option β) :
    execK Try.prog C L 0 88 [6] c3arrrrrlrborlbrrrr [12, 2, 0, 1, 10, 8, 11, 9] [(1, [12, 2, 0, 1, 10, 8, 11, 9]), (0, [10, 8, 11, 9])] (fs [(60, x60), (12, x12), (2, x2), (0, x0), (1, x1), (10, x10), (8, x8), (11, x11), (9, x9)]) h K =
      p3arrrrrlrborlbrrrr C L x60 x12 x2 x0 x1 x10 x8 x11 x9 h (fun x6 h => K .ret (fs [(6, x6)]) h) (fun x12 x2 x0 x1 x10 x8 x11 x9 h => K .normal (fs [(12, x12), (2, x2), (0, x0), (1, x1), (10, x10), (8, x8), (11, x11), (9, x9)]) h) := by
  rw [execK_cond (a := c3arrrrrlrborlbrrrrt) (b := c3arrrrrlrborlbrrrrf) (x := (.tmp 60)) (v := x60) (by kernel_rfl) (by kernel_rfl), ep3arrrrrlrborlbrrrrt, ep3arrrrrlrborlbrrrrf]
  rfl
noncomputable def p3arrrrrlrborlbrrr (C : CF) (L : Nat) {β : Type} (x12 : Value) (x2 : Value) (x0 : Value) (x1 : Value) (x10 : Value) (x8 : Value) (x11 : Value) (x9 : Value) (h : H) (kr : Value → H → Option β) (kn : Value → Value → Value → Value → Value → Value → Value → Value → H → Option β) : Option β :=
  p3arrrrrlrborlbrrrl C L x12 x2 x0 x1 x10 x8 x11 x9 h (fun x60 x12 x2 x0 x1 x10 x8 x11 x9 h => p3arrrrrlrborlbrrrr C L x60 x12 x2 x0 x1 x10 x8 x11 x9 h kr kn)
theorem ep3arrrrrlrborlbrrr (C : CF) (L : Nat) {β : Type} (x12 : Value) (x2 : Value) (x0 : Value) (x1 : Value) (x10 : Value) (x8 : Value) (x11 : Value) (x9 : Value) (h : H) (K : Ex → T Value → H → Option β) :
    execK Try.prog C L 0 88 [6] c3arrrrrlrborlbrrr [12, 2, 0, 1, 10, 8, 11, 9] [(1, [12, 2, 0, 1, 10, 8, 11, 9]), (0, [10, 8, 11, 9])] (fs [(12, x12), (2, x2), (0, x0), (1, x1), (10, x10), (8, x8), (11, x11), (9, x9)]) h K =
      p3arrrrrlrborlbrrr C L x12 x2 x0 x1 x10 x8 x11 x9 h (fun x6 h => K .ret (fs [(6, x6)]) h) (fun x12 x2 x0 x1 x10 x8 x11 x9 h => K .normal (fs [(12, x12), (2, x2), (0, x0), (1, x1), (10, x10), (8, x8), (11, x11), (9, x9)]) h) := by
  rw [execK_seq (a := c3arrrrrlrborlbrrrl) (b := c3arrrrrlrborlbrrrr) (by kernel_rfl) (show live [6] c3arrrrrlrborlbrrrr [12, 2, 0, 1, 10, 8, 11, 9] [(1, [12, 2, 0, 1, 10, 8, 11, 9]), (0, [10, 8, 11, 9])] = [60, 12, 2, 0, 1, 10, 8, 11, 9] by kernel_rfl), ep3arrrrrlrborlbrrrl]
  simp only [seqK, ep3arrrrrlrborlbrrrr]
  rfl
noncomputable def p3arrrrrlrborlbrr (C : CF) (L : Nat) {β : Type} (x10 : Value) (x12 : Value) (x2 : Value) (x0 : Value) (x1 : Value) (x8 : Value) (x11 : Value) (x9 : Value) (h : H) (kr : Value → H → Option β) (kn : Value → Value → Value → Value → Value → Value → Value → Value → H → Option β) : Option β :=
  p3arrrrrlrborlbrrl C L x10 x12 x2 x0 x1 x8 x11 x9 h (fun x12 x2 x0 x1 x10 x8 x11 x9 h => p3arrrrrlrborlbrrr C L x12 x2 x0 x1 x10 x8 x11 x9 h kr kn)
theorem ep3arrrrrlrborlbrr (C : CF) (L : Nat) {β : Type} (x10 : Value) (x12 : Value) (x2 : Value) (x0 : Value) (x1 : Value) (x8 : Value) (x11 : Value) (x9 : Value) (h : H) (K : Ex → T Value → H → Option β) :
    execK Try.prog C L 0 88 [6] c3arrrrrlrborlbrr [12, 2, 0, 1, 10, 8, 11, 9] [(1, [12, 2, 0, 1, 10, 8, 11, 9]), (0, [10, 8, 11, 9])] (fs [(10, x10), (12, x12), (2, x2), (0, x0), (1, x1), (8, x8), (11, x11), (9, x9)]) h K =
      p3arrrrrlrborlbrr C L x10 x12 x2 x0 x1 x8 x11 x9 h (fun x6 h => K .ret (fs [(6, x6)]) h) (fun x12 x2 x0 x1 x10 x8 x11 x9 h => K .normal (fs [(12, x12), (2, x2), (0, x0), (1, x1), (10, x10), (8, x8), (11, x11), (9, x9)]) h) := by
  rw [execK_seq (a := c3arrrrrlrborlbrrl) (b := c3arrrrrlrborlbrrr) (by kernel_rfl) (show live [6] c3arrrrrlrborlbrrr [12, 2, 0, 1, 10, 8, 11, 9] [(1, [12, 2, 0, 1, 10, 8, 11, 9]), (0, [10, 8, 11, 9])] = [12, 2, 0, 1, 10, 8, 11, 9] by kernel_rfl), ep3arrrrrlrborlbrrl]
  simp only [seqK, ep3arrrrrlrborlbrrr]
  rfl
noncomputable def p3arrrrrlrborlbr (C : CF) (L : Nat) {β : Type} (x10 : Value) (x12 : Value) (x2 : Value) (x0 : Value) (x1 : Value) (x8 : Value) (x11 : Value) (x9 : Value) (h : H) (kr : Value → H → Option β) (kn : Value → Value → Value → Value → Value → Value → Value → Value → H → Option β) : Option β :=
  p3arrrrrlrborlbrl C L x10 x12 x2 x0 x1 x8 x11 x9 h kr (fun x10 x12 x2 x0 x1 x8 x11 x9 h => p3arrrrrlrborlbrr C L x10 x12 x2 x0 x1 x8 x11 x9 h kr kn)
theorem ep3arrrrrlrborlbr (C : CF) (L : Nat) {β : Type} (x10 : Value) (x12 : Value) (x2 : Value) (x0 : Value) (x1 : Value) (x8 : Value) (x11 : Value) (x9 : Value) (h : H) (K : Ex → T Value → H → Option β) :
    execK Try.prog C L 0 88 [6] c3arrrrrlrborlbr [12, 2, 0, 1, 10, 8, 11, 9] [(1, [12, 2, 0, 1, 10, 8, 11, 9]), (0, [10, 8, 11, 9])] (fs [(10, x10), (12, x12), (2, x2), (0, x0), (1, x1), (8, x8), (11, x11), (9, x9)]) h K =
      p3arrrrrlrborlbr C L x10 x12 x2 x0 x1 x8 x11 x9 h (fun x6 h => K .ret (fs [(6, x6)]) h) (fun x12 x2 x0 x1 x10 x8 x11 x9 h => K .normal (fs [(12, x12), (2, x2), (0, x0), (1, x1), (10, x10), (8, x8), (11, x11), (9, x9)]) h) := by
  rw [execK_seq (a := c3arrrrrlrborlbrl) (b := c3arrrrrlrborlbrr) (by kernel_rfl) (show live [6] c3arrrrrlrborlbrr [12, 2, 0, 1, 10, 8, 11, 9] [(1, [12, 2, 0, 1, 10, 8, 11, 9]), (0, [10, 8, 11, 9])] = [10, 12, 2, 0, 1, 8, 11, 9] by kernel_rfl), ep3arrrrrlrborlbrl]
  simp only [seqK, ep3arrrrrlrborlbrr]
  rfl
noncomputable def p3arrrrrlrborlb (C : CF) (L : Nat) {β : Type} (x10 : Value) (x12 : Value) (x2 : Value) (x0 : Value) (x1 : Value) (x8 : Value) (x11 : Value) (x9 : Value) (h : H) (kr : Value → H → Option β) (kn : Value → Value → Value → Value → Value → Value → Value → Value → H → Option β) (kx1 : Value → Value → Value → Value → Value → Value → Value → Value → H → Option β) : Option β :=
  p3arrrrrlrborlbl C L x10 x12 x2 x0 x1 x8 x11 x9 h kx1 (fun x10 x12 x2 x0 x1 x8 x11 x9 h => p3arrrrrlrborlbr C L x10 x12 x2 x0 x1 x8 x11 x9 h kr kn)
theorem ep3arrrrrlrborlb (C : CF) (L : Nat) {β : Type} (x10 : Value) (x12 : Value) (x2 : Value) (x0 : Value) (x1 : Value) (x8 : Value) (x11 : Value) (x9 : Value) (h : H) (K : Ex → T Value → H → Option β) :
    execK Try.prog C L 0 88 [6] c3arrrrrlrborlb [12, 2, 0, 1, 10, 8, 11, 9] [(1, [12, 2, 0, 1, 10, 8, 11, 9]), (0, [10, 8, 11, 9])] (fs [(10, x10), (12, x12), (2, x2), (0, x0), (1, x1), (8, x8), (11, x11), (9, x9)]) h K =
      p3arrrrrlrborlb C L x10 x12 x2 x0 x1 x8 x11 x9 h (fun x6 h => K .ret (fs [(6, x6)]) h) (fun x12 x2 x0 x1 x10 x8 x11 x9 h => K .normal (fs [(12, x12), (2, x2), (0, x0), (1, x1), (10, x10), (8, x8), (11, x11), (9, x9)]) h) (fun x12 x2 x0 x1 x10 x8 x11 x9 h => K (.exit 1) (fs [(12, x12), (2, x2), (0, x0), (1, x1), (10, x10), (8, x8), (11, x11), (9, x9)]) h) := by
  rw [execK_seq (a := c3arrrrrlrborlbl) (b := c3arrrrrlrborlbr) (by kernel_rfl) (show live [6] c3arrrrrlrborlbr [12, 2, 0, 1, 10, 8, 11, 9] [(1, [12, 2, 0, 1, 10, 8, 11, 9]), (0, [10, 8, 11, 9])] = [10, 12, 2, 0, 1, 8, 11, 9] by kernel_rfl), ep3arrrrrlrborlbl]
  simp only [seqK, ep3arrrrrlrborlbr]
  rfl
noncomputable def p3arrrrrlrborl (C : CF) (L : Nat) {β : Type} (x10 : Value) (x12 : Value) (x2 : Value) (x0 : Value) (x1 : Value) (x8 : Value) (x11 : Value) (x9 : Value) (h : H) (kr : Value → H → Option β) (kn : Value → Value → Value → Value → Value → Value → Value → Value → H → Option β) : Option β :=
  p3arrrrrlrborlb C L x10 x12 x2 x0 x1 x8 x11 x9 h kr kn kn
theorem ep3arrrrrlrborl (C : CF) (L : Nat) {β : Type} (x10 : Value) (x12 : Value) (x2 : Value) (x0 : Value) (x1 : Value) (x8 : Value) (x11 : Value) (x9 : Value) (h : H) (K : Ex → T Value → H → Option β) :
    execK Try.prog C L 0 88 [6] c3arrrrrlrborl [12, 2, 0, 1, 10, 8, 11, 9] [(0, [10, 8, 11, 9])] (fs [(10, x10), (12, x12), (2, x2), (0, x0), (1, x1), (8, x8), (11, x11), (9, x9)]) h K =
      p3arrrrrlrborl C L x10 x12 x2 x0 x1 x8 x11 x9 h (fun x6 h => K .ret (fs [(6, x6)]) h) (fun x12 x2 x0 x1 x10 x8 x11 x9 h => K .normal (fs [(12, x12), (2, x2), (0, x0), (1, x1), (10, x10), (8, x8), (11, x11), (9, x9)]) h) := by
  rw [execK_block (b := c3arrrrrlrborlb) (id := 1) (by kernel_rfl), ep3arrrrrlrborlb]
  rfl
noncomputable def c3arrrrrlrborr : Code := cR c3arrrrrlrbor
noncomputable def p3arrrrrlrborr (C : CF) (L : Nat) {β : Type} (x12 : Value) (x2 : Value) (x0 : Value) (x1 : Value) (x10 : Value) (x8 : Value) (x11 : Value) (x9 : Value) (h : H) (kn : Value → Value → Value → Value → Value → Value → Value → Value → H → Option β) : Option β :=
  (A.bin Try.prog .add 3 x12 (.int .i64 1)).bind fun t32 =>
  kn t32 x2 x0 x1 x10 x8 x11 x9 h
theorem ep3arrrrrlrborr (C : CF) (L : Nat) {β : Type} (x12 : Value) (x2 : Value) (x0 : Value) (x1 : Value) (x10 : Value) (x8 : Value) (x11 : Value) (x9 : Value) (h : H) (K : Ex → T Value → H → Option β) :
    execK Try.prog C L 0 88 [6] c3arrrrrlrborr [12, 2, 0, 1, 10, 8, 11, 9] [(0, [10, 8, 11, 9])] (fs [(12, x12), (2, x2), (0, x0), (1, x1), (10, x10), (8, x8), (11, x11), (9, x9)]) h K =
      p3arrrrrlrborr C L x12 x2 x0 x1 x10 x8 x11 x9 h (fun x12 x2 x0 x1 x10 x8 x11 x9 h => K .normal (fs [(12, x12), (2, x2), (0, x0), (1, x1), (10, x10), (8, x8), (11, x11), (9, x9)]) h) := by
  kernel_rfl
noncomputable def p3arrrrrlrbor (C : CF) (L : Nat) {β : Type} (x10 : Value) (x12 : Value) (x2 : Value) (x0 : Value) (x1 : Value) (x8 : Value) (x11 : Value) (x9 : Value) (h : H) (kn : Value → Value → Value → Value → Value → Value → Value → Value → H → Option β) (kr : Value → H → Option β) : Option β :=
  p3arrrrrlrborl C L x10 x12 x2 x0 x1 x8 x11 x9 h kr (fun x12 x2 x0 x1 x10 x8 x11 x9 h => p3arrrrrlrborr C L x12 x2 x0 x1 x10 x8 x11 x9 h kn)
theorem ep3arrrrrlrbor (C : CF) (L : Nat) {β : Type} (x10 : Value) (x12 : Value) (x2 : Value) (x0 : Value) (x1 : Value) (x8 : Value) (x11 : Value) (x9 : Value) (h : H) (K : Ex → T Value → H → Option β) :
    execK Try.prog C L 0 88 [6] c3arrrrrlrbor [12, 2, 0, 1, 10, 8, 11, 9] [(0, [10, 8, 11, 9])] (fs [(10, x10), (12, x12), (2, x2), (0, x0), (1, x1), (8, x8), (11, x11), (9, x9)]) h K =
      p3arrrrrlrbor C L x10 x12 x2 x0 x1 x8 x11 x9 h (fun x12 x2 x0 x1 x10 x8 x11 x9 h => K .normal (fs [(12, x12), (2, x2), (0, x0), (1, x1), (10, x10), (8, x8), (11, x11), (9, x9)]) h) (fun x6 h => K .ret (fs [(6, x6)]) h) := by
  rw [execK_seq (a := c3arrrrrlrborl) (b := c3arrrrrlrborr) (by kernel_rfl) (show live [6] c3arrrrrlrborr [12, 2, 0, 1, 10, 8, 11, 9] [(0, [10, 8, 11, 9])] = [12, 2, 0, 1, 10, 8, 11, 9] by kernel_rfl), ep3arrrrrlrborl]
  simp only [seqK, ep3arrrrrlrborr]
  rfl
noncomputable def p3arrrrrlrbo (C : CF) (L : Nat) {β : Type} (x12 : Value) (x2 : Value) (x0 : Value) (x1 : Value) (x10 : Value) (x8 : Value) (x11 : Value) (x9 : Value) (h : H) (kn : Value → Value → Value → Value → Value → Value → Value → Value → H → Option β) (kr : Value → H → Option β) (kx0 : Value → Value → Value → Value → H → Option β) : Option β :=
  p3arrrrrlrbol C L x12 x2 x0 x1 x10 x8 x11 x9 h (fun x10 x12 x2 x0 x1 x8 x11 x9 h => p3arrrrrlrbor C L x10 x12 x2 x0 x1 x8 x11 x9 h kn kr) kx0
theorem ep3arrrrrlrbo (C : CF) (L : Nat) {β : Type} (x12 : Value) (x2 : Value) (x0 : Value) (x1 : Value) (x10 : Value) (x8 : Value) (x11 : Value) (x9 : Value) (h : H) (K : Ex → T Value → H → Option β) :
    execK Try.prog C L 0 88 [6] c3arrrrrlrbo [12, 2, 0, 1, 10, 8, 11, 9] [(0, [10, 8, 11, 9])] (fs [(12, x12), (2, x2), (0, x0), (1, x1), (10, x10), (8, x8), (11, x11), (9, x9)]) h K =
      p3arrrrrlrbo C L x12 x2 x0 x1 x10 x8 x11 x9 h (fun x12 x2 x0 x1 x10 x8 x11 x9 h => K .normal (fs [(12, x12), (2, x2), (0, x0), (1, x1), (10, x10), (8, x8), (11, x11), (9, x9)]) h) (fun x6 h => K .ret (fs [(6, x6)]) h) (fun x10 x8 x11 x9 h => K (.exit 0) (fs [(10, x10), (8, x8), (11, x11), (9, x9)]) h) := by
  rw [execK_seq (a := c3arrrrrlrbol) (b := c3arrrrrlrbor) (by kernel_rfl) (show live [6] c3arrrrrlrbor [12, 2, 0, 1, 10, 8, 11, 9] [(0, [10, 8, 11, 9])] = [10, 12, 2, 0, 1, 8, 11, 9] by kernel_rfl), ep3arrrrrlrbol]
  simp only [seqK, ep3arrrrrlrbor]
  rfl
noncomputable def p3arrrrrlrbw (C : CF) (L : Nat) {β : Type} (kr : Value → H → Option β) (kx0 : Value → Value → Value → Value → H → Option β) : Nat → Value → Value → Value → Value → Value → Value → Value → Value → H → Option β
  | 0, _, _, _, _, _, _, _, _, _ => none
  | n + 1, x12, x2, x0, x1, x10, x8, x11, x9, h => p3arrrrrlrbo C L x12 x2 x0 x1 x10 x8 x11 x9 h (fun x12 x2 x0 x1 x10 x8 x11 x9 h => p3arrrrrlrbw C L kr kx0 n x12 x2 x0 x1 x10 x8 x11 x9 h) kr kx0
theorem ep3arrrrrlrbw (C : CF) (L : Nat) {β : Type} (K : Ex → T Value → H → Option β) : ∀ (n : Nat) (x12 : Value) (x2 : Value) (x0 : Value) (x1 : Value) (x10 : Value) (x8 : Value) (x11 : Value) (x9 : Value) (h : H),
    loopK (fun fr h K => execK Try.prog C L 0 88 [6] c3arrrrrlrbo [12, 2, 0, 1, 10, 8, 11, 9] [(0, [10, 8, 11, 9])] fr h K) n (fs [(12, x12), (2, x2), (0, x0), (1, x1), (10, x10), (8, x8), (11, x11), (9, x9)]) h K =
      p3arrrrrlrbw C L (fun x6 h => K .ret (fs [(6, x6)]) h) (fun x10 x8 x11 x9 h => K (.exit 0) (fs [(10, x10), (8, x8), (11, x11), (9, x9)]) h) n x12 x2 x0 x1 x10 x8 x11 x9 h := by
  intro n
  induction n with
  | zero => intros; rfl
  | succ n ih =>
    intros
    simp only [loopK]
    rw [ep3arrrrrlrbo]
    simp only [seqK, ih]
    rfl
noncomputable def p3arrrrrlrb (C : CF) (L : Nat) {β : Type} (x12 : Value) (x2 : Value) (x0 : Value) (x1 : Value) (x10 : Value) (x8 : Value) (x11 : Value) (x9 : Value) (h : H) (kr : Value → H → Option β) (kx0 : Value → Value → Value → Value → H → Option β) : Option β :=
  p3arrrrrlrbw C L kr kx0 L x12 x2 x0 x1 x10 x8 x11 x9 h
theorem ep3arrrrrlrb (C : CF) (L : Nat) {β : Type} (x12 : Value) (x2 : Value) (x0 : Value) (x1 : Value) (x10 : Value) (x8 : Value) (x11 : Value) (x9 : Value) (h : H) (K : Ex → T Value → H → Option β) :
    execK Try.prog C L 0 88 [6] c3arrrrrlrb [10, 8, 11, 9] [(0, [10, 8, 11, 9])] (fs [(12, x12), (2, x2), (0, x0), (1, x1), (10, x10), (8, x8), (11, x11), (9, x9)]) h K =
      p3arrrrrlrb C L x12 x2 x0 x1 x10 x8 x11 x9 h (fun x6 h => K .ret (fs [(6, x6)]) h) (fun x10 x8 x11 x9 h => K (.exit 0) (fs [(10, x10), (8, x8), (11, x11), (9, x9)]) h) := by
  rw [execK_loop (b := c3arrrrrlrbo) (fr1 := (fs [(12, x12), (2, x2), (0, x0), (1, x1), (10, x10), (8, x8), (11, x11), (9, x9)])) (by kernel_rfl) (show live [6] c3arrrrrlrbo [] [(0, [10, 8, 11, 9])] = [12, 2, 0, 1, 10, 8, 11, 9] by kernel_rfl) (by kernel_rfl), ep3arrrrrlrbw]
  rfl
noncomputable def p3arrrrrlr (C : CF) (L : Nat) {β : Type} (x12 : Value) (x2 : Value) (x0 : Value) (x1 : Value) (x10 : Value) (x8 : Value) (x11 : Value) (x9 : Value) (h : H) (kr : Value → H → Option β) (kn : Value → Value → Value → Value → H → Option β) : Option β :=
  p3arrrrrlrb C L x12 x2 x0 x1 x10 x8 x11 x9 h kr kn
theorem ep3arrrrrlr (C : CF) (L : Nat) {β : Type} (x12 : Value) (x2 : Value) (x0 : Value) (x1 : Value) (x10 : Value) (x8 : Value) (x11 : Value) (x9 : Value) (h : H) (K : Ex → T Value → H → Option β) :
    execK Try.prog C L 0 88 [6] c3arrrrrlr [10, 8, 11, 9] [] (fs [(12, x12), (2, x2), (0, x0), (1, x1), (10, x10), (8, x8), (11, x11), (9, x9)]) h K =
      p3arrrrrlr C L x12 x2 x0 x1 x10 x8 x11 x9 h (fun x6 h => K .ret (fs [(6, x6)]) h) (fun x10 x8 x11 x9 h => K .normal (fs [(10, x10), (8, x8), (11, x11), (9, x9)]) h) := by
  rw [execK_block (b := c3arrrrrlrb) (id := 0) (by kernel_rfl), ep3arrrrrlrb]
  rfl
noncomputable def p3arrrrrl (C : CF) (L : Nat) {β : Type} (x2 : Value) (x0 : Value) (x1 : Value) (x10 : Value) (x8 : Value) (x11 : Value) (x9 : Value) (h : H) (kr : Value → H → Option β) (kn : Value → Value → Value → Value → H → Option β) : Option β :=
  p3arrrrrll C L x2 x0 x1 x10 x8 x11 x9 h (fun x12 x2 x0 x1 x10 x8 x11 x9 h => p3arrrrrlr C L x12 x2 x0 x1 x10 x8 x11 x9 h kr kn)
theorem ep3arrrrrl (C : CF) (L : Nat) {β : Type} (x2 : Value) (x0 : Value) (x1 : Value) (x10 : Value) (x8 : Value) (x11 : Value) (x9 : Value) (h : H) (K : Ex → T Value → H → Option β) :
    execK Try.prog C L 0 88 [6] c3arrrrrl [10, 8, 11, 9] [] (fs [(2, x2), (0, x0), (1, x1), (10, x10), (8, x8), (11, x11), (9, x9)]) h K =
      p3arrrrrl C L x2 x0 x1 x10 x8 x11 x9 h (fun x6 h => K .ret (fs [(6, x6)]) h) (fun x10 x8 x11 x9 h => K .normal (fs [(10, x10), (8, x8), (11, x11), (9, x9)]) h) := by
  rw [execK_seq (a := c3arrrrrll) (b := c3arrrrrlr) (by kernel_rfl) (show live [6] c3arrrrrlr [10, 8, 11, 9] [] = [12, 2, 0, 1, 10, 8, 11, 9] by kernel_rfl), ep3arrrrrll]
  simp only [seqK, ep3arrrrrlr]
  rfl
noncomputable def c3arrrrrr : Code := cR c3arrrrr
noncomputable def p3arrrrrr (C : CF) (L : Nat) {β : Type} (x10 : Value) (x8 : Value) (x11 : Value) (x9 : Value) (h : H) (kr : Value → H → Option β) : Option β :=
  (A.lenS x8).bind fun t77 =>
  (A.bin Try.prog .eql 3 x10 t77).bind fun t78 =>
  toBK t78 fun b =>
  (bif b then
  (A.lenS x9).bind fun t82 =>
  (A.bin Try.prog .eql 3 x11 t82).bind fun t83 =>
  toBK t83 fun bq1 =>
  (bif bq1 then
  (C 10 [] h).bind fun (t86, hq1) =>
  toBK t86 fun bq2 =>
  kr (.bool bq2) hq1
  else
  kr (.bool false) h)
  else
  kr (.bool false) h)
theorem ep3arrrrrr (C : CF) (L : Nat) {β : Type} (x10 : Value) (x8 : Value) (x11 : Value) (x9 : Value) (h : H) (K : Ex → T Value → H → Option β) :
    execK Try.prog C L 0 88 [6] c3arrrrrr [6] [] (fs [(10, x10), (8, x8), (11, x11), (9, x9)]) h K =
      p3arrrrrr C L x10 x8 x11 x9 h (fun x6 h => K .ret (fs [(6, x6)]) h) := by
  kernel_rfl
noncomputable def p3arrrrr (C : CF) (L : Nat) {β : Type} (x2 : Value) (x0 : Value) (x1 : Value) (x10 : Value) (x8 : Value) (x11 : Value) (x9 : Value) (h : H) (kr : Value → H → Option β) : Option β :=
  p3arrrrrl C L x2 x0 x1 x10 x8 x11 x9 h kr (fun x10 x8 x11 x9 h => p3arrrrrr C L x10 x8 x11 x9 h kr)
theorem ep3arrrrr (C : CF) (L : Nat) {β : Type} (x2 : Value) (x0 : Value) (x1 : Value) (x10 : Value) (x8 : Value) (x11 : Value) (x9 : Value) (h : H) (K : Ex → T Value → H → Option β) :
    execK Try.prog C L 0 88 [6] c3arrrrr [6] [] (fs [(2, x2), (0, x0), (1, x1), (10, x10), (8, x8), (11, x11), (9, x9)]) h K =
      p3arrrrr C L x2 x0 x1 x10 x8 x11 x9 h (fun x6 h => K .ret (fs [(6, x6)]) h) := by
  rw [execK_seq (a := c3arrrrrl) (b := c3arrrrrr) (by kernel_rfl) (show live [6] c3arrrrrr [6] [] = [10, 8, 11, 9] by kernel_rfl), ep3arrrrrl]
  simp only [seqK, ep3arrrrrr]
  rfl
noncomputable def p3arrrr (C : CF) (L : Nat) {β : Type} (x2 : Value) (x0 : Value) (x1 : Value) (x8 : Value) (x9 : Value) (h : H) (kr : Value → H → Option β) : Option β :=
  p3arrrrl C L x2 x0 x1 x8 x9 h (fun x2 x0 x1 x10 x8 x11 x9 h => p3arrrrr C L x2 x0 x1 x10 x8 x11 x9 h kr)
theorem ep3arrrr (C : CF) (L : Nat) {β : Type} (x2 : Value) (x0 : Value) (x1 : Value) (x8 : Value) (x9 : Value) (h : H) (K : Ex → T Value → H → Option β) :
    execK Try.prog C L 0 88 [6] c3arrrr [6] [] (fs [(2, x2), (0, x0), (1, x1), (8, x8), (9, x9)]) h K =
      p3arrrr C L x2 x0 x1 x8 x9 h (fun x6 h => K .ret (fs [(6, x6)]) h) := by
  rw [execK_seq (a := c3arrrrl) (b := c3arrrrr) (by kernel_rfl) (show live [6] c3arrrrr [6] [] = [2, 0, 1, 10, 8, 11, 9] by kernel_rfl), ep3arrrrl]
  simp only [seqK, ep3arrrrr]
  rfl
noncomputable def p3arrr (C : CF) (L : Nat) {β : Type} (x7 : Value) (x2 : Value) (x0 : Value) (x1 : Value) (h : H) (kr : Value → H → Option β) : Option β :=
  p3arrrl C L x7 x2 x0 x1 h (fun x2 x0 x1 x8 x9 h => p3arrrr C L x2 x0 x1 x8 x9 h kr)
theorem ep3arrr (C : CF) (L : Nat) {β : Type} (x7 : Value) (x2 : Value) (x0 : Value) (x1 : Value) (h : H) (K : Ex → T Value → H → Option β) :
    execK Try.prog C L 0 88 [6] c3arrr [6] [] (fs [(7, x7), (2, x2), (0, x0), (1, x1)]) h K =
      p3arrr C L x7 x2 x0 x1 h (fun x6 h => K .ret (fs [(6, x6)]) h) := by
  rw [execK_seq (a := c3arrrl) (b := c3arrrr) (by kernel_rfl) (show live [6] c3arrrr [6] [] = [2, 0, 1, 8, 9] by kernel_rfl), ep3arrrl]
  simp only [seqK, ep3arrrr]
  rfl
noncomputable def p3arr (C : CF) (L : Nat) {β : Type} (x2 : Value) (x0 : Value) (x1 : Value) (h : H) (kr : Value → H → Option β) : Option β :=
  p3arrl C L x2 x0 x1 h (fun x7 x2 x0 x1 h => p3arrr C L x7 x2 x0 x1 h kr)
theorem ep3arr (C : CF) (L : Nat) {β : Type} (x2 : Value) (x0 : Value) (x1 : Value) (h : H) (K : Ex → T Value → H → Option β) :
    execK Try.prog C L 0 88 [6] c3arr [6] [] (fs [(2, x2), (0, x0), (1, x1)]) h K =
      p3arr C L x2 x0 x1 h (fun x6 h => K .ret (fs [(6, x6)]) h) := by
  rw [execK_seq (a := c3arrl) (b := c3arrr) (by kernel_rfl) (show live [6] c3arrr [6] [] = [7, 2, 0, 1] by kernel_rfl), ep3arrl]
  simp only [seqK, ep3arrr]
  rfl
noncomputable def p3ar (C : CF) (L : Nat) {β : Type} (x2 : Value) (x0 : Value) (x1 : Value) (h : H) (kr : Value → H → Option β) : Option β :=
  p3arl C L x2 x0 x1 h kr (fun x2 x0 x1 h => p3arr C L x2 x0 x1 h kr)
theorem ep3ar (C : CF) (L : Nat) {β : Type} (x2 : Value) (x0 : Value) (x1 : Value) (h : H) (K : Ex → T Value → H → Option β) :
    execK Try.prog C L 0 88 [6] c3ar [6] [] (fs [(2, x2), (0, x0), (1, x1)]) h K =
      p3ar C L x2 x0 x1 h (fun x6 h => K .ret (fs [(6, x6)]) h) := by
  rw [execK_seq (a := c3arl) (b := c3arr) (by kernel_rfl) (show live [6] c3arr [6] [] = [2, 0, 1] by kernel_rfl), ep3arl]
  simp only [seqK, ep3arr]
  rfl
noncomputable def p3a (C : CF) (L : Nat) {β : Type} (x0 : Value) (x1 : Value) (x2 : Value) (h : H) (kr : Value → H → Option β) : Option β :=
  p3al C L x0 x1 x2 h (fun x2 x0 x1 h => p3ar C L x2 x0 x1 h kr)
theorem ep3a (C : CF) (L : Nat) {β : Type} (x0 : Value) (x1 : Value) (x2 : Value) (h : H) (K : Ex → T Value → H → Option β) :
    execK Try.prog C L 0 88 [6] c3a [6] [] (fs [(0, x0), (1, x1), (2, x2)]) h K =
      p3a C L x0 x1 x2 h (fun x6 h => K .ret (fs [(6, x6)]) h) := by
  rw [execK_seq (a := c3al) (b := c3ar) (by kernel_rfl) (show live [6] c3ar [6] [] = [2, 0, 1] by kernel_rfl), ep3al]
  simp only [seqK, ep3ar]
  rfl
noncomputable def F3 (C : CF) (L : Nat) (x0 : Value) (x1 : Value) (x2 : Value) (h : H) : Option (Value × H) :=
  p3a C L x0 x1 x2 h
    (fun x6 h => some (x6, h))
theorem F3eq (O : List FuncId) (hO : O.any (Nat.beq 3) = false) (n : Nat) (x0 : Value) (x1 : Value) (x2 : Value) (h : H) : callB Try.prog 0 O (n + 1) 3 [x0, x1, x2] h = F3 (callB Try.prog 0 O n) n x0 x1 x2 h := by
  rw [callB_eq hO (c := c3a) (nt := 88) (RR := [6]) (fr := (fs [(0, x0), (1, x1), (2, x2)])) Try.func3 (by kernel_rfl) (by kernel_rfl) (by kernel_rfl) (by kernel_rfl) (by kernel_rfl), ep3a]
  kernel_rfl

/-! F9: relayhouse/relayhouselaw17.Great -/
noncomputable def c9a : Code := (Try.f9.body).getD .skip
noncomputable def c9al : Code := cL c9a
noncomputable def p9al (C : CF) (L : Nat) {β : Type} (x0 : Value) (h : H) (kn : Value → H → Option β) : Option β :=
  kn x0 h
theorem ep9al (C : CF) (L : Nat) {β : Type} (x0 : Value) (h : H) (K : Ex → T Value → H → Option β) :
    execK Try.prog C L 0 94 [2] c9al [0] [] (fs [(0, x0)]) h K =
      p9al C L x0 h (fun x0 h => K .normal (fs [(0, x0)]) h) := by
  kernel_rfl
noncomputable def c9ar : Code := cR c9a
noncomputable def c9arl : Code := cL c9ar
noncomputable def c9arll : Code := cL c9arl
noncomputable def p9arll (C : CF) (L : Nat) {β : Type} (x0 : Value) (h : H) (kn : Value → Value → H → Option β) : Option β :=
  kn (.int .i64 0) x0 h
theorem ep9arll (C : CF) (L : Nat) {β : Type} (x0 : Value) (h : H) (K : Ex → T Value → H → Option β) :
    execK Try.prog C L 0 94 [2] c9arll [3, 0] [] (fs [(0, x0)]) h K =
      p9arll C L x0 h (fun x3 x0 h => K .normal (fs [(3, x3), (0, x0)]) h) := by
  kernel_rfl
noncomputable def c9arlr : Code := cR c9arl
noncomputable def c9arlrb : Code := cL c9arlr
noncomputable def c9arlrbo : Code := cL c9arlrb
noncomputable def c9arlrbol : Code := cL c9arlrbo
noncomputable def p9arlrbol (C : CF) (L : Nat) {β : Type} (x3 : Value) (x0 : Value) (h : H) (kn : Value → Value → H → Option β) (kx0 : Value → H → Option β) : Option β :=
  (A.lenS x0).bind fun t10 =>
  (A.bin Try.prog .lss 3 x3 t10).bind fun t11 =>
  toBK t11 fun b =>
  (bif b then
  kn x3 x0 h
  else
  kx0 x0 h)
theorem ep9arlrbol (C : CF) (L : Nat) {β : Type} (x3 : Value) (x0 : Value) (h : H) (K : Ex → T Value → H → Option β) :
    execK Try.prog C L 0 94 [2] c9arlrbol [3, 0] [(0, [0])] (fs [(3, x3), (0, x0)]) h K =
      p9arlrbol C L x3 x0 h (fun x3 x0 h => K .normal (fs [(3, x3), (0, x0)]) h) (fun x0 h => K (.exit 0) (fs [(0, x0)]) h) := by
  kernel_rfl
noncomputable def c9arlrbor : Code := cR c9arlrbo
noncomputable def c9arlrborl : Code := cL c9arlrbor
noncomputable def c9arlrborlb : Code := cL c9arlrborl
noncomputable def c9arlrborlbl : Code := cL c9arlrborlb
noncomputable def p9arlrborlbl (C : CF) (L : Nat) {β : Type} (x3 : Value) (x0 : Value) (h : H) (kn : Value → Value → Value → H → Option β) : Option β :=
  (A.idxS 35 x0 x3).bind fun t16 =>
  (A.fieldAddr 4 t16).bind fun t17 =>
  (A.load true 24 t17 h).bind fun t18 =>
  (A.box 24 Z34 h).bind fun (t4, hq1) =>
  (A.store 24 t4 t18 hq1).bind fun hq2 =>
  kn t4 x3 x0 hq2
theorem ep9arlrborlbl (C : CF) (L : Nat) {β : Type} (x3 : Value) (x0 : Value) (h : H) (K : Ex → T Value → H → Option β) :
    execK Try.prog C L 0 94 [2] c9arlrborlbl [4, 3, 0] [(1, [3, 0]), (0, [0])] (fs [(3, x3), (0, x0)]) h K =
      p9arlrborlbl C L x3 x0 h (fun x4 x3 x0 h => K .normal (fs [(4, x4), (3, x3), (0, x0)]) h) := by
  kernel_rfl
noncomputable def c9arlrborlbr : Code := cR c9arlrborlb
noncomputable def c9arlrborlbrl : Code := cL c9arlrborlbr
noncomputable def p9arlrborlbrl (C : CF) (L : Nat) {β : Type} (x4 : Value) (x3 : Value) (x0 : Value) (h : H) (kn : Value → Value → Value → Value → H → Option β) : Option β :=
  (A.idxS 35 x0 x3).bind fun t21 =>
  (A.fieldAddr 3 t21).bind fun t22 =>
  (A.load false 1 t22 h).bind fun t23 =>
  (A.idxS 35 x0 x3).bind fun t26 =>
  (A.fieldAddr 32 t26).bind fun t27 =>
  (A.load false 1 t27 h).bind fun t28 =>
  (A.idxS 35 x0 x3).bind fun t31 =>
  (A.fieldAddr 28 t31).bind fun t32 =>
  (A.fieldAddr 0 t32).bind fun t33 =>
  (A.load false 1 t33 h).bind fun t34 =>
  (A.idxS 35 x0 x3).bind fun t37 =>
  (A.fieldAddr 28 t37).bind fun t38 =>
  (A.fieldAddr 1 t38).bind fun t39 =>
  (A.load false 1 t39 h).bind fun t40 =>
  (A.fieldAddr 5 x4).bind fun t41 =>
  (A.load false 1 t41 h).bind fun t42 =>
  (A.fieldAddr 6 x4).bind fun t43 =>
  (A.load false 1 t43 h).bind fun t44 =>
  (A.fieldAddr 10 x4).bind fun t45 =>
  (A.load false 1 t45 h).bind fun t46 =>
  (A.fieldAddr 12 x4).bind fun t47 =>
  (A.fieldAddr 0 t47).bind fun t48 =>
  (A.load false 1 t48 h).bind fun t49 =>
  (A.fieldAddr 12 x4).bind fun t50 =>
  (A.fieldAddr 1 t50).bind fun t51 =>
  (A.load false 1 t51 h).bind fun t52 =>
  (A.fieldAddr 18 x4).bind fun t53 =>
  (A.load false 1 t53 h).bind fun t54 =>
  (A.fieldAddr 19 x4).bind fun t55 =>
  (A.load false 1 t55 h).bind fun t56 =>
  (A.fieldAddr 23 x4).bind fun t57 =>
  (A.load false 1 t57 h).bind fun t58 =>
  (A.buildSlice 1 12 Z9L [(0, 1, t23), (1, 1, t28), (2, 1, t34), (3, 1, t40), (4, 1, t42), (5, 1, t44), (6, 1, t46), (7, 1, t49), (8, 1, t52), (9, 1, t54), (10, 1, t56), (11, 1, t58)] h).bind fun (t59, hq1) =>
  kn t59 x4 x3 x0 hq1
theorem ep9arlrborlbrl (C : CF) (L : Nat) {β : Type} (x4 : Value) (x3 : Value) (x0 : Value) (h : H) (K : Ex → T Value → H → Option β) :
    execK Try.prog C L 0 94 [2] c9arlrborlbrl [5, 4, 3, 0] [(1, [3, 0]), (0, [0])] (fs [(4, x4), (3, x3), (0, x0)]) h K =
      p9arlrborlbrl C L x4 x3 x0 h (fun x5 x4 x3 x0 h => K .normal (fs [(5, x5), (4, x4), (3, x3), (0, x0)]) h) := by
  kernel_rfl
noncomputable def c9arlrborlbrr : Code := cR c9arlrborlbr
noncomputable def c9arlrborlbrrl : Code := cL c9arlrborlbrr
noncomputable def c9arlrborlbrrll : Code := cL c9arlrborlbrrl
noncomputable def p9arlrborlbrrll (C : CF) (L : Nat) {β : Type} (x5 : Value) (x4 : Value) (x3 : Value) (x0 : Value) (h : H) (kn : Value → Value → Value → Value → Value → H → Option β) : Option β :=
  kn (.int .i64 0) x5 x4 x3 x0 h
theorem ep9arlrborlbrrll (C : CF) (L : Nat) {β : Type} (x5 : Value) (x4 : Value) (x3 : Value) (x0 : Value) (h : H) (K : Ex → T Value → H → Option β) :
    execK Try.prog C L 0 94 [2] c9arlrborlbrrll [6, 5, 4, 3, 0] [(1, [3, 0]), (0, [0])] (fs [(5, x5), (4, x4), (3, x3), (0, x0)]) h K =
      p9arlrborlbrrll C L x5 x4 x3 x0 h (fun x6 x5 x4 x3 x0 h => K .normal (fs [(6, x6), (5, x5), (4, x4), (3, x3), (0, x0)]) h) := by
  kernel_rfl
noncomputable def c9arlrborlbrrlr : Code := cR c9arlrborlbrrl
noncomputable def c9arlrborlbrrlrb : Code := cL c9arlrborlbrrlr
noncomputable def c9arlrborlbrrlrbo : Code := cL c9arlrborlbrrlrb
noncomputable def p9arlrborlbrrlrbo (C : CF) (L : Nat) {β : Type} (x6 : Value) (x5 : Value) (x4 : Value) (x3 : Value) (x0 : Value) (h : H) (kr : Value → H → Option β) (kn : Value → Value → Value → Value → Value → H → Option β) (kx2 : Value → Value → Value → H → Option β) : Option β :=
  (A.lenS x5).bind fun t62 =>
  (A.bin Try.prog .lss 3 x6 t62).bind fun t63 =>
  toBK t63 fun b =>
  (bif b then
  (A.idxS 1 x5 x6).bind fun t68 =>
  (A.load false 1 t68 h).bind fun t69 =>
  (A.lenStr t69).bind fun t70 =>
  (A.bin Try.prog .gtr 3 t70 (.int .i64 300)).bind fun t71 =>
  toBK t71 fun bq1 =>
  (bif bq1 then
  kr (.bool true) h
  else
  (A.bin Try.prog .add 3 x6 (.int .i64 1)).bind fun t65 =>
  kn t65 x5 x4 x3 x0 h)
  else
  kx2 x4 x3 x0 h)
theorem ep9arlrborlbrrlrbo (C : CF) (L : Nat) {β : Type} (x6 : Value) (x5 : Value) (x4 : Value) (x3 : Value) (x0 : Value) (h : H) (K : Ex → T Value → H → Option β) :
    execK Try.prog C L 0 94 [2] c9arlrborlbrrlrbo [6, 5, 4, 3, 0] [(2, [4, 3, 0]), (1, [3, 0]), (0, [0])] (fs [(6, x6), (5, x5), (4, x4), (3, x3), (0, x0)]) h K =
      p9arlrborlbrrlrbo C L x6 x5 x4 x3 x0 h (fun x2 h => K .ret (fs [(2, x2)]) h) (fun x6 x5 x4 x3 x0 h => K .normal (fs [(6, x6), (5, x5), (4, x4), (3, x3), (0, x0)]) h) (fun x4 x3 x0 h => K (.exit 2) (fs [(4, x4), (3, x3), (0, x0)]) h) := by
  kernel_rfl
noncomputable def p9arlrborlbrrlrbw (C : CF) (L : Nat) {β : Type} (kr : Value → H → Option β) (kx2 : Value → Value → Value → H → Option β) : Nat → Value → Value → Value → Value → Value → H → Option β
  | 0, _, _, _, _, _, _ => none
  | n + 1, x6, x5, x4, x3, x0, h => p9arlrborlbrrlrbo C L x6 x5 x4 x3 x0 h kr (fun x6 x5 x4 x3 x0 h => p9arlrborlbrrlrbw C L kr kx2 n x6 x5 x4 x3 x0 h) kx2
theorem ep9arlrborlbrrlrbw (C : CF) (L : Nat) {β : Type} (K : Ex → T Value → H → Option β) : ∀ (n : Nat) (x6 : Value) (x5 : Value) (x4 : Value) (x3 : Value) (x0 : Value) (h : H),
    loopK (fun fr h K => execK Try.prog C L 0 94 [2] c9arlrborlbrrlrbo [6, 5, 4, 3, 0] [(2, [4, 3, 0]), (1, [3, 0]), (0, [0])] fr h K) n (fs [(6, x6), (5, x5), (4, x4), (3, x3), (0, x0)]) h K =
      p9arlrborlbrrlrbw C L (fun x2 h => K .ret (fs [(2, x2)]) h) (fun x4 x3 x0 h => K (.exit 2) (fs [(4, x4), (3, x3), (0, x0)]) h) n x6 x5 x4 x3 x0 h := by
  intro n
  induction n with
  | zero => intros; rfl
  | succ n ih =>
    intros
    simp only [loopK]
    rw [ep9arlrborlbrrlrbo]
    simp only [seqK, ih]
    rfl
noncomputable def p9arlrborlbrrlrb (C : CF) (L : Nat) {β : Type} (x6 : Value) (x5 : Value) (x4 : Value) (x3 : Value) (x0 : Value) (h : H) (kr : Value → H → Option β) (kx2 : Value → Value → Value → H → Option β) : Option β :=
  p9arlrborlbrrlrbw C L kr kx2 L x6 x5 x4 x3 x0 h
theorem ep9arlrborlbrrlrb (C : CF) (L : Nat) {β : Type} (x6 : Value) (x5 : Value) (x4 : Value) (x3 : Value) (x0 : Value) (h : H) (K : Ex → T Value → H → Option β) :
    execK Try.prog C L 0 94 [2] c9arlrborlbrrlrb [4, 3, 0] [(2, [4, 3, 0]), (1, [3, 0]), (0, [0])] (fs [(6, x6), (5, x5), (4, x4), (3, x3), (0, x0)]) h K =
      p9arlrborlbrrlrb C L x6 x5 x4 x3 x0 h (fun x2 h => K .ret (fs [(2, x2)]) h) (fun x4 x3 x0 h => K (.exit 2) (fs [(4, x4), (3, x3), (0, x0)]) h) := by
  rw [execK_loop (b := c9arlrborlbrrlrbo) (fr1 := (fs [(6, x6), (5, x5), (4, x4), (3, x3), (0, x0)])) (by kernel_rfl) (show live [2] c9arlrborlbrrlrbo [] [(2, [4, 3, 0]), (1, [3, 0]), (0, [0])] = [6, 5, 4, 3, 0] by kernel_rfl) (by kernel_rfl), ep9arlrborlbrrlrbw]
  rfl
noncomputable def p9arlrborlbrrlr (C : CF) (L : Nat) {β : Type} (x6 : Value) (x5 : Value) (x4 : Value) (x3 : Value) (x0 : Value) (h : H) (kr : Value → H → Option β) (kn : Value → Value → Value → H → Option β) : Option β :=
  p9arlrborlbrrlrb C L x6 x5 x4 x3 x0 h kr kn
theorem ep9arlrborlbrrlr (C : CF) (L : Nat) {β : Type} (x6 : Value) (x5 : Value) (x4 : Value) (x3 : Value) (x0 : Value) (h : H) (K : Ex → T Value → H → Option β) :
    execK Try.prog C L 0 94 [2] c9arlrborlbrrlr [4, 3, 0] [(1, [3, 0]), (0, [0])] (fs [(6, x6), (5, x5), (4, x4), (3, x3), (0, x0)]) h K =
      p9arlrborlbrrlr C L x6 x5 x4 x3 x0 h (fun x2 h => K .ret (fs [(2, x2)]) h) (fun x4 x3 x0 h => K .normal (fs [(4, x4), (3, x3), (0, x0)]) h) := by
  rw [execK_block (b := c9arlrborlbrrlrb) (id := 2) (by kernel_rfl), ep9arlrborlbrrlrb]
  rfl
noncomputable def p9arlrborlbrrl (C : CF) (L : Nat) {β : Type} (x5 : Value) (x4 : Value) (x3 : Value) (x0 : Value) (h : H) (kr : Value → H → Option β) (kn : Value → Value → Value → H → Option β) : Option β :=
  p9arlrborlbrrll C L x5 x4 x3 x0 h (fun x6 x5 x4 x3 x0 h => p9arlrborlbrrlr C L x6 x5 x4 x3 x0 h kr kn)
theorem ep9arlrborlbrrl (C : CF) (L : Nat) {β : Type} (x5 : Value) (x4 : Value) (x3 : Value) (x0 : Value) (h : H) (K : Ex → T Value → H → Option β) :
    execK Try.prog C L 0 94 [2] c9arlrborlbrrl [4, 3, 0] [(1, [3, 0]), (0, [0])] (fs [(5, x5), (4, x4), (3, x3), (0, x0)]) h K =
      p9arlrborlbrrl C L x5 x4 x3 x0 h (fun x2 h => K .ret (fs [(2, x2)]) h) (fun x4 x3 x0 h => K .normal (fs [(4, x4), (3, x3), (0, x0)]) h) := by
  rw [execK_seq (a := c9arlrborlbrrll) (b := c9arlrborlbrrlr) (by kernel_rfl) (show live [2] c9arlrborlbrrlr [4, 3, 0] [(1, [3, 0]), (0, [0])] = [6, 5, 4, 3, 0] by kernel_rfl), ep9arlrborlbrrll]
  simp only [seqK, ep9arlrborlbrrlr]
  rfl
noncomputable def c9arlrborlbrrr : Code := cR c9arlrborlbrr
noncomputable def c9arlrborlbrrrl : Code := cL c9arlrborlbrrr
noncomputable def p9arlrborlbrrrl (C : CF) (L : Nat) {β : Type} (x4 : Value) (x3 : Value) (x0 : Value) (h : H) (kn : Value → Value → Value → Value → H → Option β) : Option β :=
  kn (.int .i64 0) x4 x3 x0 h
theorem ep9arlrborlbrrrl (C : CF) (L : Nat) {β : Type} (x4 : Value) (x3 : Value) (x0 : Value) (h : H) (K : Ex → T Value → H → Option β) :
    execK Try.prog C L 0 94 [2] c9arlrborlbrrrl [7, 4, 3, 0] [(1, [3, 0]), (0, [0])] (fs [(4, x4), (3, x3), (0, x0)]) h K =
      p9arlrborlbrrrl C L x4 x3 x0 h (fun x7 x4 x3 x0 h => K .normal (fs [(7, x7), (4, x4), (3, x3), (0, x0)]) h) := by
  kernel_rfl
noncomputable def c9arlrborlbrrrr : Code := cR c9arlrborlbrrr
noncomputable def c9arlrborlbrrrrb : Code := cL c9arlrborlbrrrr
noncomputable def c9arlrborlbrrrrbo : Code := cL c9arlrborlbrrrrb
noncomputable def c9arlrborlbrrrrbol : Code := cL c9arlrborlbrrrrbo
noncomputable def p9arlrborlbrrrrbol (C : CF) (L : Nat) {β : Type} (x7 : Value) (x4 : Value) (x3 : Value) (x0 : Value) (h : H) (kn : Value → Value → Value → Value → H → Option β) (kx4 : Value → Value → H → Option β) : Option β :=
  (A.fieldAddr 22 x4).bind fun t73 =>
  (A.load false 1 t73 h).bind fun t74 =>
  (A.lenS t74).bind fun t75 =>
  (A.bin Try.prog .lss 3 x7 t75).bind fun t76 =>
  toBK t76 fun b =>
  (bif b then
  kn x7 x4 x3 x0 h
  else
  kx4 x3 x0 h)
theorem ep9arlrborlbrrrrbol (C : CF) (L : Nat) {β : Type} (x7 : Value) (x4 : Value) (x3 : Value) (x0 : Value) (h : H) (K : Ex → T Value → H → Option β) :
    execK Try.prog C L 0 94 [2] c9arlrborlbrrrrbol [7, 4, 3, 0] [(4, [3, 0]), (1, [3, 0]), (0, [0])] (fs [(7, x7), (4, x4), (3, x3), (0, x0)]) h K =
      p9arlrborlbrrrrbol C L x7 x4 x3 x0 h (fun x7 x4 x3 x0 h => K .normal (fs [(7, x7), (4, x4), (3, x3), (0, x0)]) h) (fun x3 x0 h => K (.exit 4) (fs [(3, x3), (0, x0)]) h) := by
  kernel_rfl
noncomputable def c9arlrborlbrrrrbor : Code := cR c9arlrborlbrrrrbo
noncomputable def c9arlrborlbrrrrborl : Code := cL c9arlrborlbrrrrbor
noncomputable def c9arlrborlbrrrrborlb : Code := cL c9arlrborlbrrrrborl
noncomputable def p9arlrborlbrrrrborlb (C : CF) (L : Nat) {β : Type} (x7 : Value) (x4 : Value) (x3 : Value) (x0 : Value) (h : H) (kr : Value → H → Option β) (kn : Value → Value → Value → Value → H → Option β) : Option β :=
  (A.fieldAddr 22 x4).bind fun t79 =>
  (A.load false 1 t79 h).bind fun t80 =>
  (A.idxS 2 t80 x7).bind fun t82 =>
  (A.fieldAddr 0 t82).bind fun t83 =>
  (A.load false 1 t83 h).bind fun t84 =>
  (A.lenStr t84).bind fun t85 =>
  (A.bin Try.prog .gtr 3 t85 (.int .i64 300)).bind fun t86 =>
  toBK t86 fun b =>
  (bif b then
  kr (.bool true) h
  else
  (A.bin Try.prog .geq 3 x7 (.int .i64 20)).bind fun t89 =>
  toBK t89 fun bq1 =>
  (bif bq1 then
  kr (.bool true) h
  else
  kn x7 x4 x3 x0 h))
theorem ep9arlrborlbrrrrborlb (C : CF) (L : Nat) {β : Type} (x7 : Value) (x4 : Value) (x3 : Value) (x0 : Value) (h : H) (K : Ex → T Value → H → Option β) :
    execK Try.prog C L 0 94 [2] c9arlrborlbrrrrborlb [7, 4, 3, 0] [(5, [7, 4, 3, 0]), (4, [3, 0]), (1, [3, 0]), (0, [0])] (fs [(7, x7), (4, x4), (3, x3), (0, x0)]) h K =
      p9arlrborlbrrrrborlb C L x7 x4 x3 x0 h (fun x2 h => K .ret (fs [(2, x2)]) h) (fun x7 x4 x3 x0 h => K .normal (fs [(7, x7), (4, x4), (3, x3), (0, x0)]) h) := by
  kernel_rfl
noncomputable def p9arlrborlbrrrrborl (C : CF) (L : Nat) {β : Type} (x7 : Value) (x4 : Value) (x3 : Value) (x0 : Value) (h : H) (kr : Value → H → Option β) (kn : Value → Value → Value → Value → H → Option β) : Option β :=
  p9arlrborlbrrrrborlb C L x7 x4 x3 x0 h kr kn
theorem ep9arlrborlbrrrrborl (C : CF) (L : Nat) {β : Type} (x7 : Value) (x4 : Value) (x3 : Value) (x0 : Value) (h : H) (K : Ex → T Value → H → Option β) :
    execK Try.prog C L 0 94 [2] c9arlrborlbrrrrborl [7, 4, 3, 0] [(4, [3, 0]), (1, [3, 0]), (0, [0])] (fs [(7, x7), (4, x4), (3, x3), (0, x0)]) h K =
      p9arlrborlbrrrrborl C L x7 x4 x3 x0 h (fun x2 h => K .ret (fs [(2, x2)]) h) (fun x7 x4 x3 x0 h => K .normal (fs [(7, x7), (4, x4), (3, x3), (0, x0)]) h) := by
  rw [execK_block (b := c9arlrborlbrrrrborlb) (id := 5) (by kernel_rfl), ep9arlrborlbrrrrborlb]
  rfl
noncomputable def c9arlrborlbrrrrborr : Code := cR c9arlrborlbrrrrbor
noncomputable def p9arlrborlbrrrrborr (C : CF) (L : Nat) {β : Type} (x7 : Value) (x4 : Value) (x3 : Value) (x0 : Value) (h : H) (kn : Value → Value → Value → Value → H → Option β) : Option β :=
  (A.bin Try.prog .add 3 x7 (.int .i64 1)).bind fun t78 =>
  kn t78 x4 x3 x0 h
theorem ep9arlrborlbrrrrborr (C : CF) (L : Nat) {β : Type} (x7 : Value) (x4 : Value) (x3 : Value) (x0 : Value) (h : H) (K : Ex → T Value → H → Option β) :
    execK Try.prog C L 0 94 [2] c9arlrborlbrrrrborr [7, 4, 3, 0] [(4, [3, 0]), (1, [3, 0]), (0, [0])] (fs [(7, x7), (4, x4), (3, x3), (0, x0)]) h K =
      p9arlrborlbrrrrborr C L x7 x4 x3 x0 h (fun x7 x4 x3 x0 h => K .normal (fs [(7, x7), (4, x4), (3, x3), (0, x0)]) h) := by
  kernel_rfl
noncomputable def p9arlrborlbrrrrbor (C : CF) (L : Nat) {β : Type} (x7 : Value) (x4 : Value) (x3 : Value) (x0 : Value) (h : H) (kn : Value → Value → Value → Value → H → Option β) (kr : Value → H → Option β) : Option β :=
  p9arlrborlbrrrrborl C L x7 x4 x3 x0 h kr (fun x7 x4 x3 x0 h => p9arlrborlbrrrrborr C L x7 x4 x3 x0 h kn)
theorem ep9arlrborlbrrrrbor (C : CF) (L : Nat) {β : Type} (x7 : Value) (x4 : Value) (x3 : Value) (x0 : Value) (h : H) (K : Ex → T Value → H → Option β) :
    execK Try.prog C L 0 94 [2] c9arlrborlbrrrrbor [7, 4, 3, 0] [(4, [3, 0]), (1, [3, 0]), (0, [0])] (fs [(7, x7), (4, x4), (3, x3), (0, x0)]) h K =
      p9arlrborlbrrrrbor C L x7 x4 x3 x0 h (fun x7 x4 x3 x0 h => K .normal (fs [(7, x7), (4, x4), (3, x3), (0, x0)]) h) (fun x2 h => K .ret (fs [(2, x2)]) h) := by
  rw [execK_seq (a := c9arlrborlbrrrrborl) (b := c9arlrborlbrrrrborr) (by kernel_rfl) (show live [2] c9arlrborlbrrrrborr [7, 4, 3, 0] [(4, [3, 0]), (1, [3, 0]), (0, [0])] = [7, 4, 3, 0] by kernel_rfl), ep9arlrborlbrrrrborl]
  simp only [seqK, ep9arlrborlbrrrrborr]
  rfl
noncomputable def p9arlrborlbrrrrbo (C : CF) (L : Nat) {β : Type} (x7 : Value) (x4 : Value) (x3 : Value) (x0 : Value) (h : H) (kn : Value → Value → Value → Value → H → Option β) (kr : Value → H → Option β) (kx4 : Value → Value → H → Option β) : Option β :=
  p9arlrborlbrrrrbol C L x7 x4 x3 x0 h (fun x7 x4 x3 x0 h => p9arlrborlbrrrrbor C L x7 x4 x3 x0 h kn kr) kx4
theorem ep9arlrborlbrrrrbo (C : CF) (L : Nat) {β : Type} (x7 : Value) (x4 : Value) (x3 : Value) (x0 : Value) (h : H) (K : Ex → T Value → H → Option β) :
    execK Try.prog C L 0 94 [2] c9arlrborlbrrrrbo [7, 4, 3, 0] [(4, [3, 0]), (1, [3, 0]), (0, [0])] (fs [(7, x7), (4, x4), (3, x3), (0, x0)]) h K =
      p9arlrborlbrrrrbo C L x7 x4 x3 x0 h (fun x7 x4 x3 x0 h => K .normal (fs [(7, x7), (4, x4), (3, x3), (0, x0)]) h) (fun x2 h => K .ret (fs [(2, x2)]) h) (fun x3 x0 h => K (.exit 4) (fs [(3, x3), (0, x0)]) h) := by
  rw [execK_seq (a := c9arlrborlbrrrrbol) (b := c9arlrborlbrrrrbor) (by kernel_rfl) (show live [2] c9arlrborlbrrrrbor [7, 4, 3, 0] [(4, [3, 0]), (1, [3, 0]), (0, [0])] = [7, 4, 3, 0] by kernel_rfl), ep9arlrborlbrrrrbol]
  simp only [seqK, ep9arlrborlbrrrrbor]
  rfl
noncomputable def p9arlrborlbrrrrbw (C : CF) (L : Nat) {β : Type} (kr : Value → H → Option β) (kx4 : Value → Value → H → Option β) : Nat → Value → Value → Value → Value → H → Option β
  | 0, _, _, _, _, _ => none
  | n + 1, x7, x4, x3, x0, h => p9arlrborlbrrrrbo C L x7 x4 x3 x0 h (fun x7 x4 x3 x0 h => p9arlrborlbrrrrbw C L kr kx4 n x7 x4 x3 x0 h) kr kx4
theorem ep9arlrborlbrrrrbw (C : CF) (L : Nat) {β : Type} (K : Ex → T Value → H → Option β) : ∀ (n : Nat) (x7 : Value) (x4 : Value) (x3 : Value) (x0 : Value) (h : H),
    loopK (fun fr h K => execK Try.prog C L 0 94 [2] c9arlrborlbrrrrbo [7, 4, 3, 0] [(4, [3, 0]), (1, [3, 0]), (0, [0])] fr h K) n (fs [(7, x7), (4, x4), (3, x3), (0, x0)]) h K =
      p9arlrborlbrrrrbw C L (fun x2 h => K .ret (fs [(2, x2)]) h) (fun x3 x0 h => K (.exit 4) (fs [(3, x3), (0, x0)]) h) n x7 x4 x3 x0 h := by
  intro n
  induction n with
  | zero => intros; rfl
  | succ n ih =>
    intros
    simp only [loopK]
    rw [ep9arlrborlbrrrrbo]
    simp only [seqK, ih]
    rfl
noncomputable def p9arlrborlbrrrrb (C : CF) (L : Nat) {β : Type} (x7 : Value) (x4 : Value) (x3 : Value) (x0 : Value) (h : H) (kr : Value → H → Option β) (kx4 : Value → Value → H → Option β) : Option β :=
  p9arlrborlbrrrrbw C L kr kx4 L x7 x4 x3 x0 h
theorem ep9arlrborlbrrrrb (C : CF) (L : Nat) {β : Type} (x7 : Value) (x4 : Value) (x3 : Value) (x0 : Value) (h : H) (K : Ex → T Value → H → Option β) :
    execK Try.prog C L 0 94 [2] c9arlrborlbrrrrb [3, 0] [(4, [3, 0]), (1, [3, 0]), (0, [0])] (fs [(7, x7), (4, x4), (3, x3), (0, x0)]) h K =
      p9arlrborlbrrrrb C L x7 x4 x3 x0 h (fun x2 h => K .ret (fs [(2, x2)]) h) (fun x3 x0 h => K (.exit 4) (fs [(3, x3), (0, x0)]) h) := by
  rw [execK_loop (b := c9arlrborlbrrrrbo) (fr1 := (fs [(7, x7), (4, x4), (3, x3), (0, x0)])) (by kernel_rfl) (show live [2] c9arlrborlbrrrrbo [] [(4, [3, 0]), (1, [3, 0]), (0, [0])] = [7, 4, 3, 0] by kernel_rfl) (by kernel_rfl), ep9arlrborlbrrrrbw]
  rfl
noncomputable def p9arlrborlbrrrr (C : CF) (L : Nat) {β : Type} (x7 : Value) (x4 : Value) (x3 : Value) (x0 : Value) (h : H) (kr : Value → H → Option β) (kn : Value → Value → H → Option β) : Option β :=
  p9arlrborlbrrrrb C L x7 x4 x3 x0 h kr kn
theorem ep9arlrborlbrrrr (C : CF) (L : Nat) {β : Type} (x7 : Value) (x4 : Value) (x3 : Value) (x0 : Value) (h : H) (K : Ex → T Value → H → Option β) :
    execK Try.prog C L 0 94 [2] c9arlrborlbrrrr [3, 0] [(1, [3, 0]), (0, [0])] (fs [(7, x7), (4, x4), (3, x3), (0, x0)]) h K =
      p9arlrborlbrrrr C L x7 x4 x3 x0 h (fun x2 h => K .ret (fs [(2, x2)]) h) (fun x3 x0 h => K .normal (fs [(3, x3), (0, x0)]) h) := by
  rw [execK_block (b := c9arlrborlbrrrrb) (id := 4) (by kernel_rfl), ep9arlrborlbrrrrb]
  rfl
noncomputable def p9arlrborlbrrr (C : CF) (L : Nat) {β : Type} (x4 : Value) (x3 : Value) (x0 : Value) (h : H) (kr : Value → H → Option β) (kn : Value → Value → H → Option β) : Option β :=
  p9arlrborlbrrrl C L x4 x3 x0 h (fun x7 x4 x3 x0 h => p9arlrborlbrrrr C L x7 x4 x3 x0 h kr kn)
theorem ep9arlrborlbrrr (C : CF) (L : Nat) {β : Type} (x4 : Value) (x3 : Value) (x0 : Value) (h : H) (K : Ex → T Value → H → Option β) :
    execK Try.prog C L 0 94 [2] c9arlrborlbrrr [3, 0] [(1, [3, 0]), (0, [0])] (fs [(4, x4), (3, x3), (0, x0)]) h K =
      p9arlrborlbrrr C L x4 x3 x0 h (fun x2 h => K .ret (fs [(2, x2)]) h) (fun x3 x0 h => K .normal (fs [(3, x3), (0, x0)]) h) := by
  rw [execK_seq (a := c9arlrborlbrrrl) (b := c9arlrborlbrrrr) (by kernel_rfl) (show live [2] c9arlrborlbrrrr [3, 0] [(1, [3, 0]), (0, [0])] = [7, 4, 3, 0] by kernel_rfl), ep9arlrborlbrrrl]
  simp only [seqK, ep9arlrborlbrrrr]
  rfl
noncomputable def p9arlrborlbrr (C : CF) (L : Nat) {β : Type} (x5 : Value) (x4 : Value) (x3 : Value) (x0 : Value) (h : H) (kr : Value → H → Option β) (kn : Value → Value → H → Option β) : Option β :=
  p9arlrborlbrrl C L x5 x4 x3 x0 h kr (fun x4 x3 x0 h => p9arlrborlbrrr C L x4 x3 x0 h kr kn)
theorem ep9arlrborlbrr (C : CF) (L : Nat) {β : Type} (x5 : Value) (x4 : Value) (x3 : Value) (x0 : Value) (h : H) (K : Ex → T Value → H → Option β) :
    execK Try.prog C L 0 94 [2] c9arlrborlbrr [3, 0] [(1, [3, 0]), (0, [0])] (fs [(5, x5), (4, x4), (3, x3), (0, x0)]) h K =
      p9arlrborlbrr C L x5 x4 x3 x0 h (fun x2 h => K .ret (fs [(2, x2)]) h) (fun x3 x0 h => K .normal (fs [(3, x3), (0, x0)]) h) := by
  rw [execK_seq (a := c9arlrborlbrrl) (b := c9arlrborlbrrr) (by kernel_rfl) (show live [2] c9arlrborlbrrr [3, 0] [(1, [3, 0]), (0, [0])] = [4, 3, 0] by kernel_rfl), ep9arlrborlbrrl]
  simp only [seqK, ep9arlrborlbrrr]
  rfl
noncomputable def p9arlrborlbr (C : CF) (L : Nat) {β : Type} (x4 : Value) (x3 : Value) (x0 : Value) (h : H) (kr : Value → H → Option β) (kn : Value → Value → H → Option β) : Option β :=
  p9arlrborlbrl C L x4 x3 x0 h (fun x5 x4 x3 x0 h => p9arlrborlbrr C L x5 x4 x3 x0 h kr kn)
theorem ep9arlrborlbr (C : CF) (L : Nat) {β : Type} (x4 : Value) (x3 : Value) (x0 : Value) (h : H) (K : Ex → T Value → H → Option β) :
    execK Try.prog C L 0 94 [2] c9arlrborlbr [3, 0] [(1, [3, 0]), (0, [0])] (fs [(4, x4), (3, x3), (0, x0)]) h K =
      p9arlrborlbr C L x4 x3 x0 h (fun x2 h => K .ret (fs [(2, x2)]) h) (fun x3 x0 h => K .normal (fs [(3, x3), (0, x0)]) h) := by
  rw [execK_seq (a := c9arlrborlbrl) (b := c9arlrborlbrr) (by kernel_rfl) (show live [2] c9arlrborlbrr [3, 0] [(1, [3, 0]), (0, [0])] = [5, 4, 3, 0] by kernel_rfl), ep9arlrborlbrl]
  simp only [seqK, ep9arlrborlbrr]
  rfl
noncomputable def p9arlrborlb (C : CF) (L : Nat) {β : Type} (x3 : Value) (x0 : Value) (h : H) (kr : Value → H → Option β) (kn : Value → Value → H → Option β) : Option β :=
  p9arlrborlbl C L x3 x0 h (fun x4 x3 x0 h => p9arlrborlbr C L x4 x3 x0 h kr kn)
theorem ep9arlrborlb (C : CF) (L : Nat) {β : Type} (x3 : Value) (x0 : Value) (h : H) (K : Ex → T Value → H → Option β) :
    execK Try.prog C L 0 94 [2] c9arlrborlb [3, 0] [(1, [3, 0]), (0, [0])] (fs [(3, x3), (0, x0)]) h K =
      p9arlrborlb C L x3 x0 h (fun x2 h => K .ret (fs [(2, x2)]) h) (fun x3 x0 h => K .normal (fs [(3, x3), (0, x0)]) h) := by
  rw [execK_seq (a := c9arlrborlbl) (b := c9arlrborlbr) (by kernel_rfl) (show live [2] c9arlrborlbr [3, 0] [(1, [3, 0]), (0, [0])] = [4, 3, 0] by kernel_rfl), ep9arlrborlbl]
  simp only [seqK, ep9arlrborlbr]
  rfl
noncomputable def p9arlrborl (C : CF) (L : Nat) {β : Type} (x3 : Value) (x0 : Value) (h : H) (kr : Value → H → Option β) (kn : Value → Value → H → Option β) : Option β :=
  p9arlrborlb C L x3 x0 h kr kn
theorem ep9arlrborl (C : CF) (L : Nat) {β : Type} (x3 : Value) (x0 : Value) (h : H) (K : Ex → T Value → H → Option β) :
    execK Try.prog C L 0 94 [2] c9arlrborl [3, 0] [(0, [0])] (fs [(3, x3), (0, x0)]) h K =
      p9arlrborl C L x3 x0 h (fun x2 h => K .ret (fs [(2, x2)]) h) (fun x3 x0 h => K .normal (fs [(3, x3), (0, x0)]) h) := by
  rw [execK_block (b := c9arlrborlb) (id := 1) (by kernel_rfl), ep9arlrborlb]
  rfl
noncomputable def c9arlrborr : Code := cR c9arlrbor
noncomputable def p9arlrborr (C : CF) (L : Nat) {β : Type} (x3 : Value) (x0 : Value) (h : H) (kn : Value → Value → H → Option β) : Option β :=
  (A.bin Try.prog .add 3 x3 (.int .i64 1)).bind fun t13 =>
  kn t13 x0 h
theorem ep9arlrborr (C : CF) (L : Nat) {β : Type} (x3 : Value) (x0 : Value) (h : H) (K : Ex → T Value → H → Option β) :
    execK Try.prog C L 0 94 [2] c9arlrborr [3, 0] [(0, [0])] (fs [(3, x3), (0, x0)]) h K =
      p9arlrborr C L x3 x0 h (fun x3 x0 h => K .normal (fs [(3, x3), (0, x0)]) h) := by
  kernel_rfl
noncomputable def p9arlrbor (C : CF) (L : Nat) {β : Type} (x3 : Value) (x0 : Value) (h : H) (kn : Value → Value → H → Option β) (kr : Value → H → Option β) : Option β :=
  p9arlrborl C L x3 x0 h kr (fun x3 x0 h => p9arlrborr C L x3 x0 h kn)
theorem ep9arlrbor (C : CF) (L : Nat) {β : Type} (x3 : Value) (x0 : Value) (h : H) (K : Ex → T Value → H → Option β) :
    execK Try.prog C L 0 94 [2] c9arlrbor [3, 0] [(0, [0])] (fs [(3, x3), (0, x0)]) h K =
      p9arlrbor C L x3 x0 h (fun x3 x0 h => K .normal (fs [(3, x3), (0, x0)]) h) (fun x2 h => K .ret (fs [(2, x2)]) h) := by
  rw [execK_seq (a := c9arlrborl) (b := c9arlrborr) (by kernel_rfl) (show live [2] c9arlrborr [3, 0] [(0, [0])] = [3, 0] by kernel_rfl), ep9arlrborl]
  simp only [seqK, ep9arlrborr]
  rfl
noncomputable def p9arlrbo (C : CF) (L : Nat) {β : Type} (x3 : Value) (x0 : Value) (h : H) (kn : Value → Value → H → Option β) (kr : Value → H → Option β) (kx0 : Value → H → Option β) : Option β :=
  p9arlrbol C L x3 x0 h (fun x3 x0 h => p9arlrbor C L x3 x0 h kn kr) kx0
theorem ep9arlrbo (C : CF) (L : Nat) {β : Type} (x3 : Value) (x0 : Value) (h : H) (K : Ex → T Value → H → Option β) :
    execK Try.prog C L 0 94 [2] c9arlrbo [3, 0] [(0, [0])] (fs [(3, x3), (0, x0)]) h K =
      p9arlrbo C L x3 x0 h (fun x3 x0 h => K .normal (fs [(3, x3), (0, x0)]) h) (fun x2 h => K .ret (fs [(2, x2)]) h) (fun x0 h => K (.exit 0) (fs [(0, x0)]) h) := by
  rw [execK_seq (a := c9arlrbol) (b := c9arlrbor) (by kernel_rfl) (show live [2] c9arlrbor [3, 0] [(0, [0])] = [3, 0] by kernel_rfl), ep9arlrbol]
  simp only [seqK, ep9arlrbor]
  rfl
noncomputable def p9arlrbw (C : CF) (L : Nat) {β : Type} (kr : Value → H → Option β) (kx0 : Value → H → Option β) : Nat → Value → Value → H → Option β
  | 0, _, _, _ => none
  | n + 1, x3, x0, h => p9arlrbo C L x3 x0 h (fun x3 x0 h => p9arlrbw C L kr kx0 n x3 x0 h) kr kx0
theorem ep9arlrbw (C : CF) (L : Nat) {β : Type} (K : Ex → T Value → H → Option β) : ∀ (n : Nat) (x3 : Value) (x0 : Value) (h : H),
    loopK (fun fr h K => execK Try.prog C L 0 94 [2] c9arlrbo [3, 0] [(0, [0])] fr h K) n (fs [(3, x3), (0, x0)]) h K =
      p9arlrbw C L (fun x2 h => K .ret (fs [(2, x2)]) h) (fun x0 h => K (.exit 0) (fs [(0, x0)]) h) n x3 x0 h := by
  intro n
  induction n with
  | zero => intros; rfl
  | succ n ih =>
    intros
    simp only [loopK]
    rw [ep9arlrbo]
    simp only [seqK, ih]
    rfl
noncomputable def p9arlrb (C : CF) (L : Nat) {β : Type} (x3 : Value) (x0 : Value) (h : H) (kr : Value → H → Option β) (kx0 : Value → H → Option β) : Option β :=
  p9arlrbw C L kr kx0 L x3 x0 h
theorem ep9arlrb (C : CF) (L : Nat) {β : Type} (x3 : Value) (x0 : Value) (h : H) (K : Ex → T Value → H → Option β) :
    execK Try.prog C L 0 94 [2] c9arlrb [0] [(0, [0])] (fs [(3, x3), (0, x0)]) h K =
      p9arlrb C L x3 x0 h (fun x2 h => K .ret (fs [(2, x2)]) h) (fun x0 h => K (.exit 0) (fs [(0, x0)]) h) := by
  rw [execK_loop (b := c9arlrbo) (fr1 := (fs [(3, x3), (0, x0)])) (by kernel_rfl) (show live [2] c9arlrbo [] [(0, [0])] = [3, 0] by kernel_rfl) (by kernel_rfl), ep9arlrbw]
  rfl
noncomputable def p9arlr (C : CF) (L : Nat) {β : Type} (x3 : Value) (x0 : Value) (h : H) (kr : Value → H → Option β) (kn : Value → H → Option β) : Option β :=
  p9arlrb C L x3 x0 h kr kn
theorem ep9arlr (C : CF) (L : Nat) {β : Type} (x3 : Value) (x0 : Value) (h : H) (K : Ex → T Value → H → Option β) :
    execK Try.prog C L 0 94 [2] c9arlr [0] [] (fs [(3, x3), (0, x0)]) h K =
      p9arlr C L x3 x0 h (fun x2 h => K .ret (fs [(2, x2)]) h) (fun x0 h => K .normal (fs [(0, x0)]) h) := by
  rw [execK_block (b := c9arlrb) (id := 0) (by kernel_rfl), ep9arlrb]
  rfl
noncomputable def p9arl (C : CF) (L : Nat) {β : Type} (x0 : Value) (h : H) (kr : Value → H → Option β) (kn : Value → H → Option β) : Option β :=
  p9arll C L x0 h (fun x3 x0 h => p9arlr C L x3 x0 h kr kn)
theorem ep9arl (C : CF) (L : Nat) {β : Type} (x0 : Value) (h : H) (K : Ex → T Value → H → Option β) :
    execK Try.prog C L 0 94 [2] c9arl [0] [] (fs [(0, x0)]) h K =
      p9arl C L x0 h (fun x2 h => K .ret (fs [(2, x2)]) h) (fun x0 h => K .normal (fs [(0, x0)]) h) := by
  rw [execK_seq (a := c9arll) (b := c9arlr) (by kernel_rfl) (show live [2] c9arlr [0] [] = [3, 0] by kernel_rfl), ep9arll]
  simp only [seqK, ep9arlr]
  rfl
noncomputable def c9arr : Code := cR c9ar
noncomputable def p9arr (C : CF) (L : Nat) {β : Type} (x0 : Value) (h : H) (kr : Value → H → Option β) : Option β :=
  (A.lenS x0).bind fun t92 =>
  (A.bin Try.prog .gtr 3 t92 (.int .i64 60)).bind fun t93 =>
  toBK t93 fun b =>
  kr (.bool b) h
theorem ep9arr (C : CF) (L : Nat) {β : Type} (x0 : Value) (h : H) (K : Ex → T Value → H → Option β) :
    execK Try.prog C L 0 94 [2] c9arr [2] [] (fs [(0, x0)]) h K =
      p9arr C L x0 h (fun x2 h => K .ret (fs [(2, x2)]) h) := by
  kernel_rfl
noncomputable def p9ar (C : CF) (L : Nat) {β : Type} (x0 : Value) (h : H) (kr : Value → H → Option β) : Option β :=
  p9arl C L x0 h kr (fun x0 h => p9arr C L x0 h kr)
theorem ep9ar (C : CF) (L : Nat) {β : Type} (x0 : Value) (h : H) (K : Ex → T Value → H → Option β) :
    execK Try.prog C L 0 94 [2] c9ar [2] [] (fs [(0, x0)]) h K =
      p9ar C L x0 h (fun x2 h => K .ret (fs [(2, x2)]) h) := by
  rw [execK_seq (a := c9arl) (b := c9arr) (by kernel_rfl) (show live [2] c9arr [2] [] = [0] by kernel_rfl), ep9arl]
  simp only [seqK, ep9arr]
  rfl
noncomputable def p9a (C : CF) (L : Nat) {β : Type} (x0 : Value) (h : H) (kr : Value → H → Option β) : Option β :=
  p9al C L x0 h (fun x0 h => p9ar C L x0 h kr)
theorem ep9a (C : CF) (L : Nat) {β : Type} (x0 : Value) (h : H) (K : Ex → T Value → H → Option β) :
    execK Try.prog C L 0 94 [2] c9a [2] [] (fs [(0, x0)]) h K =
      p9a C L x0 h (fun x2 h => K .ret (fs [(2, x2)]) h) := by
  rw [execK_seq (a := c9al) (b := c9ar) (by kernel_rfl) (show live [2] c9ar [2] [] = [0] by kernel_rfl), ep9al]
  simp only [seqK, ep9ar]
  rfl
noncomputable def F9 (C : CF) (L : Nat) (x0 : Value) (h : H) : Option (Value × H) :=
  p9a C L x0 h
    (fun x2 h => some (x2, h))
theorem F9eq (O : List FuncId) (hO : O.any (Nat.beq 9) = false) (n : Nat) (x0 : Value) (h : H) : callB Try.prog 0 O (n + 1) 9 [x0] h = F9 (callB Try.prog 0 O n) n x0 h := by
  rw [callB_eq hO (c := c9a) (nt := 94) (RR := [2]) (fr := (fs [(0, x0)])) Try.func9 (by kernel_rfl) (by kernel_rfl) (by kernel_rfl) (by kernel_rfl) (by kernel_rfl), ep9a]
  kernel_rfl

/-! F10: relayhouse/relayhouselaw17.awake -/
noncomputable def c10a : Code := (Try.f10.body).getD .skip
noncomputable def p10a (C : CF) (L : Nat) {β : Type} (h : H) (kr : Value → H → Option β) : Option β :=
  (C 22 [] h).bind fun (t2, hq1) =>
  (C 12 [t2, (.int .i64 2), (.slice none 0 0)] hq1).bind fun (t4, hq2) =>
  (A.buildSlice 1 2 Z3L [(0, 1, (.int .i64 0)), (1, 1, (.int .i64 2))] hq2).bind fun (t5, hq3) =>
  (C 20 [t4, t5] hq3).bind fun (t6, hq4) =>
  toBK t6 fun b =>
  (bif b then
  (C 24 [t2] hq4).bind fun (t9, hq5) =>
  (A.bin Try.prog .eql 3 t9 (.int .i64 3)).bind fun t10 =>
  toBK t10 fun bq1 =>
  (bif bq1 then
  (C 19 [t2] hq5).bind fun (t14, hq6) =>
  (A.bin Try.prog .eql 3 t14 (.int .i64 3)).bind fun t15 =>
  toBK t15 fun bq2 =>
  kr (.bool bq2) hq6
  else
  kr (.bool false) hq5)
  else
  kr (.bool false) hq4)
theorem ep10a (C : CF) (L : Nat) {β : Type} (h : H) (K : Ex → T Value → H → Option β) :
    execK Try.prog C L 0 17 [0] c10a [0] [] (fs []) h K =
      p10a C L h (fun x0 h => K .ret (fs [(0, x0)]) h) := by
  kernel_rfl
noncomputable def F10 (C : CF) (L : Nat) (h : H) : Option (Value × H) :=
  p10a C L h
    (fun x0 h => some (x0, h))
theorem F10eq (O : List FuncId) (hO : O.any (Nat.beq 10) = false) (n : Nat) (h : H) : callB Try.prog 0 O (n + 1) 10 [] h = F10 (callB Try.prog 0 O n) n h := by
  rw [callB_eq hO (c := c10a) (nt := 17) (RR := [0]) (fr := (fs [])) Try.func10 (by kernel_rfl) (by kernel_rfl) (by kernel_rfl) (by kernel_rfl) (by kernel_rfl), ep10a]
  kernel_rfl

/-! F11: relayhouse/relayhouselaw17.filled -/
noncomputable def c11a : Code := (Try.f11.body).getD .skip
noncomputable def c11al : Code := cL c11a
noncomputable def p11al (C : CF) (L : Nat) {β : Type} (x0 : Value) (h : H) (kn : Value → H → Option β) : Option β :=
  kn x0 h
theorem ep11al (C : CF) (L : Nat) {β : Type} (x0 : Value) (h : H) (K : Ex → T Value → H → Option β) :
    execK Try.prog C L 0 25 [2] c11al [0] [] (fs [(0, x0)]) h K =
      p11al C L x0 h (fun x0 h => K .normal (fs [(0, x0)]) h) := by
  kernel_rfl
noncomputable def c11ar : Code := cR c11a
noncomputable def c11arl : Code := cL c11ar
noncomputable def p11arl (C : CF) (L : Nat) {β : Type} (x0 : Value) (h : H) (kn : Value → Value → H → Option β) : Option β :=
  (C 25 [] h).bind fun (t5, hq1) =>
  kn x0 t5 hq1
theorem ep11arl (C : CF) (L : Nat) {β : Type} (x0 : Value) (h : H) (K : Ex → T Value → H → Option β) :
    execK Try.prog C L 0 25 [2] c11arl [0, 3] [] (fs [(0, x0)]) h K =
      p11arl C L x0 h (fun x0 x3 h => K .normal (fs [(0, x0), (3, x3)]) h) := by
  kernel_rfl
noncomputable def c11arr : Code := cR c11ar
noncomputable def c11arrl : Code := cL c11arr
noncomputable def c11arrll : Code := cL c11arrl
noncomputable def p11arrll (C : CF) (L : Nat) {β : Type} (x0 : Value) (x3 : Value) (h : H) (kn : Value → Value → Value → H → Option β) : Option β :=
  kn (.int .i64 0) x0 x3 h
theorem ep11arrll (C : CF) (L : Nat) {β : Type} (x0 : Value) (x3 : Value) (h : H) (K : Ex → T Value → H → Option β) :
    execK Try.prog C L 0 25 [2] c11arrll [4, 0, 3] [] (fs [(0, x0), (3, x3)]) h K =
      p11arrll C L x0 x3 h (fun x4 x0 x3 h => K .normal (fs [(4, x4), (0, x0), (3, x3)]) h) := by
  kernel_rfl
noncomputable def c11arrlr : Code := cR c11arrl
noncomputable def c11arrlrb : Code := cL c11arrlr
noncomputable def c11arrlrbo : Code := cL c11arrlrb
noncomputable def p11arrlrbo (C : CF) (L : Nat) {β : Type} (x4 : Value) (x0 : Value) (x3 : Value) (h : H) (kn : Value → Value → Value → H → Option β) (kx0 : Value → H → Option β) : Option β :=
  (A.lenS x0).bind fun t8 =>
  (A.bin Try.prog .lss 3 x4 t8).bind fun t9 =>
  toBK t9 fun b =>
  (bif b then
  (A.bin Try.prog .rem 3 x4 (.int .i64 2)).bind fun t13 =>
  (A.bin Try.prog .eql 3 t13 (.int .i64 0)).bind fun t14 =>
  toBK t14 fun bq1 =>
  (bif bq1 then
  (C 24 [x3] h).bind fun (t16, hq1) =>
  (A.idxS 35 x0 x4).bind fun t20 =>
  (A.load true 35 t20 hq1).bind fun t21 =>
  (C 14 [t21] hq1).bind fun (t22, hq2) =>
  (C 23 [x3, t22] hq2).bind fun (t23, hq3) =>
  (A.bin Try.prog .add 3 x4 (.int .i64 1)).bind fun t11 =>
  kn t11 x0 x3 hq3
  else
  (A.idxS 35 x0 x4).bind fun t20q1 =>
  (A.load true 35 t20q1 h).bind fun t21q1 =>
  (C 14 [t21q1] h).bind fun (t22q1, hq4) =>
  (C 23 [x3, t22q1] hq4).bind fun (t23q1, hq5) =>
  (A.bin Try.prog .add 3 x4 (.int .i64 1)).bind fun t11q1 =>
  kn t11q1 x0 x3 hq5)
  else
  kx0 x3 h)
theorem ep11arrlrbo (C : CF) (L : Nat) {β : Type} (x4 : Value) (x0 : Value) (x3 : Value) (h : H) (K : Ex → T Value → H → Option β) :
    execK Try.prog C L 0 25 [2] c11arrlrbo [4, 0, 3] [(0, [3])] (fs [(4, x4), (0, x0), (3, x3)]) h K =
      p11arrlrbo C L x4 x0 x3 h (fun x4 x0 x3 h => K .normal (fs [(4, x4), (0, x0), (3, x3)]) h) (fun x3 h => K (.exit 0) (fs [(3, x3)]) h) := by
  kernel_rfl
noncomputable def p11arrlrbw (C : CF) (L : Nat) {β : Type} (kx0 : Value → H → Option β) : Nat → Value → Value → Value → H → Option β
  | 0, _, _, _, _ => none
  | n + 1, x4, x0, x3, h => p11arrlrbo C L x4 x0 x3 h (fun x4 x0 x3 h => p11arrlrbw C L kx0 n x4 x0 x3 h) kx0
theorem ep11arrlrbw (C : CF) (L : Nat) {β : Type} (K : Ex → T Value → H → Option β) : ∀ (n : Nat) (x4 : Value) (x0 : Value) (x3 : Value) (h : H),
    loopK (fun fr h K => execK Try.prog C L 0 25 [2] c11arrlrbo [4, 0, 3] [(0, [3])] fr h K) n (fs [(4, x4), (0, x0), (3, x3)]) h K =
      p11arrlrbw C L (fun x3 h => K (.exit 0) (fs [(3, x3)]) h) n x4 x0 x3 h := by
  intro n
  induction n with
  | zero => intros; rfl
  | succ n ih =>
    intros
    simp only [loopK]
    rw [ep11arrlrbo]
    simp only [seqK, ih]
    rfl
noncomputable def p11arrlrb (C : CF) (L : Nat) {β : Type} (x4 : Value) (x0 : Value) (x3 : Value) (h : H) (kx0 : Value → H → Option β) : Option β :=
  p11arrlrbw C L kx0 L x4 x0 x3 h
theorem ep11arrlrb (C : CF) (L : Nat) {β : Type} (x4 : Value) (x0 : Value) (x3 : Value) (h : H) (K : Ex → T Value → H → Option β) :
    execK Try.prog C L 0 25 [2] c11arrlrb [3] [(0, [3])] (fs [(4, x4), (0, x0), (3, x3)]) h K =
      p11arrlrb C L x4 x0 x3 h (fun x3 h => K (.exit 0) (fs [(3, x3)]) h) := by
  rw [execK_loop (b := c11arrlrbo) (fr1 := (fs [(4, x4), (0, x0), (3, x3)])) (by kernel_rfl) (show live [2] c11arrlrbo [] [(0, [3])] = [4, 0, 3] by kernel_rfl) (by kernel_rfl), ep11arrlrbw]
  rfl
noncomputable def p11arrlr (C : CF) (L : Nat) {β : Type} (x4 : Value) (x0 : Value) (x3 : Value) (h : H) (kn : Value → H → Option β) : Option β :=
  p11arrlrb C L x4 x0 x3 h kn
theorem ep11arrlr (C : CF) (L : Nat) {β : Type} (x4 : Value) (x0 : Value) (x3 : Value) (h : H) (K : Ex → T Value → H → Option β) :
    execK Try.prog C L 0 25 [2] c11arrlr [3] [] (fs [(4, x4), (0, x0), (3, x3)]) h K =
      p11arrlr C L x4 x0 x3 h (fun x3 h => K .normal (fs [(3, x3)]) h) := by
  rw [execK_block (b := c11arrlrb) (id := 0) (by kernel_rfl), ep11arrlrb]
  rfl
noncomputable def p11arrl (C : CF) (L : Nat) {β : Type} (x0 : Value) (x3 : Value) (h : H) (kn : Value → H → Option β) : Option β :=
  p11arrll C L x0 x3 h (fun x4 x0 x3 h => p11arrlr C L x4 x0 x3 h kn)
theorem ep11arrl (C : CF) (L : Nat) {β : Type} (x0 : Value) (x3 : Value) (h : H) (K : Ex → T Value → H → Option β) :
    execK Try.prog C L 0 25 [2] c11arrl [3] [] (fs [(0, x0), (3, x3)]) h K =
      p11arrl C L x0 x3 h (fun x3 h => K .normal (fs [(3, x3)]) h) := by
  rw [execK_seq (a := c11arrll) (b := c11arrlr) (by kernel_rfl) (show live [2] c11arrlr [3] [] = [4, 0, 3] by kernel_rfl), ep11arrll]
  simp only [seqK, ep11arrlr]
  rfl
noncomputable def c11arrr : Code := cR c11arr
noncomputable def p11arrr (C : CF) (L : Nat) {β : Type} (x3 : Value) (h : H) (kr : Value → H → Option β) : Option β :=
  kr x3 h
theorem ep11arrr (C : CF) (L : Nat) {β : Type} (x3 : Value) (h : H) (K : Ex → T Value → H → Option β) :
    execK Try.prog C L 0 25 [2] c11arrr [2] [] (fs [(3, x3)]) h K =
      p11arrr C L x3 h (fun x2 h => K .ret (fs [(2, x2)]) h) := by
  kernel_rfl
noncomputable def p11arr (C : CF) (L : Nat) {β : Type} (x0 : Value) (x3 : Value) (h : H) (kr : Value → H → Option β) : Option β :=
  p11arrl C L x0 x3 h (fun x3 h => p11arrr C L x3 h kr)
theorem ep11arr (C : CF) (L : Nat) {β : Type} (x0 : Value) (x3 : Value) (h : H) (K : Ex → T Value → H → Option β) :
    execK Try.prog C L 0 25 [2] c11arr [2] [] (fs [(0, x0), (3, x3)]) h K =
      p11arr C L x0 x3 h (fun x2 h => K .ret (fs [(2, x2)]) h) := by
  rw [execK_seq (a := c11arrl) (b := c11arrr) (by kernel_rfl) (show live [2] c11arrr [2] [] = [3] by kernel_rfl), ep11arrl]
  simp only [seqK, ep11arrr]
  rfl
noncomputable def p11ar (C : CF) (L : Nat) {β : Type} (x0 : Value) (h : H) (kr : Value → H → Option β) : Option β :=
  p11arl C L x0 h (fun x0 x3 h => p11arr C L x0 x3 h kr)
theorem ep11ar (C : CF) (L : Nat) {β : Type} (x0 : Value) (h : H) (K : Ex → T Value → H → Option β) :
    execK Try.prog C L 0 25 [2] c11ar [2] [] (fs [(0, x0)]) h K =
      p11ar C L x0 h (fun x2 h => K .ret (fs [(2, x2)]) h) := by
  rw [execK_seq (a := c11arl) (b := c11arr) (by kernel_rfl) (show live [2] c11arr [2] [] = [0, 3] by kernel_rfl), ep11arl]
  simp only [seqK, ep11arr]
  rfl
noncomputable def p11a (C : CF) (L : Nat) {β : Type} (x0 : Value) (h : H) (kr : Value → H → Option β) : Option β :=
  p11al C L x0 h (fun x0 h => p11ar C L x0 h kr)
theorem ep11a (C : CF) (L : Nat) {β : Type} (x0 : Value) (h : H) (K : Ex → T Value → H → Option β) :
    execK Try.prog C L 0 25 [2] c11a [2] [] (fs [(0, x0)]) h K =
      p11a C L x0 h (fun x2 h => K .ret (fs [(2, x2)]) h) := by
  rw [execK_seq (a := c11al) (b := c11ar) (by kernel_rfl) (show live [2] c11ar [2] [] = [0] by kernel_rfl), ep11al]
  simp only [seqK, ep11ar]
  rfl
noncomputable def F11 (C : CF) (L : Nat) (x0 : Value) (h : H) : Option (Value × H) :=
  p11a C L x0 h
    (fun x2 h => some (x2, h))
theorem F11eq (O : List FuncId) (hO : O.any (Nat.beq 11) = false) (n : Nat) (x0 : Value) (h : H) : callB Try.prog 0 O (n + 1) 11 [x0] h = F11 (callB Try.prog 0 O n) n x0 h := by
  rw [callB_eq hO (c := c11a) (nt := 25) (RR := [2]) (fr := (fs [(0, x0)])) Try.func11 (by kernel_rfl) (by kernel_rfl) (by kernel_rfl) (by kernel_rfl) (by kernel_rfl), ep11a]
  kernel_rfl

/-! F12: (*relayhouse/record.Log).Of -/
noncomputable def c12a : Code := (Try.f12.body).getD .skip
noncomputable def c12al : Code := cL c12a
noncomputable def p12al (C : CF) (L : Nat) {β : Type} (x0 : Value) (x1 : Value) (x2 : Value) (h : H) (kn : Value → Value → Value → H → Option β) : Option β :=
  (A.box 1 x1 h).bind fun (t4, hq1) =>
  (A.box 1 x2 hq1).bind fun (t5, hq2) =>
  kn t5 t4 x0 hq2
theorem ep12al (C : CF) (L : Nat) {β : Type} (x0 : Value) (x1 : Value) (x2 : Value) (h : H) (K : Ex → T Value → H → Option β) :
    execK Try.prog C L 0 31 [6] c12al [5, 4, 0] [] (fs [(0, x0), (1, x1), (2, x2)]) h K =
      p12al C L x0 x1 x2 h (fun x5 x4 x0 h => K .normal (fs [(5, x5), (4, x4), (0, x0)]) h) := by
  kernel_rfl
noncomputable def c12ar : Code := cR c12a
noncomputable def c12arl : Code := cL c12ar
noncomputable def p12arl (C : CF) (L : Nat) {β : Type} (x5 : Value) (x4 : Value) (x0 : Value) (h : H) (kn : Value → Value → H → Option β) : Option β :=
  kn x0 (.func (.func 27) ⟨[]⟩ ⟨[x4, x5]⟩) h
theorem ep12arl (C : CF) (L : Nat) {β : Type} (x5 : Value) (x4 : Value) (x0 : Value) (h : H) (K : Ex → T Value → H → Option β) :
    execK Try.prog C L 0 31 [6] c12arl [0, 7] [] (fs [(5, x5), (4, x4), (0, x0)]) h K =
      p12arl C L x5 x4 x0 h (fun x0 x7 h => K .normal (fs [(0, x0), (7, x7)]) h) := by
  kernel_rfl
noncomputable def c12arr : Code := cR c12ar
noncomputable def c12arrl : Code := cL c12arr
noncomputable def p12arrl (C : CF) (L : Nat) {β : Type} (x0 : Value) (x7 : Value) (h : H) (kn : Value → Value → Value → H → Option β) : Option β :=
  kn x0 x7 (.slice none 0 0) h
theorem ep12arrl (C : CF) (L : Nat) {β : Type} (x0 : Value) (x7 : Value) (h : H) (K : Ex → T Value → H → Option β) :
    execK Try.prog C L 0 31 [6] c12arrl [0, 7, 8] [] (fs [(0, x0), (7, x7)]) h K =
      p12arrl C L x0 x7 h (fun x0 x7 x8 h => K .normal (fs [(0, x0), (7, x7), (8, x8)]) h) := by
  kernel_rfl
noncomputable def c12arrr : Code := cR c12arr
noncomputable def c12arrrl : Code := cL c12arrr
noncomputable def c12arrrll : Code := cL c12arrrl
noncomputable def p12arrrll (C : CF) (L : Nat) {β : Type} (x0 : Value) (x7 : Value) (x8 : Value) (h : H) (kn : Value → Value → Value → Value → Value → H → Option β) : Option β :=
  (C 19 [x0] h).bind fun (t12, hq1) =>
  kn t12 (.int .i64 0) x0 x7 x8 hq1
theorem ep12arrrll (C : CF) (L : Nat) {β : Type} (x0 : Value) (x7 : Value) (x8 : Value) (h : H) (K : Ex → T Value → H → Option β) :
    execK Try.prog C L 0 31 [6] c12arrrll [12, 13, 0, 7, 8] [] (fs [(0, x0), (7, x7), (8, x8)]) h K =
      p12arrrll C L x0 x7 x8 h (fun x12 x13 x0 x7 x8 h => K .normal (fs [(12, x12), (13, x13), (0, x0), (7, x7), (8, x8)]) h) := by
  kernel_rfl
noncomputable def c12arrrlr : Code := cR c12arrrl
noncomputable def c12arrrlrb : Code := cL c12arrrlr
noncomputable def c12arrrlrbo : Code := cL c12arrrlrb
noncomputable def p12arrrlrbo (C : CF) (L : Nat) {β : Type} (x12 : Value) (x13 : Value) (x0 : Value) (x7 : Value) (x8 : Value) (h : H) (kn : Value → Value → Value → Value → Value → H → Option β) (kx0 : Value → H → Option β) : Option β :=
  (A.bin Try.prog .lss 3 x13 x12).bind fun t14 =>
  toBK t14 fun b =>
  (bif b then
  (A.nilCheck x0).bind fun t18 =>
  (A.fieldAddr 0 t18).bind fun t19 =>
  (A.load false 1 t19 h).bind fun t20 =>
  (A.idxS 35 t20 x13).bind fun t22 =>
  (A.load true 35 t22 h).bind fun t23 =>
  (callV C x7 [t23] h).bind fun (t24, hq1) =>
  toBK t24 fun bq1 =>
  (bif bq1 then
  (A.buildSlice 1 1 Z3L [(0, 1, x13)] hq1).bind fun (t27, hq2) =>
  (A.append 1 8 x8 t27 hq2).bind fun (t28, hq3) =>
  (A.bin Try.prog .add 3 x13 (.int .i64 1)).bind fun t29 =>
  kn x12 t29 x0 x7 t28 hq3
  else
  (A.bin Try.prog .add 3 x13 (.int .i64 1)).bind fun t29q1 =>
  kn x12 t29q1 x0 x7 x8 hq1)
  else
  kx0 x8 h)
theorem ep12arrrlrbo (C : CF) (L : Nat) {β : Type} (x12 : Value) (x13 : Value) (x0 : Value) (x7 : Value) (x8 : Value) (h : H) (K : Ex → T Value → H → Option β) :
    execK Try.prog C L 0 31 [6] c12arrrlrbo [12, 13, 0, 7, 8] [(0, [8])] (fs [(12, x12), (13, x13), (0, x0), (7, x7), (8, x8)]) h K =
      p12arrrlrbo C L x12 x13 x0 x7 x8 h (fun x12 x13 x0 x7 x8 h => K .normal (fs [(12, x12), (13, x13), (0, x0), (7, x7), (8, x8)]) h) (fun x8 h => K (.exit 0) (fs [(8, x8)]) h) := by
  kernel_rfl
noncomputable def p12arrrlrbw (C : CF) (L : Nat) {β : Type} (kx0 : Value → H → Option β) : Nat → Value → Value → Value → Value → Value → H → Option β
  | 0, _, _, _, _, _, _ => none
  | n + 1, x12, x13, x0, x7, x8, h => p12arrrlrbo C L x12 x13 x0 x7 x8 h (fun x12 x13 x0 x7 x8 h => p12arrrlrbw C L kx0 n x12 x13 x0 x7 x8 h) kx0
theorem ep12arrrlrbw (C : CF) (L : Nat) {β : Type} (K : Ex → T Value → H → Option β) : ∀ (n : Nat) (x12 : Value) (x13 : Value) (x0 : Value) (x7 : Value) (x8 : Value) (h : H),
    loopK (fun fr h K => execK Try.prog C L 0 31 [6] c12arrrlrbo [12, 13, 0, 7, 8] [(0, [8])] fr h K) n (fs [(12, x12), (13, x13), (0, x0), (7, x7), (8, x8)]) h K =
      p12arrrlrbw C L (fun x8 h => K (.exit 0) (fs [(8, x8)]) h) n x12 x13 x0 x7 x8 h := by
  intro n
  induction n with
  | zero => intros; rfl
  | succ n ih =>
    intros
    simp only [loopK]
    rw [ep12arrrlrbo]
    simp only [seqK, ih]
    rfl
noncomputable def p12arrrlrb (C : CF) (L : Nat) {β : Type} (x12 : Value) (x13 : Value) (x0 : Value) (x7 : Value) (x8 : Value) (h : H) (kx0 : Value → H → Option β) : Option β :=
  p12arrrlrbw C L kx0 L x12 x13 x0 x7 x8 h
theorem ep12arrrlrb (C : CF) (L : Nat) {β : Type} (x12 : Value) (x13 : Value) (x0 : Value) (x7 : Value) (x8 : Value) (h : H) (K : Ex → T Value → H → Option β) :
    execK Try.prog C L 0 31 [6] c12arrrlrb [8] [(0, [8])] (fs [(12, x12), (13, x13), (0, x0), (7, x7), (8, x8)]) h K =
      p12arrrlrb C L x12 x13 x0 x7 x8 h (fun x8 h => K (.exit 0) (fs [(8, x8)]) h) := by
  rw [execK_loop (b := c12arrrlrbo) (fr1 := (fs [(12, x12), (13, x13), (0, x0), (7, x7), (8, x8)])) (by kernel_rfl) (show live [6] c12arrrlrbo [] [(0, [8])] = [12, 13, 0, 7, 8] by kernel_rfl) (by kernel_rfl), ep12arrrlrbw]
  rfl
noncomputable def p12arrrlr (C : CF) (L : Nat) {β : Type} (x12 : Value) (x13 : Value) (x0 : Value) (x7 : Value) (x8 : Value) (h : H) (kn : Value → H → Option β) : Option β :=
  p12arrrlrb C L x12 x13 x0 x7 x8 h kn
theorem ep12arrrlr (C : CF) (L : Nat) {β : Type} (x12 : Value) (x13 : Value) (x0 : Value) (x7 : Value) (x8 : Value) (h : H) (K : Ex → T Value → H → Option β) :
    execK Try.prog C L 0 31 [6] c12arrrlr [8] [] (fs [(12, x12), (13, x13), (0, x0), (7, x7), (8, x8)]) h K =
      p12arrrlr C L x12 x13 x0 x7 x8 h (fun x8 h => K .normal (fs [(8, x8)]) h) := by
  rw [execK_block (b := c12arrrlrb) (id := 0) (by kernel_rfl), ep12arrrlrb]
  rfl
noncomputable def p12arrrl (C : CF) (L : Nat) {β : Type} (x0 : Value) (x7 : Value) (x8 : Value) (h : H) (kn : Value → H → Option β) : Option β :=
  p12arrrll C L x0 x7 x8 h (fun x12 x13 x0 x7 x8 h => p12arrrlr C L x12 x13 x0 x7 x8 h kn)
theorem ep12arrrl (C : CF) (L : Nat) {β : Type} (x0 : Value) (x7 : Value) (x8 : Value) (h : H) (K : Ex → T Value → H → Option β) :
    execK Try.prog C L 0 31 [6] c12arrrl [8] [] (fs [(0, x0), (7, x7), (8, x8)]) h K =
      p12arrrl C L x0 x7 x8 h (fun x8 h => K .normal (fs [(8, x8)]) h) := by
  rw [execK_seq (a := c12arrrll) (b := c12arrrlr) (by kernel_rfl) (show live [6] c12arrrlr [8] [] = [12, 13, 0, 7, 8] by kernel_rfl), ep12arrrll]
  simp only [seqK, ep12arrrlr]
  rfl
noncomputable def c12arrrr : Code := cR c12arrr
noncomputable def p12arrrr (C : CF) (L : Nat) {β : Type} (x8 : Value) (h : H) (kr : Value → H → Option β) : Option β :=
  kr x8 h
theorem ep12arrrr (C : CF) (L : Nat) {β : Type} (x8 : Value) (h : H) (K : Ex → T Value → H → Option β) :
    execK Try.prog C L 0 31 [6] c12arrrr [6] [] (fs [(8, x8)]) h K =
      p12arrrr C L x8 h (fun x6 h => K .ret (fs [(6, x6)]) h) := by
  kernel_rfl
noncomputable def p12arrr (C : CF) (L : Nat) {β : Type} (x0 : Value) (x7 : Value) (x8 : Value) (h : H) (kr : Value → H → Option β) : Option β :=
  p12arrrl C L x0 x7 x8 h (fun x8 h => p12arrrr C L x8 h kr)
theorem ep12arrr (C : CF) (L : Nat) {β : Type} (x0 : Value) (x7 : Value) (x8 : Value) (h : H) (K : Ex → T Value → H → Option β) :
    execK Try.prog C L 0 31 [6] c12arrr [6] [] (fs [(0, x0), (7, x7), (8, x8)]) h K =
      p12arrr C L x0 x7 x8 h (fun x6 h => K .ret (fs [(6, x6)]) h) := by
  rw [execK_seq (a := c12arrrl) (b := c12arrrr) (by kernel_rfl) (show live [6] c12arrrr [6] [] = [8] by kernel_rfl), ep12arrrl]
  simp only [seqK, ep12arrrr]
  rfl
noncomputable def p12arr (C : CF) (L : Nat) {β : Type} (x0 : Value) (x7 : Value) (h : H) (kr : Value → H → Option β) : Option β :=
  p12arrl C L x0 x7 h (fun x0 x7 x8 h => p12arrr C L x0 x7 x8 h kr)
theorem ep12arr (C : CF) (L : Nat) {β : Type} (x0 : Value) (x7 : Value) (h : H) (K : Ex → T Value → H → Option β) :
    execK Try.prog C L 0 31 [6] c12arr [6] [] (fs [(0, x0), (7, x7)]) h K =
      p12arr C L x0 x7 h (fun x6 h => K .ret (fs [(6, x6)]) h) := by
  rw [execK_seq (a := c12arrl) (b := c12arrr) (by kernel_rfl) (show live [6] c12arrr [6] [] = [0, 7, 8] by kernel_rfl), ep12arrl]
  simp only [seqK, ep12arrr]
  rfl
noncomputable def p12ar (C : CF) (L : Nat) {β : Type} (x5 : Value) (x4 : Value) (x0 : Value) (h : H) (kr : Value → H → Option β) : Option β :=
  p12arl C L x5 x4 x0 h (fun x0 x7 h => p12arr C L x0 x7 h kr)
theorem ep12ar (C : CF) (L : Nat) {β : Type} (x5 : Value) (x4 : Value) (x0 : Value) (h : H) (K : Ex → T Value → H → Option β) :
    execK Try.prog C L 0 31 [6] c12ar [6] [] (fs [(5, x5), (4, x4), (0, x0)]) h K =
      p12ar C L x5 x4 x0 h (fun x6 h => K .ret (fs [(6, x6)]) h) := by
  rw [execK_seq (a := c12arl) (b := c12arr) (by kernel_rfl) (show live [6] c12arr [6] [] = [0, 7] by kernel_rfl), ep12arl]
  simp only [seqK, ep12arr]
  rfl
noncomputable def p12a (C : CF) (L : Nat) {β : Type} (x0 : Value) (x1 : Value) (x2 : Value) (h : H) (kr : Value → H → Option β) : Option β :=
  p12al C L x0 x1 x2 h (fun x5 x4 x0 h => p12ar C L x5 x4 x0 h kr)
theorem ep12a (C : CF) (L : Nat) {β : Type} (x0 : Value) (x1 : Value) (x2 : Value) (h : H) (K : Ex → T Value → H → Option β) :
    execK Try.prog C L 0 31 [6] c12a [6] [] (fs [(0, x0), (1, x1), (2, x2)]) h K =
      p12a C L x0 x1 x2 h (fun x6 h => K .ret (fs [(6, x6)]) h) := by
  rw [execK_seq (a := c12al) (b := c12ar) (by kernel_rfl) (show live [6] c12ar [6] [] = [5, 4, 0] by kernel_rfl), ep12al]
  simp only [seqK, ep12ar]
  rfl
noncomputable def F12 (C : CF) (L : Nat) (x0 : Value) (x1 : Value) (x2 : Value) (h : H) : Option (Value × H) :=
  p12a C L x0 x1 x2 h
    (fun x6 h => some (x6, h))
theorem F12eq (O : List FuncId) (hO : O.any (Nat.beq 12) = false) (n : Nat) (x0 : Value) (x1 : Value) (x2 : Value) (h : H) : callB Try.prog 0 O (n + 1) 12 [x0, x1, x2] h = F12 (callB Try.prog 0 O n) n x0 x1 x2 h := by
  rw [callB_eq hO (c := c12a) (nt := 31) (RR := [6]) (fr := (fs [(0, x0), (1, x1), (2, x2)])) Try.func12 (by kernel_rfl) (by kernel_rfl) (by kernel_rfl) (by kernel_rfl) (by kernel_rfl), ep12a]
  kernel_rfl

/-! F14: relayhouse/relayhouselaw17.copied -/
noncomputable def c14a : Code := (Try.f14.body).getD .skip
noncomputable def p14a (C : CF) (L : Nat) {β : Type} (x0 : Value) (h : H) (kr : Value → H → Option β) : Option β :=
  (A.box 35 x0 h).bind fun (t1, hq1) =>
  (A.box 35 Z36 hq1).bind fun (t2, hq2) =>
  (A.buildSlice 2 0 Z57L [] hq2).bind fun (t3, hq3) =>
  (A.fieldAddr 4 t1).bind fun t4 =>
  (A.fieldAddr 22 t4).bind fun t5 =>
  (A.load false 1 t5 hq3).bind fun t6 =>
  (A.append 2 24 t3 t6 hq3).bind fun (t7, hq4) =>
  (A.fieldAddr 4 t1).bind fun t8 =>
  (A.fieldAddr 22 t8).bind fun t9 =>
  (A.store 1 t9 t7 hq4).bind fun hq5 =>
  (A.load true 35 t1 hq5).bind fun t10 =>
  (A.store 35 t2 t10 hq5).bind fun hq6 =>
  kr t2 hq6
theorem ep14a (C : CF) (L : Nat) {β : Type} (x0 : Value) (h : H) (K : Ex → T Value → H → Option β) :
    execK Try.prog C L 0 11 [2] c14a [2] [] (fs [(0, x0)]) h K =
      p14a C L x0 h (fun x2 h => K .ret (fs [(2, x2)]) h) := by
  kernel_rfl
noncomputable def F14 (C : CF) (L : Nat) (x0 : Value) (h : H) : Option (Value × H) :=
  p14a C L x0 h
    (fun x2 h => (resC (A.load true 35 x2 h) (some [])).bind fun vs => some (packA vs, h))
theorem F14eq (O : List FuncId) (hO : O.any (Nat.beq 14) = false) (n : Nat) (x0 : Value) (h : H) : callB Try.prog 0 O (n + 1) 14 [x0] h = F14 (callB Try.prog 0 O n) n x0 h := by
  rw [callB_eq hO (c := c14a) (nt := 11) (RR := [2]) (fr := (fs [(0, x0)])) Try.func14 (by kernel_rfl) (by kernel_rfl) (by kernel_rfl) (by kernel_rfl) (by kernel_rfl), ep14a]
  kernel_rfl

/-! F19: (*relayhouse/record.Log).Len -/
noncomputable def c19a : Code := (Try.f19.body).getD .skip
noncomputable def p19a (C : CF) (L : Nat) {β : Type} (x0 : Value) (h : H) (kr : Value → H → Option β) : Option β :=
  (A.bin Try.prog .eql 25 x0 (.pointer none)).bind fun t4 =>
  toBK t4 fun b =>
  (bif b then
  kr (.int .i64 0) h
  else
  (A.nilCheck x0).bind fun t6 =>
  (A.fieldAddr 0 t6).bind fun t7 =>
  (A.load false 1 t7 h).bind fun t8 =>
  (A.lenS t8).bind fun t9 =>
  kr t9 h)
theorem ep19a (C : CF) (L : Nat) {β : Type} (x0 : Value) (h : H) (K : Ex → T Value → H → Option β) :
    execK Try.prog C L 0 10 [2] c19a [2] [] (fs [(0, x0)]) h K =
      p19a C L x0 h (fun x2 h => K .ret (fs [(2, x2)]) h) := by
  kernel_rfl
noncomputable def F19 (C : CF) (L : Nat) (x0 : Value) (h : H) : Option (Value × H) :=
  p19a C L x0 h
    (fun x2 h => some (x2, h))
theorem F19eq (O : List FuncId) (hO : O.any (Nat.beq 19) = false) (n : Nat) (x0 : Value) (h : H) : callB Try.prog 0 O (n + 1) 19 [x0] h = F19 (callB Try.prog 0 O n) n x0 h := by
  rw [callB_eq hO (c := c19a) (nt := 10) (RR := [2]) (fr := (fs [(0, x0)])) Try.func19 (by kernel_rfl) (by kernel_rfl) (by kernel_rfl) (by kernel_rfl) (by kernel_rfl), ep19a]
  kernel_rfl

/-! F23: (*relayhouse/record.Log).Add -/
noncomputable def c23a : Code := (Try.f23.body).getD .skip
noncomputable def p23a (C : CF) (L : Nat) {β : Type} (x0 : Value) (x1 : Value) (h : H) (kr : Value → H → Option β) : Option β :=
  (A.box 35 x1 h).bind fun (t3, hq1) =>
  (A.bin Try.prog .eql 25 x0 (.pointer none)).bind fun t6 =>
  toBK t6 fun b =>
  (bif b then
  kr (.int .i64 (-1)) hq1
  else
  (A.nilCheck x0).bind fun t9 =>
  (A.fieldAddr 0 t9).bind fun t10 =>
  (A.load false 1 t10 hq1).bind fun t11 =>
  (A.load true 35 t3 hq1).bind fun t12 =>
  (C 29 [t12] hq1).bind fun (t13, hq2) =>
  bif (chk ((A.load false 1 t10 hq2).bind fun v => some v) t11 && true) then
  (A.buildSlice 35 1 Z36L [(0, 35, t13)] hq2).bind fun (t14, hq3) =>
  (A.append 35 304 t11 t14 hq3).bind fun (t15, hq4) =>
  (A.nilCheck x0).bind fun t16 =>
  (A.fieldAddr 0 t16).bind fun t17 =>
  (A.store 1 t17 t15 hq4).bind fun hq5 =>
  (A.nilCheck x0).bind fun t19 =>
  (A.fieldAddr 0 t19).bind fun t20 =>
  (A.load false 1 t20 hq5).bind fun t21 =>
  (A.lenS t21).bind fun t22 =>
  (A.bin Try.prog .sub 3 t22 (.int .i64 1)).bind fun t23 =>
  kr t23 hq5
  else none)
theorem ep23a (C : CF) (L : Nat) {β : Type} (x0 : Value) (x1 : Value) (h : H) (K : Ex → T Value → H → Option β) :
    execK Try.prog C L 0 24 [4] c23a [4] [] (fs [(0, x0), (1, x1)]) h K =
      p23a C L x0 x1 h (fun x4 h => K .ret (fs [(4, x4)]) h) := by
  kernel_rfl
noncomputable def F23 (C : CF) (L : Nat) (x0 : Value) (x1 : Value) (h : H) : Option (Value × H) :=
  p23a C L x0 x1 h
    (fun x4 h => some (x4, h))
theorem F23eq (O : List FuncId) (hO : O.any (Nat.beq 23) = false) (n : Nat) (x0 : Value) (x1 : Value) (h : H) : callB Try.prog 0 O (n + 1) 23 [x0, x1] h = F23 (callB Try.prog 0 O n) n x0 x1 h := by
  rw [callB_eq hO (c := c23a) (nt := 24) (RR := [4]) (fr := (fs [(0, x0), (1, x1)])) Try.func23 (by kernel_rfl) (by kernel_rfl) (by kernel_rfl) (by kernel_rfl) (by kernel_rfl), ep23a]
  kernel_rfl

/-! F24: (*relayhouse/record.Log).Op -/
noncomputable def c24a : Code := (Try.f24.body).getD .skip
noncomputable def p24a (C : CF) (L : Nat) {β : Type} (x0 : Value) (h : H) (kr : Value → H → Option β) : Option β :=
  (A.bin Try.prog .eql 25 x0 (.pointer none)).bind fun t4 =>
  toBK t4 fun b =>
  (bif b then
  kr (.int .i64 0) h
  else
  (A.nilCheck x0).bind fun t6 =>
  (A.fieldAddr 1 t6).bind fun t7 =>
  (A.load false 1 t7 h).bind fun t8 =>
  (A.bin Try.prog .add 3 t8 (.int .i64 1)).bind fun t9 =>
  (A.nilCheck x0).bind fun t10 =>
  (A.fieldAddr 1 t10).bind fun t11 =>
  (A.store 1 t11 t9 h).bind fun hq1 =>
  (A.nilCheck x0).bind fun t13 =>
  (A.fieldAddr 1 t13).bind fun t14 =>
  (A.load false 1 t14 hq1).bind fun t15 =>
  kr t15 hq1)
theorem ep24a (C : CF) (L : Nat) {β : Type} (x0 : Value) (h : H) (K : Ex → T Value → H → Option β) :
    execK Try.prog C L 0 16 [2] c24a [2] [] (fs [(0, x0)]) h K =
      p24a C L x0 h (fun x2 h => K .ret (fs [(2, x2)]) h) := by
  kernel_rfl
noncomputable def F24 (C : CF) (L : Nat) (x0 : Value) (h : H) : Option (Value × H) :=
  p24a C L x0 h
    (fun x2 h => some (x2, h))
theorem F24eq (O : List FuncId) (hO : O.any (Nat.beq 24) = false) (n : Nat) (x0 : Value) (h : H) : callB Try.prog 0 O (n + 1) 24 [x0] h = F24 (callB Try.prog 0 O n) n x0 h := by
  rw [callB_eq hO (c := c24a) (nt := 16) (RR := [2]) (fr := (fs [(0, x0)])) Try.func24 (by kernel_rfl) (by kernel_rfl) (by kernel_rfl) (by kernel_rfl) (by kernel_rfl), ep24a]
  kernel_rfl

/-! F25: relayhouse/record.New -/
noncomputable def c25a : Code := (Try.f25.body).getD .skip
noncomputable def p25a (C : CF) (L : Nat) {β : Type} (h : H) (kr : Value → H → Option β) : Option β :=
  (A.build Z63L []).bind fun t1 =>
  (A.box 2 t1 h).bind fun (t2, hq1) =>
  kr t2 hq1
theorem ep25a (C : CF) (L : Nat) {β : Type} (h : H) (K : Ex → T Value → H → Option β) :
    execK Try.prog C L 0 3 [0] c25a [0] [] (fs []) h K =
      p25a C L h (fun x0 h => K .ret (fs [(0, x0)]) h) := by
  kernel_rfl
noncomputable def F25 (C : CF) (L : Nat) (h : H) : Option (Value × H) :=
  p25a C L h
    (fun x0 h => some (x0, h))
theorem F25eq (O : List FuncId) (hO : O.any (Nat.beq 25) = false) (n : Nat) (h : H) : callB Try.prog 0 O (n + 1) 25 [] h = F25 (callB Try.prog 0 O n) n h := by
  rw [callB_eq hO (c := c25a) (nt := 3) (RR := [0]) (fr := (fs [])) Try.func25 (by kernel_rfl) (by kernel_rfl) (by kernel_rfl) (by kernel_rfl) (by kernel_rfl), ep25a]
  kernel_rfl

/-! F27: (*relayhouse/record.Log).Of$1 -/
noncomputable def c27a : Code := (Try.f27.body).getD .skip
noncomputable def p27a (C : CF) (L : Nat) {β : Type} (x0 : Value) (x1 : Value) (x2 : Value) (h : H) (kr : Value → H → Option β) : Option β :=
  (A.box 35 x0 h).bind fun (t3, hq1) =>
  (A.fieldAddr 1 t3).bind fun t5 =>
  (A.load false 1 t5 hq1).bind fun t6 =>
  (A.load false 1 x1 hq1).bind fun t7 =>
  (A.bin Try.prog .eql 3 t6 t7).bind fun t8 =>
  toBK t8 fun b =>
  (bif b then
  (A.load false 1 x2 hq1).bind fun t10 =>
  (A.lenS t10).bind fun t11 =>
  (A.bin Try.prog .eql 3 t11 (.int .i64 0)).bind fun t12 =>
  toBK t12 fun bq1 =>
  (bif bq1 then
  kr (.bool true) hq1
  else
  (A.load false 1 x2 hq1).bind fun t14 =>
  (A.fieldAddr 0 t3).bind fun t15 =>
  (A.load false 1 t15 hq1).bind fun t16 =>
  (C 28 [t14, t16] hq1).bind fun (t17, hq2) =>
  toBK t17 fun bq2 =>
  kr (.bool bq2) hq2)
  else
  kr (.bool false) hq1)
theorem ep27a (C : CF) (L : Nat) {β : Type} (x0 : Value) (x1 : Value) (x2 : Value) (h : H) (K : Ex → T Value → H → Option β) :
    execK Try.prog C L 0 20 [4] c27a [4] [] (fs [(0, x0), (1, x1), (2, x2)]) h K =
      p27a C L x0 x1 x2 h (fun x4 h => K .ret (fs [(4, x4)]) h) := by
  kernel_rfl
noncomputable def F27 (C : CF) (L : Nat) (x0 : Value) (x1 : Value) (x2 : Value) (h : H) : Option (Value × H) :=
  p27a C L x0 x1 x2 h
    (fun x4 h => some (x4, h))
theorem F27eq (O : List FuncId) (hO : O.any (Nat.beq 27) = false) (n : Nat) (x0 : Value) (x1 : Value) (x2 : Value) (h : H) : callB Try.prog 0 O (n + 1) 27 [x0, x1, x2] h = F27 (callB Try.prog 0 O n) n x0 x1 x2 h := by
  rw [callB_eq hO (c := c27a) (nt := 20) (RR := [4]) (fr := (fs [(0, x0), (1, x1), (2, x2)])) Try.func27 (by kernel_rfl) (by kernel_rfl) (by kernel_rfl) (by kernel_rfl) (by kernel_rfl), ep27a]
  kernel_rfl

/-! F28: slices.Contains[[]byte,byte] -/
noncomputable def c28a : Code := (Try.f28.body).getD .skip
noncomputable def p28a (C : CF) (L : Nat) {β : Type} (x0 : Value) (x1 : Value) (h : H) (kr : Value → H → Option β) : Option β :=
  (C 32 [x0, x1] h).bind fun (t7, hq1) =>
  (A.bin Try.prog .geq 3 t7 (.int .i64 0)).bind fun t8 =>
  toBK t8 fun b =>
  kr (.bool b) hq1
theorem ep28a (C : CF) (L : Nat) {β : Type} (x0 : Value) (x1 : Value) (h : H) (K : Ex → T Value → H → Option β) :
    execK Try.prog C L 0 9 [4] c28a [4] [] (fs [(0, x0), (1, x1)]) h K =
      p28a C L x0 x1 h (fun x4 h => K .ret (fs [(4, x4)]) h) := by
  kernel_rfl
noncomputable def F28 (C : CF) (L : Nat) (x0 : Value) (x1 : Value) (h : H) : Option (Value × H) :=
  p28a C L x0 x1 h
    (fun x4 h => some (x4, h))
theorem F28eq (O : List FuncId) (hO : O.any (Nat.beq 28) = false) (n : Nat) (x0 : Value) (x1 : Value) (h : H) : callB Try.prog 0 O (n + 1) 28 [x0, x1] h = F28 (callB Try.prog 0 O n) n x0 x1 h := by
  rw [callB_eq hO (c := c28a) (nt := 9) (RR := [4]) (fr := (fs [(0, x0), (1, x1)])) Try.func28 (by kernel_rfl) (by kernel_rfl) (by kernel_rfl) (by kernel_rfl) (by kernel_rfl), ep28a]
  kernel_rfl

/-! F29: relayhouse/record.own -/
noncomputable def c29a : Code := (Try.f29.body).getD .skip
noncomputable def p29a (C : CF) (L : Nat) {β : Type} (x0 : Value) (h : H) (kr : Value → H → Option β) : Option β :=
  (A.box 35 x0 h).bind fun (t1, hq1) =>
  (A.box 35 Z36 hq1).bind fun (t2, hq2) =>
  (A.fieldAddr 4 t1).bind fun t3 =>
  (A.fieldAddr 22 t3).bind fun t4 =>
  (A.load false 1 t4 hq2).bind fun t5 =>
  (C 33 [t5] hq2).bind fun (t6, hq3) =>
  (A.fieldAddr 4 t1).bind fun t7 =>
  (A.fieldAddr 22 t7).bind fun t8 =>
  (A.store 1 t8 t6 hq3).bind fun hq4 =>
  (A.load true 35 t1 hq4).bind fun t9 =>
  (A.store 35 t2 t9 hq4).bind fun hq5 =>
  kr t2 hq5
theorem ep29a (C : CF) (L : Nat) {β : Type} (x0 : Value) (h : H) (K : Ex → T Value → H → Option β) :
    execK Try.prog C L 0 10 [2] c29a [2] [] (fs [(0, x0)]) h K =
      p29a C L x0 h (fun x2 h => K .ret (fs [(2, x2)]) h) := by
  kernel_rfl
noncomputable def F29 (C : CF) (L : Nat) (x0 : Value) (h : H) : Option (Value × H) :=
  p29a C L x0 h
    (fun x2 h => (resC (A.load true 35 x2 h) (some [])).bind fun vs => some (packA vs, h))
theorem F29eq (O : List FuncId) (hO : O.any (Nat.beq 29) = false) (n : Nat) (x0 : Value) (h : H) : callB Try.prog 0 O (n + 1) 29 [x0] h = F29 (callB Try.prog 0 O n) n x0 h := by
  rw [callB_eq hO (c := c29a) (nt := 10) (RR := [2]) (fr := (fs [(0, x0)])) Try.func29 (by kernel_rfl) (by kernel_rfl) (by kernel_rfl) (by kernel_rfl) (by kernel_rfl), ep29a]
  kernel_rfl

/-! F32: slices.Index[[]byte,byte] -/
noncomputable def c32a : Code := (Try.f32.body).getD .skip
noncomputable def c32al : Code := cL c32a
noncomputable def p32al (C : CF) (L : Nat) {β : Type} (x0 : Value) (x1 : Value) (h : H) (kn : Value → Value → H → Option β) : Option β :=
  kn x0 x1 h
theorem ep32al (C : CF) (L : Nat) {β : Type} (x0 : Value) (x1 : Value) (h : H) (K : Ex → T Value → H → Option β) :
    execK Try.prog C L 0 19 [4] c32al [0, 1] [] (fs [(0, x0), (1, x1)]) h K =
      p32al C L x0 x1 h (fun x0 x1 h => K .normal (fs [(0, x0), (1, x1)]) h) := by
  kernel_rfl
noncomputable def c32ar : Code := cR c32a
noncomputable def c32arl : Code := cL c32ar
noncomputable def c32arll : Code := cL c32arl
noncomputable def p32arll (C : CF) (L : Nat) {β : Type} (x0 : Value) (x1 : Value) (h : H) (kn : Value → Value → Value → Value → H → Option β) : Option β :=
  (A.lenS x0).bind fun t7 =>
  kn t7 (.int .i64 0) x0 x1 h
theorem ep32arll (C : CF) (L : Nat) {β : Type} (x0 : Value) (x1 : Value) (h : H) (K : Ex → T Value → H → Option β) :
    execK Try.prog C L 0 19 [4] c32arll [7, 8, 0, 1] [] (fs [(0, x0), (1, x1)]) h K =
      p32arll C L x0 x1 h (fun x7 x8 x0 x1 h => K .normal (fs [(7, x7), (8, x8), (0, x0), (1, x1)]) h) := by
  kernel_rfl
noncomputable def c32arlr : Code := cR c32arl
noncomputable def c32arlrb : Code := cL c32arlr
noncomputable def c32arlrbo : Code := cL c32arlrb
noncomputable def p32arlrbo (C : CF) (L : Nat) {β : Type} (x7 : Value) (x8 : Value) (x0 : Value) (x1 : Value) (h : H) (kr : Value → H → Option β) (kn : Value → Value → Value → Value → H → Option β) (kx0 : H → Option β) : Option β :=
  (A.bin Try.prog .lss 3 x8 x7).bind fun t9 =>
  condV t9 (
  (A.idxS 1 x0 x8).bind fun t14 =>
  (A.load false 1 t14 h).bind fun t15 =>
  (A.bin Try.prog .eql 5 x1 t15).bind fun t16 =>
  toBK t16 fun b =>
  (bif b then
  kr x8 h
  else
  (A.bin Try.prog .add 3 x8 (.int .i64 1)).bind fun t18 =>
  kn x7 t18 x0 x1 h)) (
  kx0 h)
theorem ep32arlrbo (C : CF) (L : Nat) {β : Type} (x7 : Value) (x8 : Value) (x0 : Value) (x1 : Value) (h : H) (K : Ex → T Value → H → Option β) :
    execK Try.prog C L 0 19 [4] c32arlrbo [7, 8, 0, 1] [(0, [])] (fs [(7, x7), (8, x8), (0, x0), (1, x1)]) h K =
      p32arlrbo C L x7 x8 x0 x1 h (fun x4 h => K .ret (fs [(4, x4)]) h) (fun x7 x8 x0 x1 h => K .normal (fs [(7, x7), (8, x8), (0, x0), (1, x1)]) h) (fun h => K (.exit 0) (fs []) h) := by
  kernel_rfl
noncomputable def p32arlrbw (C : CF) (L : Nat) {β : Type} (kr : Value → H → Option β) (kx0 : H → Option β) : Nat → Value → Value → Value → Value → H → Option β
  | 0, _, _, _, _, _ => none
  | n + 1, x7, x8, x0, x1, h => p32arlrbo C L x7 x8 x0 x1 h kr (fun x7 x8 x0 x1 h => p32arlrbw C L kr kx0 n x7 x8 x0 x1 h) kx0
theorem ep32arlrbw (C : CF) (L : Nat) {β : Type} (K : Ex → T Value → H → Option β) : ∀ (n : Nat) (x7 : Value) (x8 : Value) (x0 : Value) (x1 : Value) (h : H),
    loopK (fun fr h K => execK Try.prog C L 0 19 [4] c32arlrbo [7, 8, 0, 1] [(0, [])] fr h K) n (fs [(7, x7), (8, x8), (0, x0), (1, x1)]) h K =
      p32arlrbw C L (fun x4 h => K .ret (fs [(4, x4)]) h) (fun h => K (.exit 0) (fs []) h) n x7 x8 x0 x1 h := by
  intro n
  induction n with
  | zero => intros; rfl
  | succ n ih =>
    intros
    simp only [loopK]
    rw [ep32arlrbo]
    simp only [seqK, ih]
    rfl
noncomputable def p32arlrb (C : CF) (L : Nat) {β : Type} (x7 : Value) (x8 : Value) (x0 : Value) (x1 : Value) (h : H) (kr : Value → H → Option β) (kx0 : H → Option β) : Option β :=
  p32arlrbw C L kr kx0 L x7 x8 x0 x1 h
theorem ep32arlrb (C : CF) (L : Nat) {β : Type} (x7 : Value) (x8 : Value) (x0 : Value) (x1 : Value) (h : H) (K : Ex → T Value → H → Option β) :
    execK Try.prog C L 0 19 [4] c32arlrb [] [(0, [])] (fs [(7, x7), (8, x8), (0, x0), (1, x1)]) h K =
      p32arlrb C L x7 x8 x0 x1 h (fun x4 h => K .ret (fs [(4, x4)]) h) (fun h => K (.exit 0) (fs []) h) := by
  rw [execK_loop (b := c32arlrbo) (fr1 := (fs [(7, x7), (8, x8), (0, x0), (1, x1)])) (by kernel_rfl) (show live [4] c32arlrbo [] [(0, [])] = [7, 8, 0, 1] by kernel_rfl) (by kernel_rfl), ep32arlrbw]
  rfl
noncomputable def p32arlr (C : CF) (L : Nat) {β : Type} (x7 : Value) (x8 : Value) (x0 : Value) (x1 : Value) (h : H) (kr : Value → H → Option β) (kn : H → Option β) : Option β :=
  p32arlrb C L x7 x8 x0 x1 h kr kn
theorem ep32arlr (C : CF) (L : Nat) {β : Type} (x7 : Value) (x8 : Value) (x0 : Value) (x1 : Value) (h : H) (K : Ex → T Value → H → Option β) :
    execK Try.prog C L 0 19 [4] c32arlr [] [] (fs [(7, x7), (8, x8), (0, x0), (1, x1)]) h K =
      p32arlr C L x7 x8 x0 x1 h (fun x4 h => K .ret (fs [(4, x4)]) h) (fun h => K .normal (fs []) h) := by
  rw [execK_block (b := c32arlrb) (id := 0) (by kernel_rfl), ep32arlrb]
  rfl
noncomputable def p32arl (C : CF) (L : Nat) {β : Type} (x0 : Value) (x1 : Value) (h : H) (kr : Value → H → Option β) (kn : H → Option β) : Option β :=
  p32arll C L x0 x1 h (fun x7 x8 x0 x1 h => p32arlr C L x7 x8 x0 x1 h kr kn)
theorem ep32arl (C : CF) (L : Nat) {β : Type} (x0 : Value) (x1 : Value) (h : H) (K : Ex → T Value → H → Option β) :
    execK Try.prog C L 0 19 [4] c32arl [] [] (fs [(0, x0), (1, x1)]) h K =
      p32arl C L x0 x1 h (fun x4 h => K .ret (fs [(4, x4)]) h) (fun h => K .normal (fs []) h) := by
  rw [execK_seq (a := c32arll) (b := c32arlr) (by kernel_rfl) (show live [4] c32arlr [] [] = [7, 8, 0, 1] by kernel_rfl), ep32arll]
  simp only [seqK, ep32arlr]
  rfl
noncomputable def c32arr : Code := cR c32ar
noncomputable def p32arr (C : CF) (L : Nat) {β : Type} (h : H) (kr : Value → H → Option β) : Option β :=
  kr (.int .i64 (-1)) h
theorem ep32arr (C : CF) (L : Nat) {β : Type} (h : H) (K : Ex → T Value → H → Option β) :
    execK Try.prog C L 0 19 [4] c32arr [4] [] (fs []) h K =
      p32arr C L h (fun x4 h => K .ret (fs [(4, x4)]) h) := by
  kernel_rfl
noncomputable def p32ar (C : CF) (L : Nat) {β : Type} (x0 : Value) (x1 : Value) (h : H) (kr : Value → H → Option β) : Option β :=
  p32arl C L x0 x1 h kr (fun h => p32arr C L h kr)
theorem ep32ar (C : CF) (L : Nat) {β : Type} (x0 : Value) (x1 : Value) (h : H) (K : Ex → T Value → H → Option β) :
    execK Try.prog C L 0 19 [4] c32ar [4] [] (fs [(0, x0), (1, x1)]) h K =
      p32ar C L x0 x1 h (fun x4 h => K .ret (fs [(4, x4)]) h) := by
  rw [execK_seq (a := c32arl) (b := c32arr) (by kernel_rfl) (show live [4] c32arr [4] [] = [] by kernel_rfl), ep32arl]
  simp only [seqK, ep32arr]
  rfl
noncomputable def p32a (C : CF) (L : Nat) {β : Type} (x0 : Value) (x1 : Value) (h : H) (kr : Value → H → Option β) : Option β :=
  p32al C L x0 x1 h (fun x0 x1 h => p32ar C L x0 x1 h kr)
theorem ep32a (C : CF) (L : Nat) {β : Type} (x0 : Value) (x1 : Value) (h : H) (K : Ex → T Value → H → Option β) :
    execK Try.prog C L 0 19 [4] c32a [4] [] (fs [(0, x0), (1, x1)]) h K =
      p32a C L x0 x1 h (fun x4 h => K .ret (fs [(4, x4)]) h) := by
  rw [execK_seq (a := c32al) (b := c32ar) (by kernel_rfl) (show live [4] c32ar [4] [] = [0, 1] by kernel_rfl), ep32al]
  simp only [seqK, ep32ar]
  rfl
noncomputable def F32 (C : CF) (L : Nat) (x0 : Value) (x1 : Value) (h : H) : Option (Value × H) :=
  p32a C L x0 x1 h
    (fun x4 h => some (x4, h))
theorem F32eq (O : List FuncId) (hO : O.any (Nat.beq 32) = false) (n : Nat) (x0 : Value) (x1 : Value) (h : H) : callB Try.prog 0 O (n + 1) 32 [x0, x1] h = F32 (callB Try.prog 0 O n) n x0 x1 h := by
  rw [callB_eq hO (c := c32a) (nt := 19) (RR := [4]) (fr := (fs [(0, x0), (1, x1)])) Try.func32 (by kernel_rfl) (by kernel_rfl) (by kernel_rfl) (by kernel_rfl) (by kernel_rfl), ep32a]
  kernel_rfl

/-! F33: slices.Clone[[]relayhouse/api.Sub,relayhouse/api.Sub] -/
noncomputable def c33a : Code := (Try.f33.body).getD .skip
noncomputable def p33a (C : CF) (L : Nat) {β : Type} (x0 : Value) (h : H) (kr : Value → H → Option β) : Option β :=
  (A.bin Try.prog .eql 32 x0 (.slice none 0 0)).bind fun t4 =>
  toBK t4 fun b =>
  (bif b then
  kr (.slice none 0 0) h
  else
  (A.buildSlice 2 0 Z57L [] h).bind fun (t5, hq1) =>
  (A.append 2 24 t5 x0 hq1).bind fun (t7, hq2) =>
  kr t7 hq2)
theorem ep33a (C : CF) (L : Nat) {β : Type} (x0 : Value) (h : H) (K : Ex → T Value → H → Option β) :
    execK Try.prog C L 0 8 [2] c33a [2] [] (fs [(0, x0)]) h K =
      p33a C L x0 h (fun x2 h => K .ret (fs [(2, x2)]) h) := by
  kernel_rfl
noncomputable def F33 (C : CF) (L : Nat) (x0 : Value) (h : H) : Option (Value × H) :=
  p33a C L x0 h
    (fun x2 h => some (x2, h))
theorem F33eq (O : List FuncId) (hO : O.any (Nat.beq 33) = false) (n : Nat) (x0 : Value) (h : H) : callB Try.prog 0 O (n + 1) 33 [x0] h = F33 (callB Try.prog 0 O n) n x0 h := by
  rw [callB_eq hO (c := c33a) (nt := 8) (RR := [2]) (fr := (fs [(0, x0)])) Try.func33 (by kernel_rfl) (by kernel_rfl) (by kernel_rfl) (by kernel_rfl) (by kernel_rfl), ep33a]
  kernel_rfl

end Go.Proofs.Ytlhppeikbgolbaa.RecD
