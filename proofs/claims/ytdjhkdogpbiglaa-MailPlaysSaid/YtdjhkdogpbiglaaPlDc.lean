import Derived.Test.YtdjhkdogpbiglaaProg
import Derived.Test.YtdjhkdogpbiglaaAmDec
set_option linter.unusedVariables false
set_option maxRecDepth 100000
namespace Go.Proofs.Ytdjhkdogpbiglaa.MailD3
open Go Go.AM
noncomputable def Z31 : Value := (.agg ⟨[(.int .u8 0), (.int .i64 0), (.int .i64 0), (.int .i64 0), (.slice none 0 0)]⟩)
noncomputable def Z31L : List Value := [(.int .u8 0), (.int .i64 0), (.int .i64 0), (.int .i64 0), (.slice none 0 0)]
noncomputable def Z54L : List Value := [(.int .i64 0), (.int .i64 0), (.slice none 0 0)]
noncomputable def Z29L : List Value := [(.slice none 0 0)]
noncomputable def Z60L : List Value := [(.int .i64 0), (.int .i64 0), (.int .i64 0), (.slice none 0 0)]
noncomputable def Z57L : List Value := [(.pointer none)]
noncomputable def c3a : Code := (Try.f3.body).getD .skip
noncomputable def c3al : Code := cL c3a
noncomputable def p3al (C : CF) (L : Nat) {β : Type} (x0 x1 x2 x3 x4 : Value) (h : H) (kn : Value → Value → Value → Value → Value → H → Option β) : Option β :=
  kn x0 x1 x4 x3 x2 h
theorem ep3al (C : CF) (L : Nat) {β : Type} (x0 x1 x2 x3 x4 : Value) (h : H) (K : Ex → T Value → H → Option β) :
    execK Try.prog C L 0 206 [10] c3al [0, 1, 4, 3, 2] [] (fs [(0, x0), (1, x1), (2, x2), (3, x3), (4, x4)]) h K =
      p3al C L x0 x1 x2 x3 x4 h (fun x0 x1 x4 x3 x2 h => K .normal (fs [(0, x0), (1, x1), (4, x4), (3, x3), (2, x2)]) h) := by
  kernel_rfl
noncomputable def c3ar : Code := cR c3a
noncomputable def c3arl : Code := cL c3ar
noncomputable def p3arl (C : CF) (L : Nat) {β : Type} (x0 x1 x4 x3 x2 : Value) (h : H) (kr : Value → H → Option β) (kn : Value → Value → Value → Value → Value → H → Option β) : Option β :=
  bnd2 (C 8 [x2] h) fun t21 hq1 =>
  toBK t21 fun b =>
  (bif b then
  bnd2 (C 9 [] hq1) fun t22 hq2 =>
  toBK t22 fun bq1 =>
  kr (.bool bq1) hq2
  else
  kn x0 x1 x4 x3 x2 hq1)
theorem ep3arl (C : CF) (L : Nat) {β : Type} (x0 x1 x4 x3 x2 : Value) (h : H) (K : Ex → T Value → H → Option β) :
    execK Try.prog C L 0 206 [10] c3arl [0, 1, 4, 3, 2] [] (fs [(0, x0), (1, x1), (4, x4), (3, x3), (2, x2)]) h K =
      p3arl C L x0 x1 x4 x3 x2 h (fun x10 h => K .ret (fs [(10, x10)]) h) (fun x0 x1 x4 x3 x2 h => K .normal (fs [(0, x0), (1, x1), (4, x4), (3, x3), (2, x2)]) h) := by
  kernel_rfl
noncomputable def c3arr : Code := cR c3ar
noncomputable def c3arrl : Code := cL c3arr
noncomputable def p3arrl (C : CF) (L : Nat) {β : Type} (x0 x1 x4 x3 x2 : Value) (h : H) (kn : Value → Value → Value → Value → Value → H → Option β) : Option β :=
  bnd2 (C 10 [x0, x1] h) fun t25 hq1 =>
  bnd2 (C 11 [x0, x1] hq1) fun t28 hq2 =>
  kn t28 t25 x4 x3 x2 hq2
theorem ep3arrl (C : CF) (L : Nat) {β : Type} (x0 x1 x4 x3 x2 : Value) (h : H) (K : Ex → T Value → H → Option β) :
    execK Try.prog C L 0 206 [10] c3arrl [12, 11, 4, 3, 2] [] (fs [(0, x0), (1, x1), (4, x4), (3, x3), (2, x2)]) h K =
      p3arrl C L x0 x1 x4 x3 x2 h (fun x12 x11 x4 x3 x2 h => K .normal (fs [(12, x12), (11, x11), (4, x4), (3, x3), (2, x2)]) h) := by
  kernel_rfl
noncomputable def c3arrr : Code := cR c3arr
noncomputable def c3arrrl : Code := cL c3arrr
noncomputable def c3arrrll : Code := cL c3arrrl
noncomputable def p3arrrll (C : CF) (L : Nat) {β : Type} (x12 x11 x4 x3 x2 : Value) (h : H) (kn : Value → Value → Value → Value → Value → Value → H → Option β) : Option β :=
  bnd (A.bin Try.prog .eql 25 x11 (.pointer none)) fun t30 =>
  toBK t30 fun b =>
  (bif b then
  kn (.bool true) x12 x11 x4 x3 x2 h
  else
  bnd (A.bin Try.prog .eql 27 x12 (.pointer none)) fun t33 =>
  toBK t33 fun bq1 =>
  kn (.bool bq1) x12 x11 x4 x3 x2 h)
theorem ep3arrrll (C : CF) (L : Nat) {β : Type} (x12 x11 x4 x3 x2 : Value) (h : H) (K : Ex → T Value → H → Option β) :
    execK Try.prog C L 0 206 [10] c3arrrll [34, 12, 11, 4, 3, 2] [] (fs [(12, x12), (11, x11), (4, x4), (3, x3), (2, x2)]) h K =
      p3arrrll C L x12 x11 x4 x3 x2 h (fun x34 x12 x11 x4 x3 x2 h => K .normal (fs [(34, x34), (12, x12), (11, x11), (4, x4), (3, x3), (2, x2)]) h) := by
  kernel_rfl
noncomputable def c3arrrlr : Code := cR c3arrrl
noncomputable def p3arrrlr (C : CF) (L : Nat) {β : Type} (x34 x12 x11 x4 x3 x2 : Value) (h : H) (kr : Value → H → Option β) (kn : Value → Value → Value → Value → Value → H → Option β) : Option β :=
  condV x34 (
  bnd (A.bin Try.prog .eql 25 x11 (.pointer none)) fun t36 =>
  toBK t36 fun b =>
  (bif b then
  bnd (A.bin Try.prog .eql 27 x12 (.pointer none)) fun t39 =>
  toBK t39 fun bq1 =>
  (bif bq1 then
  bnd2 (C 9 [] h) fun t42 hq1 =>
  toBK t42 fun bq2 =>
  kr (.bool bq2) hq1
  else
  kr (.bool false) h)
  else
  kr (.bool false) h)) (
  kn x12 x11 x4 x3 x2 h)
theorem ep3arrrlr (C : CF) (L : Nat) {β : Type} (x34 x12 x11 x4 x3 x2 : Value) (h : H) (K : Ex → T Value → H → Option β) :
    execK Try.prog C L 0 206 [10] c3arrrlr [12, 11, 4, 3, 2] [] (fs [(34, x34), (12, x12), (11, x11), (4, x4), (3, x3), (2, x2)]) h K =
      p3arrrlr C L x34 x12 x11 x4 x3 x2 h (fun x10 h => K .ret (fs [(10, x10)]) h) (fun x12 x11 x4 x3 x2 h => K .normal (fs [(12, x12), (11, x11), (4, x4), (3, x3), (2, x2)]) h) := by
  kernel_rfl
noncomputable def p3arrrl (C : CF) (L : Nat) {β : Type} (x12 x11 x4 x3 x2 : Value) (h : H) (kr : Value → H → Option β) (kn : Value → Value → Value → Value → Value → H → Option β) : Option β :=
  p3arrrll C L x12 x11 x4 x3 x2 h (fun x34 x12 x11 x4 x3 x2 h => p3arrrlr C L x34 x12 x11 x4 x3 x2 h kr kn)
theorem ep3arrrl (C : CF) (L : Nat) {β : Type} (x12 x11 x4 x3 x2 : Value) (h : H) (K : Ex → T Value → H → Option β) :
    execK Try.prog C L 0 206 [10] c3arrrl [12, 11, 4, 3, 2] [] (fs [(12, x12), (11, x11), (4, x4), (3, x3), (2, x2)]) h K =
      p3arrrl C L x12 x11 x4 x3 x2 h (fun x10 h => K .ret (fs [(10, x10)]) h) (fun x12 x11 x4 x3 x2 h => K .normal (fs [(12, x12), (11, x11), (4, x4), (3, x3), (2, x2)]) h) := by
  rw [execK_seq (a := c3arrrll) (b := c3arrrlr) (by kernel_rfl) (show live [10] c3arrrlr [12, 11, 4, 3, 2] [] = [34, 12, 11, 4, 3, 2] by kernel_rfl), ep3arrrll]
  unfold p3arrrl
  exact (congrArg (p3arrrll C L x12 x11 x4 x3 x2 h) (funext fun x34 => funext fun x12 => funext fun x11 => funext fun x4 => funext fun x3 => funext fun x2 => funext fun h => (seqK_n _ _ _).trans (ep3arrrlr C L x34 x12 x11 x4 x3 x2 h K)))
noncomputable def c3arrrr : Code := cR c3arrr
noncomputable def c3arrrrl : Code := cL c3arrrr
noncomputable def c3arrrrll : Code := cL c3arrrrl
noncomputable def p3arrrrll (C : CF) (L : Nat) {β : Type} (x12 x11 x4 x3 x2 : Value) (h : H) (kn : Value → Value → Value → Value → Value → Value → H → Option β) : Option β :=
  kn (.int .i64 0) x12 x11 x4 x3 x2 h
theorem ep3arrrrll (C : CF) (L : Nat) {β : Type} (x12 x11 x4 x3 x2 : Value) (h : H) (K : Ex → T Value → H → Option β) :
    execK Try.prog C L 0 206 [10] c3arrrrll [13, 12, 11, 4, 3, 2] [] (fs [(12, x12), (11, x11), (4, x4), (3, x3), (2, x2)]) h K =
      p3arrrrll C L x12 x11 x4 x3 x2 h (fun x13 x12 x11 x4 x3 x2 h => K .normal (fs [(13, x13), (12, x12), (11, x11), (4, x4), (3, x3), (2, x2)]) h) := by
  kernel_rfl
noncomputable def c3arrrrlr : Code := cR c3arrrrl
noncomputable def c3arrrrlrb : Code := cL c3arrrrlr
noncomputable def c3arrrrlrbo : Code := cL c3arrrrlrb
noncomputable def c3arrrrlrbol : Code := cL c3arrrrlrbo
noncomputable def p3arrrrlrbol (C : CF) (L : Nat) {β : Type} (x13 x12 x11 x4 x3 x2 : Value) (h : H) (kn : Value → Value → Value → Value → Value → Value → H → Option β) (kx0 : H → Option β) : Option β :=
  bnd (A.lenS x2) fun t46 =>
  bnd (A.bin Try.prog .lss 3 x13 t46) fun t47 =>
  toBK t47 fun b =>
  (bif b then
  kn x13 x12 x11 x4 x3 x2 h
  else
  kx0 h)
theorem ep3arrrrlrbol (C : CF) (L : Nat) {β : Type} (x13 x12 x11 x4 x3 x2 : Value) (h : H) (K : Ex → T Value → H → Option β) :
    execK Try.prog C L 0 206 [10] c3arrrrlrbol [13, 12, 11, 4, 3, 2] [(0, [])] (fs [(13, x13), (12, x12), (11, x11), (4, x4), (3, x3), (2, x2)]) h K =
      p3arrrrlrbol C L x13 x12 x11 x4 x3 x2 h (fun x13 x12 x11 x4 x3 x2 h => K .normal (fs [(13, x13), (12, x12), (11, x11), (4, x4), (3, x3), (2, x2)]) h) (fun h => K (.exit 0) (fs []) h) := by
  kernel_rfl
noncomputable def c3arrrrlrbor : Code := cR c3arrrrlrbo
noncomputable def c3arrrrlrborl : Code := cL c3arrrrlrbor
noncomputable def c3arrrrlrborlb : Code := cL c3arrrrlrborl
noncomputable def c3arrrrlrborlbl : Code := cL c3arrrrlrborlb
noncomputable def p3arrrrlrborlbl (C : CF) (L : Nat) {β : Type} (x13 x12 x11 x4 x3 x2 : Value) (h : H) (kn : Value → Value → Value → Value → Value → Value → Value → H → Option β) : Option β :=
  bnd (A.idxS 5 x2 x13) fun t52 =>
  bnd (A.load true 5 t52 h) fun t53 =>
  bnd2 (A.box 5 Z31 h) fun t14 hq1 =>
  bnd (A.store 5 t14 t53 hq1) fun hq2 =>
  kn t14 x13 x12 x11 x4 x3 x2 hq2
theorem ep3arrrrlrborlbl (C : CF) (L : Nat) {β : Type} (x13 x12 x11 x4 x3 x2 : Value) (h : H) (K : Ex → T Value → H → Option β) :
    execK Try.prog C L 0 206 [10] c3arrrrlrborlbl [14, 13, 12, 11, 4, 3, 2] [(1, [13, 12, 11, 4, 3, 2]), (0, [])] (fs [(13, x13), (12, x12), (11, x11), (4, x4), (3, x3), (2, x2)]) h K =
      p3arrrrlrborlbl C L x13 x12 x11 x4 x3 x2 h (fun x14 x13 x12 x11 x4 x3 x2 h => K .normal (fs [(14, x14), (13, x13), (12, x12), (11, x11), (4, x4), (3, x3), (2, x2)]) h) := by
  kernel_rfl
noncomputable def c3arrrrlrborlbr : Code := cR c3arrrrlrborlb
noncomputable def c3arrrrlrborlbrl : Code := cL c3arrrrlrborlbr
noncomputable def p3arrrrlrborlbrl (C : CF) (L : Nat) {β : Type} (x14 x13 x12 x11 x4 x3 x2 : Value) (h : H) (kn : Value → Value → Value → Value → Value → Value → Value → Value → Value → H → Option β) : Option β :=
  kn (.slice none 0 0) x14 (.slice none 0 0) x13 x12 x11 x4 x3 x2 h
theorem ep3arrrrlrborlbrl (C : CF) (L : Nat) {β : Type} (x14 x13 x12 x11 x4 x3 x2 : Value) (h : H) (K : Ex → T Value → H → Option β) :
    execK Try.prog C L 0 206 [10] c3arrrrlrborlbrl [16, 14, 15, 13, 12, 11, 4, 3, 2] [(1, [13, 12, 11, 4, 3, 2]), (0, [])] (fs [(14, x14), (13, x13), (12, x12), (11, x11), (4, x4), (3, x3), (2, x2)]) h K =
      p3arrrrlrborlbrl C L x14 x13 x12 x11 x4 x3 x2 h (fun x16 x14 x15 x13 x12 x11 x4 x3 x2 h => K .normal (fs [(16, x16), (14, x14), (15, x15), (13, x13), (12, x12), (11, x11), (4, x4), (3, x3), (2, x2)]) h) := by
  kernel_rfl
noncomputable def c3arrrrlrborlbrr : Code := cR c3arrrrlrborlbr
noncomputable def c3arrrrlrborlbrrl : Code := cL c3arrrrlrborlbrr
noncomputable def p3arrrrlrborlbrrl (C : CF) (L : Nat) {β : Type} (x16 x14 x15 x13 x12 x11 x4 x3 x2 : Value) (h : H) (kn : Value → Value → Value → Value → Value → Value → Value → Value → Value → H → Option β) : Option β :=
  kn x16 x14 x15 x13 x12 x11 x4 x3 x2 h
theorem ep3arrrrlrborlbrrl (C : CF) (L : Nat) {β : Type} (x16 x14 x15 x13 x12 x11 x4 x3 x2 : Value) (h : H) (K : Ex → T Value → H → Option β) :
    execK Try.prog C L 0 206 [10] c3arrrrlrborlbrrl [16, 14, 15, 13, 12, 11, 4, 3, 2] [(1, [13, 12, 11, 4, 3, 2]), (0, [])] (fs [(16, x16), (14, x14), (15, x15), (13, x13), (12, x12), (11, x11), (4, x4), (3, x3), (2, x2)]) h K =
      p3arrrrlrborlbrrl C L x16 x14 x15 x13 x12 x11 x4 x3 x2 h (fun x16 x14 x15 x13 x12 x11 x4 x3 x2 h => K .normal (fs [(16, x16), (14, x14), (15, x15), (13, x13), (12, x12), (11, x11), (4, x4), (3, x3), (2, x2)]) h) := by
  kernel_rfl
noncomputable def c3arrrrlrborlbrrr : Code := cR c3arrrrlrborlbrr
noncomputable def c3arrrrlrborlbrrrl : Code := cL c3arrrrlrborlbrrr
noncomputable def c3arrrrlrborlbrrrll : Code := cL c3arrrrlrborlbrrrl
noncomputable def p3arrrrlrborlbrrrll (C : CF) (L : Nat) {β : Type} (x16 x14 x15 x13 x12 x11 x4 x3 x2 : Value) (h : H) (kn : Value → Value → Value → Value → Value → Value → Value → Value → Value → Value → H → Option β) : Option β :=
  bnd (A.fieldAddr 0 x14) fun t54 =>
  bnd (A.load false 1 t54 h) fun t55 =>
  bnd (A.bin Try.prog .rem 5 t55 (.int .u8 8)) fun t56 =>
  kn t56 x16 x14 x15 x13 x12 x11 x4 x3 x2 h
theorem ep3arrrrlrborlbrrrll (C : CF) (L : Nat) {β : Type} (x16 x14 x15 x13 x12 x11 x4 x3 x2 : Value) (h : H) (K : Ex → T Value → H → Option β) :
    execK Try.prog C L 0 206 [10] c3arrrrlrborlbrrrll [56, 16, 14, 15, 13, 12, 11, 4, 3, 2] [(1, [13, 12, 11, 4, 3, 2]), (0, [])] (fs [(16, x16), (14, x14), (15, x15), (13, x13), (12, x12), (11, x11), (4, x4), (3, x3), (2, x2)]) h K =
      p3arrrrlrborlbrrrll C L x16 x14 x15 x13 x12 x11 x4 x3 x2 h (fun x56 x16 x14 x15 x13 x12 x11 x4 x3 x2 h => K .normal (fs [(56, x56), (16, x16), (14, x14), (15, x15), (13, x13), (12, x12), (11, x11), (4, x4), (3, x3), (2, x2)]) h) := by
  kernel_rfl
noncomputable def c3arrrrlrborlbrrrlr : Code := cR c3arrrrlrborlbrrrl
noncomputable def c3arrrrlrborlbrrrlrb : Code := cL c3arrrrlrborlbrrrlr
noncomputable def c3arrrrlrborlbrrrlrbl : Code := cL c3arrrrlrborlbrrrlrb
noncomputable def p3arrrrlrborlbrrrlrbl (C : CF) (L : Nat) {β : Type} (x56 x16 x14 x15 x13 x12 x11 x4 x3 x2 : Value) (h : H) (kn : Value → Value → Value → Value → Value → Value → Value → Value → Value → Value → Value → H → Option β) : Option β :=
  bnd (A.bin Try.prog .eql 5 x56 (.int .u8 5)) fun t87 =>
  toBK t87 fun b =>
  (bif b then
  kn (.bool b) x56 x16 x14 x15 x13 x12 x11 x4 x3 x2 h
  else
  bnd (A.bin Try.prog .eql 5 x56 (.int .u8 6)) fun t88 =>
  toBK t88 fun bq1 =>
  kn (.bool bq1) x56 x16 x14 x15 x13 x12 x11 x4 x3 x2 h)
theorem ep3arrrrlrborlbrrrlrbl (C : CF) (L : Nat) {β : Type} (x56 x16 x14 x15 x13 x12 x11 x4 x3 x2 : Value) (h : H) (K : Ex → T Value → H → Option β) :
    execK Try.prog C L 0 206 [10] c3arrrrlrborlbrrrlrbl [86, 56, 16, 14, 15, 13, 12, 11, 4, 3, 2] [(2, [17, 18, 16, 14, 15, 13, 12, 11, 4, 3, 2]), (1, [13, 12, 11, 4, 3, 2]), (0, [])] (fs [(56, x56), (16, x16), (14, x14), (15, x15), (13, x13), (12, x12), (11, x11), (4, x4), (3, x3), (2, x2)]) h K =
      p3arrrrlrborlbrrrlrbl C L x56 x16 x14 x15 x13 x12 x11 x4 x3 x2 h (fun x86 x56 x16 x14 x15 x13 x12 x11 x4 x3 x2 h => K .normal (fs [(86, x86), (56, x56), (16, x16), (14, x14), (15, x15), (13, x13), (12, x12), (11, x11), (4, x4), (3, x3), (2, x2)]) h) := by
  kernel_rfl
noncomputable def c3arrrrlrborlbrrrlrbr : Code := cR c3arrrrlrborlbrrrlrb
noncomputable def c3arrrrlrborlbrrrlrbrt : Code := cL c3arrrrlrborlbrrrlrbr
noncomputable def p3arrrrlrborlbrrrlrbrt (C : CF) (L : Nat) {β : Type} (x86 x56 x16 x14 x15 x13 x12 x11 x4 x3 x2 : Value) (h : H) (kn : Value → Value → Value → Value → Value → Value → Value → Value → Value → Value → Value → H → Option β) : Option β :=
  bnd (A.fieldAddr 1 x14) fun t91 =>
  bnd (A.load false 1 t91 h) fun t92 =>
  bnd (A.fieldAddr 2 x14) fun t93 =>
  bnd (A.load false 1 t93 h) fun t94 =>
  bnd (A.fieldAddr 3 x14) fun t95 =>
  bnd (A.load false 1 t95 h) fun t96 =>
  bnd2 (C 12 [x11, t92, t94, t96] h) fun t97 hq1 =>
  bnd (A.extract 0 t97) fun t98 =>
  bnd (A.extract 1 t97) fun t99 =>
  toBK t99 fun b =>
  bnd (A.fieldAddr 1 x14) fun t102 =>
  bnd (A.load false 1 t102 hq1) fun t103 =>
  bnd (A.fieldAddr 2 x14) fun t104 =>
  bnd (A.load false 1 t104 hq1) fun t105 =>
  bnd (A.fieldAddr 3 x14) fun t106 =>
  bnd (A.load false 1 t106 hq1) fun t107 =>
  bnd2 (C 13 [x12, t103, t105, t107] hq1) fun t108 hq2 =>
  bnd (A.extract 0 t108) fun t109 =>
  bnd (A.extract 1 t108) fun t110 =>
  toBK t110 fun bq1 =>
  kn (.bool b) (.bool bq1) t109 x14 t98 x13 x12 x11 x4 x3 x2 hq2
theorem ep3arrrrlrborlbrrrlrbrt (C : CF) (L : Nat) {β : Type} (x86 x56 x16 x14 x15 x13 x12 x11 x4 x3 x2 : Value) (h : H) (K : Ex → T Value → H → Option β) :
    execK Try.prog C L 0 206 [10] c3arrrrlrborlbrrrlrbrt [17, 18, 16, 14, 15, 13, 12, 11, 4, 3, 2] [(2, [17, 18, 16, 14, 15, 13, 12, 11, 4, 3, 2]), (1, [13, 12, 11, 4, 3, 2]), (0, [])] (fs [(86, x86), (56, x56), (16, x16), (14, x14), (15, x15), (13, x13), (12, x12), (11, x11), (4, x4), (3, x3), (2, x2)]) h K =
      p3arrrrlrborlbrrrlrbrt C L x86 x56 x16 x14 x15 x13 x12 x11 x4 x3 x2 h (fun x17 x18 x16 x14 x15 x13 x12 x11 x4 x3 x2 h => K .normal (fs [(17, x17), (18, x18), (16, x16), (14, x14), (15, x15), (13, x13), (12, x12), (11, x11), (4, x4), (3, x3), (2, x2)]) h) := by
  kernel_rfl
noncomputable def c3arrrrlrborlbrrrlrbrf : Code := cR c3arrrrlrborlbrrrlrbr
noncomputable def c3arrrrlrborlbrrrlrbrfl : Code := cL c3arrrrlrborlbrrrlrbrf
noncomputable def p3arrrrlrborlbrrrlrbrfl (C : CF) (L : Nat) {β : Type} (x86 x56 x16 x14 x15 x13 x12 x11 x4 x3 x2 : Value) (h : H) (kn : Value → Value → Value → Value → Value → Value → Value → Value → Value → Value → H → Option β) : Option β :=
  bnd (A.bin Try.prog .eql 5 x56 (.int .u8 7)) fun t112 =>
  toBK t112 fun b =>
  kn (.bool b) x16 x14 x15 x13 x12 x11 x4 x3 x2 h
theorem ep3arrrrlrborlbrrrlrbrfl (C : CF) (L : Nat) {β : Type} (x86 x56 x16 x14 x15 x13 x12 x11 x4 x3 x2 : Value) (h : H) (K : Ex → T Value → H → Option β) :
    execK Try.prog C L 0 206 [10] c3arrrrlrborlbrrrlrbrfl [111, 16, 14, 15, 13, 12, 11, 4, 3, 2] [(2, [17, 18, 16, 14, 15, 13, 12, 11, 4, 3, 2]), (1, [13, 12, 11, 4, 3, 2]), (0, [])] (fs [(86, x86), (56, x56), (16, x16), (14, x14), (15, x15), (13, x13), (12, x12), (11, x11), (4, x4), (3, x3), (2, x2)]) h K =
      p3arrrrlrborlbrrrlrbrfl C L x86 x56 x16 x14 x15 x13 x12 x11 x4 x3 x2 h (fun x111 x16 x14 x15 x13 x12 x11 x4 x3 x2 h => K .normal (fs [(111, x111), (16, x16), (14, x14), (15, x15), (13, x13), (12, x12), (11, x11), (4, x4), (3, x3), (2, x2)]) h) := by
  kernel_rfl
noncomputable def c3arrrrlrborlbrrrlrbrfr : Code := cR c3arrrrlrborlbrrrlrbrf
noncomputable def c3arrrrlrborlbrrrlrbrfrt : Code := cL c3arrrrlrborlbrrrlrbrfr
noncomputable def p3arrrrlrborlbrrrlrbrfrt (C : CF) (L : Nat) {β : Type} (x111 x16 x14 x15 x13 x12 x11 x4 x3 x2 : Value) (h : H) (kn : Value → Value → Value → Value → Value → Value → Value → Value → Value → Value → Value → H → Option β) : Option β :=
  bnd (A.fieldAddr 1 x14) fun t115 =>
  bnd (A.load false 1 t115 h) fun t116 =>
  bnd (A.fieldAddr 2 x14) fun t117 =>
  bnd (A.load false 1 t117 h) fun t118 =>
  bnd (A.fieldAddr 3 x14) fun t119 =>
  bnd (A.load false 1 t119 h) fun t120 =>
  bnd2 (C 14 [x11, t116, t118, t120] h) fun t121 hq1 =>
  bnd (A.extract 0 t121) fun t122 =>
  bnd (A.extract 1 t121) fun t123 =>
  toBK t123 fun b =>
  bnd (A.fieldAddr 1 x14) fun t126 =>
  bnd (A.load false 1 t126 hq1) fun t127 =>
  bnd (A.fieldAddr 2 x14) fun t128 =>
  bnd (A.load false 1 t128 hq1) fun t129 =>
  bnd (A.fieldAddr 3 x14) fun t130 =>
  bnd (A.load false 1 t130 hq1) fun t131 =>
  bnd2 (C 15 [x12, t127, t129, t131] hq1) fun t132 hq2 =>
  bnd (A.extract 0 t132) fun t133 =>
  bnd (A.extract 1 t132) fun t134 =>
  toBK t134 fun bq1 =>
  kn (.bool b) (.bool bq1) t133 x14 t122 x13 x12 x11 x4 x3 x2 hq2
theorem ep3arrrrlrborlbrrrlrbrfrt (C : CF) (L : Nat) {β : Type} (x111 x16 x14 x15 x13 x12 x11 x4 x3 x2 : Value) (h : H) (K : Ex → T Value → H → Option β) :
    execK Try.prog C L 0 206 [10] c3arrrrlrborlbrrrlrbrfrt [17, 18, 16, 14, 15, 13, 12, 11, 4, 3, 2] [(2, [17, 18, 16, 14, 15, 13, 12, 11, 4, 3, 2]), (1, [13, 12, 11, 4, 3, 2]), (0, [])] (fs [(111, x111), (16, x16), (14, x14), (15, x15), (13, x13), (12, x12), (11, x11), (4, x4), (3, x3), (2, x2)]) h K =
      p3arrrrlrborlbrrrlrbrfrt C L x111 x16 x14 x15 x13 x12 x11 x4 x3 x2 h (fun x17 x18 x16 x14 x15 x13 x12 x11 x4 x3 x2 h => K .normal (fs [(17, x17), (18, x18), (16, x16), (14, x14), (15, x15), (13, x13), (12, x12), (11, x11), (4, x4), (3, x3), (2, x2)]) h) := by
  kernel_rfl
noncomputable def c3arrrrlrborlbrrrlrbrfrf : Code := cR c3arrrrlrborlbrrrlrbrfr
noncomputable def p3arrrrlrborlbrrrlrbrfrf (C : CF) (L : Nat) {β : Type} (x111 x16 x14 x15 x13 x12 x11 x4 x3 x2 : Value) (h : H) (kr : Value → H → Option β) (kn : Value → Value → Value → Value → Value → Value → Value → Value → Value → Value → Value → H → Option β) : Option β :=
  bnd (A.fieldAddr 4 x14) fun t57 =>
  bnd (A.load false 1 t57 h) fun t58 =>
  bnd2 (C 16 [t58] h) fun t59 hq1 =>
  bnd (A.fieldAddr 1 x14) fun t61 =>
  bnd (A.load false 1 t61 hq1) fun t62 =>
  bnd (A.fieldAddr 2 x14) fun t63 =>
  bnd (A.load false 1 t63 hq1) fun t64 =>
  bnd (A.fieldAddr 3 x14) fun t65 =>
  bnd (A.load false 1 t65 hq1) fun t66 =>
  bnd2 (C 17 [x11, t62, t64, t66, t59] hq1) fun t68 hq2 =>
  toBK t68 fun b =>
  bnd (A.fieldAddr 1 x14) fun t70 =>
  bnd (A.load false 1 t70 hq2) fun t71 =>
  bnd (A.fieldAddr 2 x14) fun t72 =>
  bnd (A.load false 1 t72 hq2) fun t73 =>
  bnd (A.fieldAddr 3 x14) fun t74 =>
  bnd (A.load false 1 t74 hq2) fun t75 =>
  bnd (A.fieldAddr 4 x14) fun t76 =>
  bnd (A.load false 1 t76 hq2) fun t77 =>
  bnd2 (C 18 [x12, t71, t73, t75, t77] hq2) fun t78 hq3 =>
  toBK t78 fun bq1 =>
  bnd (A.fieldAddr 4 x14) fun t80 =>
  bnd (A.load false 1 t80 hq3) fun t81 =>
  bnd2 (C 19 [t59, t81] hq3) fun t82 hq4 =>
  toBK t82 fun bq2 =>
  bnd (A.un Try.prog .not (.bool bq2)) fun t83 =>
  toBK t83 fun bq3 =>
  (bif bq3 then
  kr (.bool false) hq4
  else
  bnd2 (C 20 [t59] hq4) fun t85 hq5 =>
  kn (.bool b) (.bool bq1) x16 x14 x15 x13 x12 x11 x4 x3 x2 hq5)
theorem ep3arrrrlrborlbrrrlrbrfrf (C : CF) (L : Nat) {β : Type} (x111 x16 x14 x15 x13 x12 x11 x4 x3 x2 : Value) (h : H) (K : Ex → T Value → H → Option β) :
    execK Try.prog C L 0 206 [10] c3arrrrlrborlbrrrlrbrfrf [17, 18, 16, 14, 15, 13, 12, 11, 4, 3, 2] [(2, [17, 18, 16, 14, 15, 13, 12, 11, 4, 3, 2]), (1, [13, 12, 11, 4, 3, 2]), (0, [])] (fs [(111, x111), (16, x16), (14, x14), (15, x15), (13, x13), (12, x12), (11, x11), (4, x4), (3, x3), (2, x2)]) h K =
      p3arrrrlrborlbrrrlrbrfrf C L x111 x16 x14 x15 x13 x12 x11 x4 x3 x2 h (fun x10 h => K .ret (fs [(10, x10)]) h) (fun x17 x18 x16 x14 x15 x13 x12 x11 x4 x3 x2 h => K .normal (fs [(17, x17), (18, x18), (16, x16), (14, x14), (15, x15), (13, x13), (12, x12), (11, x11), (4, x4), (3, x3), (2, x2)]) h) := by
  kernel_rfl
noncomputable def p3arrrrlrborlbrrrlrbrfr (C : CF) (L : Nat) {β : Type} (x111 x16 x14 x15 x13 x12 x11 x4 x3 x2 : Value) (h : H) (kn : Value → Value → Value → Value → Value → Value → Value → Value → Value → Value → Value → H → Option β) (kr : Value → H → Option β) : Option β :=
  condV x111 (p3arrrrlrborlbrrrlrbrfrt C L x111 x16 x14 x15 x13 x12 x11 x4 x3 x2 h kn) (p3arrrrlrborlbrrrlrbrfrf C L x111 x16 x14 x15 x13 x12 x11 x4 x3 x2 h kr kn)
theorem ep3arrrrlrborlbrrrlrbrfr (C : CF) (L : Nat) {β : Type} (x111 x16 x14 x15 x13 x12 x11 x4 x3 x2 : Value) (h : H) (K : Ex → T Value → H → Option β) :
    execK Try.prog C L 0 206 [10] c3arrrrlrborlbrrrlrbrfr [17, 18, 16, 14, 15, 13, 12, 11, 4, 3, 2] [(2, [17, 18, 16, 14, 15, 13, 12, 11, 4, 3, 2]), (1, [13, 12, 11, 4, 3, 2]), (0, [])] (fs [(111, x111), (16, x16), (14, x14), (15, x15), (13, x13), (12, x12), (11, x11), (4, x4), (3, x3), (2, x2)]) h K =
      p3arrrrlrborlbrrrlrbrfr C L x111 x16 x14 x15 x13 x12 x11 x4 x3 x2 h (fun x17 x18 x16 x14 x15 x13 x12 x11 x4 x3 x2 h => K .normal (fs [(17, x17), (18, x18), (16, x16), (14, x14), (15, x15), (13, x13), (12, x12), (11, x11), (4, x4), (3, x3), (2, x2)]) h) (fun x10 h => K .ret (fs [(10, x10)]) h) := by
  rw [execK_cond (a := c3arrrrlrborlbrrrlrbrfrt) (b := c3arrrrlrborlbrrrlrbrfrf) (x := (.tmp 111)) (v := x111) (by kernel_rfl) (by kernel_rfl), ep3arrrrlrborlbrrrlrbrfrt, ep3arrrrlrborlbrrrlrbrfrf]
  unfold p3arrrrlrborlbrrrlrbrfr
  rfl
noncomputable def p3arrrrlrborlbrrrlrbrf (C : CF) (L : Nat) {β : Type} (x86 x56 x16 x14 x15 x13 x12 x11 x4 x3 x2 : Value) (h : H) (kn : Value → Value → Value → Value → Value → Value → Value → Value → Value → Value → Value → H → Option β) (kr : Value → H → Option β) : Option β :=
  p3arrrrlrborlbrrrlrbrfl C L x86 x56 x16 x14 x15 x13 x12 x11 x4 x3 x2 h (fun x111 x16 x14 x15 x13 x12 x11 x4 x3 x2 h => p3arrrrlrborlbrrrlrbrfr C L x111 x16 x14 x15 x13 x12 x11 x4 x3 x2 h kn kr)
theorem ep3arrrrlrborlbrrrlrbrf (C : CF) (L : Nat) {β : Type} (x86 x56 x16 x14 x15 x13 x12 x11 x4 x3 x2 : Value) (h : H) (K : Ex → T Value → H → Option β) :
    execK Try.prog C L 0 206 [10] c3arrrrlrborlbrrrlrbrf [17, 18, 16, 14, 15, 13, 12, 11, 4, 3, 2] [(2, [17, 18, 16, 14, 15, 13, 12, 11, 4, 3, 2]), (1, [13, 12, 11, 4, 3, 2]), (0, [])] (fs [(86, x86), (56, x56), (16, x16), (14, x14), (15, x15), (13, x13), (12, x12), (11, x11), (4, x4), (3, x3), (2, x2)]) h K =
      p3arrrrlrborlbrrrlrbrf C L x86 x56 x16 x14 x15 x13 x12 x11 x4 x3 x2 h (fun x17 x18 x16 x14 x15 x13 x12 x11 x4 x3 x2 h => K .normal (fs [(17, x17), (18, x18), (16, x16), (14, x14), (15, x15), (13, x13), (12, x12), (11, x11), (4, x4), (3, x3), (2, x2)]) h) (fun x10 h => K .ret (fs [(10, x10)]) h) := by
  rw [execK_seq (a := c3arrrrlrborlbrrrlrbrfl) (b := c3arrrrlrborlbrrrlrbrfr) (by kernel_rfl) (show live [10] c3arrrrlrborlbrrrlrbrfr [17, 18, 16, 14, 15, 13, 12, 11, 4, 3, 2] [(2, [17, 18, 16, 14, 15, 13, 12, 11, 4, 3, 2]), (1, [13, 12, 11, 4, 3, 2]), (0, [])] = [111, 16, 14, 15, 13, 12, 11, 4, 3, 2] by kernel_rfl), ep3arrrrlrborlbrrrlrbrfl]
  unfold p3arrrrlrborlbrrrlrbrf
  exact (congrArg (p3arrrrlrborlbrrrlrbrfl C L x86 x56 x16 x14 x15 x13 x12 x11 x4 x3 x2 h) (funext fun x111 => funext fun x16 => funext fun x14 => funext fun x15 => funext fun x13 => funext fun x12 => funext fun x11 => funext fun x4 => funext fun x3 => funext fun x2 => funext fun h => (seqK_n _ _ _).trans (ep3arrrrlrborlbrrrlrbrfr C L x111 x16 x14 x15 x13 x12 x11 x4 x3 x2 h K)))
noncomputable def p3arrrrlrborlbrrrlrbr (C : CF) (L : Nat) {β : Type} (x86 x56 x16 x14 x15 x13 x12 x11 x4 x3 x2 : Value) (h : H) (kn : Value → Value → Value → Value → Value → Value → Value → Value → Value → Value → Value → H → Option β) (kr : Value → H → Option β) : Option β :=
  condV x86 (p3arrrrlrborlbrrrlrbrt C L x86 x56 x16 x14 x15 x13 x12 x11 x4 x3 x2 h kn) (p3arrrrlrborlbrrrlrbrf C L x86 x56 x16 x14 x15 x13 x12 x11 x4 x3 x2 h kn kr)
theorem ep3arrrrlrborlbrrrlrbr (C : CF) (L : Nat) {β : Type} (x86 x56 x16 x14 x15 x13 x12 x11 x4 x3 x2 : Value) (h : H) (K : Ex → T Value → H → Option β) :
    execK Try.prog C L 0 206 [10] c3arrrrlrborlbrrrlrbr [17, 18, 16, 14, 15, 13, 12, 11, 4, 3, 2] [(2, [17, 18, 16, 14, 15, 13, 12, 11, 4, 3, 2]), (1, [13, 12, 11, 4, 3, 2]), (0, [])] (fs [(86, x86), (56, x56), (16, x16), (14, x14), (15, x15), (13, x13), (12, x12), (11, x11), (4, x4), (3, x3), (2, x2)]) h K =
      p3arrrrlrborlbrrrlrbr C L x86 x56 x16 x14 x15 x13 x12 x11 x4 x3 x2 h (fun x17 x18 x16 x14 x15 x13 x12 x11 x4 x3 x2 h => K .normal (fs [(17, x17), (18, x18), (16, x16), (14, x14), (15, x15), (13, x13), (12, x12), (11, x11), (4, x4), (3, x3), (2, x2)]) h) (fun x10 h => K .ret (fs [(10, x10)]) h) := by
  rw [execK_cond (a := c3arrrrlrborlbrrrlrbrt) (b := c3arrrrlrborlbrrrlrbrf) (x := (.tmp 86)) (v := x86) (by kernel_rfl) (by kernel_rfl), ep3arrrrlrborlbrrrlrbrt, ep3arrrrlrborlbrrrlrbrf]
  unfold p3arrrrlrborlbrrrlrbr
  rfl
noncomputable def p3arrrrlrborlbrrrlrb (C : CF) (L : Nat) {β : Type} (x56 x16 x14 x15 x13 x12 x11 x4 x3 x2 : Value) (h : H) (kn : Value → Value → Value → Value → Value → Value → Value → Value → Value → Value → Value → H → Option β) (kr : Value → H → Option β) : Option β :=
  p3arrrrlrborlbrrrlrbl C L x56 x16 x14 x15 x13 x12 x11 x4 x3 x2 h (fun x86 x56 x16 x14 x15 x13 x12 x11 x4 x3 x2 h => p3arrrrlrborlbrrrlrbr C L x86 x56 x16 x14 x15 x13 x12 x11 x4 x3 x2 h kn kr)
theorem ep3arrrrlrborlbrrrlrb (C : CF) (L : Nat) {β : Type} (x56 x16 x14 x15 x13 x12 x11 x4 x3 x2 : Value) (h : H) (K : Ex → T Value → H → Option β) :
    execK Try.prog C L 0 206 [10] c3arrrrlrborlbrrrlrb [17, 18, 16, 14, 15, 13, 12, 11, 4, 3, 2] [(2, [17, 18, 16, 14, 15, 13, 12, 11, 4, 3, 2]), (1, [13, 12, 11, 4, 3, 2]), (0, [])] (fs [(56, x56), (16, x16), (14, x14), (15, x15), (13, x13), (12, x12), (11, x11), (4, x4), (3, x3), (2, x2)]) h K =
      p3arrrrlrborlbrrrlrb C L x56 x16 x14 x15 x13 x12 x11 x4 x3 x2 h (fun x17 x18 x16 x14 x15 x13 x12 x11 x4 x3 x2 h => K .normal (fs [(17, x17), (18, x18), (16, x16), (14, x14), (15, x15), (13, x13), (12, x12), (11, x11), (4, x4), (3, x3), (2, x2)]) h) (fun x10 h => K .ret (fs [(10, x10)]) h) := by
  rw [execK_seq (a := c3arrrrlrborlbrrrlrbl) (b := c3arrrrlrborlbrrrlrbr) (by kernel_rfl) (show live [10] c3arrrrlrborlbrrrlrbr [17, 18, 16, 14, 15, 13, 12, 11, 4, 3, 2] [(2, [17, 18, 16, 14, 15, 13, 12, 11, 4, 3, 2]), (1, [13, 12, 11, 4, 3, 2]), (0, [])] = [86, 56, 16, 14, 15, 13, 12, 11, 4, 3, 2] by kernel_rfl), ep3arrrrlrborlbrrrlrbl]
  unfold p3arrrrlrborlbrrrlrb
  exact (congrArg (p3arrrrlrborlbrrrlrbl C L x56 x16 x14 x15 x13 x12 x11 x4 x3 x2 h) (funext fun x86 => funext fun x56 => funext fun x16 => funext fun x14 => funext fun x15 => funext fun x13 => funext fun x12 => funext fun x11 => funext fun x4 => funext fun x3 => funext fun x2 => funext fun h => (seqK_n _ _ _).trans (ep3arrrrlrborlbrrrlrbr C L x86 x56 x16 x14 x15 x13 x12 x11 x4 x3 x2 h K)))
noncomputable def p3arrrrlrborlbrrrlr (C : CF) (L : Nat) {β : Type} (x56 x16 x14 x15 x13 x12 x11 x4 x3 x2 : Value) (h : H) (kn : Value → Value → Value → Value → Value → Value → Value → Value → Value → Value → Value → H → Option β) (kr : Value → H → Option β) : Option β :=
  p3arrrrlrborlbrrrlrb C L x56 x16 x14 x15 x13 x12 x11 x4 x3 x2 h kn kr
theorem ep3arrrrlrborlbrrrlr (C : CF) (L : Nat) {β : Type} (x56 x16 x14 x15 x13 x12 x11 x4 x3 x2 : Value) (h : H) (K : Ex → T Value → H → Option β) :
    execK Try.prog C L 0 206 [10] c3arrrrlrborlbrrrlr [17, 18, 16, 14, 15, 13, 12, 11, 4, 3, 2] [(1, [13, 12, 11, 4, 3, 2]), (0, [])] (fs [(56, x56), (16, x16), (14, x14), (15, x15), (13, x13), (12, x12), (11, x11), (4, x4), (3, x3), (2, x2)]) h K =
      p3arrrrlrborlbrrrlr C L x56 x16 x14 x15 x13 x12 x11 x4 x3 x2 h (fun x17 x18 x16 x14 x15 x13 x12 x11 x4 x3 x2 h => K .normal (fs [(17, x17), (18, x18), (16, x16), (14, x14), (15, x15), (13, x13), (12, x12), (11, x11), (4, x4), (3, x3), (2, x2)]) h) (fun x10 h => K .ret (fs [(10, x10)]) h) := by
  rw [execK_block (b := c3arrrrlrborlbrrrlrb) (id := 2) (by kernel_rfl), ep3arrrrlrborlbrrrlrb]
  unfold p3arrrrlrborlbrrrlr
  rfl
noncomputable def p3arrrrlrborlbrrrl (C : CF) (L : Nat) {β : Type} (x16 x14 x15 x13 x12 x11 x4 x3 x2 : Value) (h : H) (kn : Value → Value → Value → Value → Value → Value → Value → Value → Value → Value → Value → H → Option β) (kr : Value → H → Option β) : Option β :=
  p3arrrrlrborlbrrrll C L x16 x14 x15 x13 x12 x11 x4 x3 x2 h (fun x56 x16 x14 x15 x13 x12 x11 x4 x3 x2 h => p3arrrrlrborlbrrrlr C L x56 x16 x14 x15 x13 x12 x11 x4 x3 x2 h kn kr)
theorem ep3arrrrlrborlbrrrl (C : CF) (L : Nat) {β : Type} (x16 x14 x15 x13 x12 x11 x4 x3 x2 : Value) (h : H) (K : Ex → T Value → H → Option β) :
    execK Try.prog C L 0 206 [10] c3arrrrlrborlbrrrl [17, 18, 16, 14, 15, 13, 12, 11, 4, 3, 2] [(1, [13, 12, 11, 4, 3, 2]), (0, [])] (fs [(16, x16), (14, x14), (15, x15), (13, x13), (12, x12), (11, x11), (4, x4), (3, x3), (2, x2)]) h K =
      p3arrrrlrborlbrrrl C L x16 x14 x15 x13 x12 x11 x4 x3 x2 h (fun x17 x18 x16 x14 x15 x13 x12 x11 x4 x3 x2 h => K .normal (fs [(17, x17), (18, x18), (16, x16), (14, x14), (15, x15), (13, x13), (12, x12), (11, x11), (4, x4), (3, x3), (2, x2)]) h) (fun x10 h => K .ret (fs [(10, x10)]) h) := by
  rw [execK_seq (a := c3arrrrlrborlbrrrll) (b := c3arrrrlrborlbrrrlr) (by kernel_rfl) (show live [10] c3arrrrlrborlbrrrlr [17, 18, 16, 14, 15, 13, 12, 11, 4, 3, 2] [(1, [13, 12, 11, 4, 3, 2]), (0, [])] = [56, 16, 14, 15, 13, 12, 11, 4, 3, 2] by kernel_rfl), ep3arrrrlrborlbrrrll]
  unfold p3arrrrlrborlbrrrl
  exact (congrArg (p3arrrrlrborlbrrrll C L x16 x14 x15 x13 x12 x11 x4 x3 x2 h) (funext fun x56 => funext fun x16 => funext fun x14 => funext fun x15 => funext fun x13 => funext fun x12 => funext fun x11 => funext fun x4 => funext fun x3 => funext fun x2 => funext fun h => (seqK_n _ _ _).trans (ep3arrrrlrborlbrrrlr C L x56 x16 x14 x15 x13 x12 x11 x4 x3 x2 h K)))
noncomputable def c3arrrrlrborlbrrrr : Code := cR c3arrrrlrborlbrrr
noncomputable def c3arrrrlrborlbrrrrl : Code := cL c3arrrrlrborlbrrrr
noncomputable def c3arrrrlrborlbrrrrll : Code := cL c3arrrrlrborlbrrrrl
noncomputable def p3arrrrlrborlbrrrrll (C : CF) (L : Nat) {β : Type} (x17 x18 x16 x14 x15 x13 x12 x11 x4 x3 x2 : Value) (h : H) (kn : Value → Value → Value → Value → Value → Value → Value → Value → H → Option β) : Option β :=
  toBK x17 fun b =>
  toBK x18 fun bq1 =>
  bnd (A.bin Try.prog .neq 4 (.bool b) (.bool bq1)) fun t137 =>
  toBK t137 fun bq2 =>
  (bif bq2 then
  kn (.bool true) x15 x13 x12 x11 x4 x3 x2 h
  else
  bnd2 (C 19 [x15, x16] h) fun t141 hq1 =>
  toBK t141 fun bq3 =>
  bnd (A.un Try.prog .not (.bool bq3)) fun t142 =>
  toBK t142 fun bq4 =>
  (bif bq4 then
  kn (.bool true) x15 x13 x12 x11 x4 x3 x2 hq1
  else
  bnd (A.fieldAddr 1 x14) fun t146 =>
  bnd (A.load false 1 t146 hq1) fun t147 =>
  bnd (A.fieldAddr 3 x14) fun t148 =>
  bnd (A.load false 1 t148 hq1) fun t149 =>
  bnd2 (C 21 [x11, t147, t149] hq1) fun t150 hq2 =>
  toBK t150 fun bq5 =>
  bnd (A.fieldAddr 1 x14) fun t152 =>
  bnd (A.load false 1 t152 hq2) fun t153 =>
  bif (chk (bnd (A.load false 1 t152 hq1) fun v => some v) t153 && true) then
  bnd (A.fieldAddr 3 x14) fun t154 =>
  bnd (A.load false 1 t154 hq2) fun t155 =>
  bif (chk (bnd (A.load false 1 t154 hq1) fun v => some v) t155 && true) then
  bnd2 (C 22 [x12, t153, t155] hq2) fun t156 hq3 =>
  toBK t156 fun bq6 =>
  bnd (A.bin Try.prog .neq 4 (.bool bq5) (.bool bq6)) fun t157 =>
  toBK t157 fun bq7 =>
  (bif bq7 then
  kn (.bool true) x15 x13 x12 x11 x4 x3 x2 hq3
  else
  bnd2 (C 21 [x11, x3, x4] hq3) fun t163 hq4 =>
  toBK t163 fun bq8 =>
  bnd2 (C 22 [x12, x3, x4] hq4) fun t167 hq5 =>
  toBK t167 fun bq9 =>
  bnd (A.bin Try.prog .neq 4 (.bool bq8) (.bool bq9)) fun t168 =>
  toBK t168 fun bq10 =>
  (bif bq10 then
  kn (.bool true) x15 x13 x12 x11 x4 x3 x2 hq5
  else
  bnd (A.fieldAddr 1 x14) fun t172 =>
  bnd (A.load false 1 t172 hq5) fun t173 =>
  bnd (A.fieldAddr 2 x14) fun t174 =>
  bnd (A.load false 1 t174 hq5) fun t175 =>
  bnd (A.fieldAddr 3 x14) fun t176 =>
  bnd (A.load false 1 t176 hq5) fun t177 =>
  bnd2 (C 23 [x11, t173, t175, t177] hq5) fun t178 hq6 =>
  bnd (A.fieldAddr 1 x14) fun t180 =>
  bnd (A.load false 1 t180 hq6) fun t181 =>
  bif (chk (bnd (A.load false 1 t180 hq5) fun v => some v) t181 && true) then
  bnd (A.fieldAddr 2 x14) fun t182 =>
  bnd (A.load false 1 t182 hq6) fun t183 =>
  bif (chk (bnd (A.load false 1 t182 hq5) fun v => some v) t183 && true) then
  bnd (A.fieldAddr 3 x14) fun t184 =>
  bnd (A.load false 1 t184 hq6) fun t185 =>
  bif (chk (bnd (A.load false 1 t184 hq5) fun v => some v) t185 && true) then
  bnd2 (C 24 [x12, t181, t183, t185] hq6) fun t186 hq7 =>
  bnd (A.bin Try.prog .neq 3 t178 t186) fun t187 =>
  toBK t187 fun bq11 =>
  (bif bq11 then
  kn (.bool true) x15 x13 x12 x11 x4 x3 x2 hq7
  else
  bnd2 (C 25 [x11] hq7) fun t191 hq8 =>
  bnd2 (C 26 [x12] hq8) fun t193 hq9 =>
  bnd (A.bin Try.prog .neq 3 t191 t193) fun t194 =>
  toBK t194 fun bq12 =>
  (bif bq12 then
  kn (.bool true) x15 x13 x12 x11 x4 x3 x2 hq9
  else
  bnd2 (C 27 [x11] hq9) fun t198 hq10 =>
  toBK t198 fun bq13 =>
  bnd2 (C 28 [x12] hq10) fun t200 hq11 =>
  toBK t200 fun bq14 =>
  bnd (A.bin Try.prog .neq 4 (.bool bq13) (.bool bq14)) fun t201 =>
  toBK t201 fun bq15 =>
  kn (.bool bq15) x15 x13 x12 x11 x4 x3 x2 hq11))
  else none
  else none
  else none))
  else none
  else none))
theorem ep3arrrrlrborlbrrrrll (C : CF) (L : Nat) {β : Type} (x17 x18 x16 x14 x15 x13 x12 x11 x4 x3 x2 : Value) (h : H) (K : Ex → T Value → H → Option β) :
    execK Try.prog C L 0 206 [10] c3arrrrlrborlbrrrrll [202, 15, 13, 12, 11, 4, 3, 2] [(1, [13, 12, 11, 4, 3, 2]), (0, [])] (fs [(17, x17), (18, x18), (16, x16), (14, x14), (15, x15), (13, x13), (12, x12), (11, x11), (4, x4), (3, x3), (2, x2)]) h K =
      p3arrrrlrborlbrrrrll C L x17 x18 x16 x14 x15 x13 x12 x11 x4 x3 x2 h (fun x202 x15 x13 x12 x11 x4 x3 x2 h => K .normal (fs [(202, x202), (15, x15), (13, x13), (12, x12), (11, x11), (4, x4), (3, x3), (2, x2)]) h) := by
  kernel_rfl
noncomputable def c3arrrrlrborlbrrrrlr : Code := cR c3arrrrlrborlbrrrrl
noncomputable def p3arrrrlrborlbrrrrlr (C : CF) (L : Nat) {β : Type} (x202 x15 x13 x12 x11 x4 x3 x2 : Value) (h : H) (kr : Value → H → Option β) (kn : Value → Value → Value → Value → Value → Value → Value → H → Option β) : Option β :=
  condV x202 (
  kr (.bool false) h) (
  kn x15 x13 x12 x11 x4 x3 x2 h)
theorem ep3arrrrlrborlbrrrrlr (C : CF) (L : Nat) {β : Type} (x202 x15 x13 x12 x11 x4 x3 x2 : Value) (h : H) (K : Ex → T Value → H → Option β) :
    execK Try.prog C L 0 206 [10] c3arrrrlrborlbrrrrlr [15, 13, 12, 11, 4, 3, 2] [(1, [13, 12, 11, 4, 3, 2]), (0, [])] (fs [(202, x202), (15, x15), (13, x13), (12, x12), (11, x11), (4, x4), (3, x3), (2, x2)]) h K =
      p3arrrrlrborlbrrrrlr C L x202 x15 x13 x12 x11 x4 x3 x2 h (fun x10 h => K .ret (fs [(10, x10)]) h) (fun x15 x13 x12 x11 x4 x3 x2 h => K .normal (fs [(15, x15), (13, x13), (12, x12), (11, x11), (4, x4), (3, x3), (2, x2)]) h) := by
  kernel_rfl
noncomputable def p3arrrrlrborlbrrrrl (C : CF) (L : Nat) {β : Type} (x17 x18 x16 x14 x15 x13 x12 x11 x4 x3 x2 : Value) (h : H) (kr : Value → H → Option β) (kn : Value → Value → Value → Value → Value → Value → Value → H → Option β) : Option β :=
  p3arrrrlrborlbrrrrll C L x17 x18 x16 x14 x15 x13 x12 x11 x4 x3 x2 h (fun x202 x15 x13 x12 x11 x4 x3 x2 h => p3arrrrlrborlbrrrrlr C L x202 x15 x13 x12 x11 x4 x3 x2 h kr kn)
theorem ep3arrrrlrborlbrrrrl (C : CF) (L : Nat) {β : Type} (x17 x18 x16 x14 x15 x13 x12 x11 x4 x3 x2 : Value) (h : H) (K : Ex → T Value → H → Option β) :
    execK Try.prog C L 0 206 [10] c3arrrrlrborlbrrrrl [15, 13, 12, 11, 4, 3, 2] [(1, [13, 12, 11, 4, 3, 2]), (0, [])] (fs [(17, x17), (18, x18), (16, x16), (14, x14), (15, x15), (13, x13), (12, x12), (11, x11), (4, x4), (3, x3), (2, x2)]) h K =
      p3arrrrlrborlbrrrrl C L x17 x18 x16 x14 x15 x13 x12 x11 x4 x3 x2 h (fun x10 h => K .ret (fs [(10, x10)]) h) (fun x15 x13 x12 x11 x4 x3 x2 h => K .normal (fs [(15, x15), (13, x13), (12, x12), (11, x11), (4, x4), (3, x3), (2, x2)]) h) := by
  rw [execK_seq (a := c3arrrrlrborlbrrrrll) (b := c3arrrrlrborlbrrrrlr) (by kernel_rfl) (show live [10] c3arrrrlrborlbrrrrlr [15, 13, 12, 11, 4, 3, 2] [(1, [13, 12, 11, 4, 3, 2]), (0, [])] = [202, 15, 13, 12, 11, 4, 3, 2] by kernel_rfl), ep3arrrrlrborlbrrrrll]
  unfold p3arrrrlrborlbrrrrl
  exact (congrArg (p3arrrrlrborlbrrrrll C L x17 x18 x16 x14 x15 x13 x12 x11 x4 x3 x2 h) (funext fun x202 => funext fun x15 => funext fun x13 => funext fun x12 => funext fun x11 => funext fun x4 => funext fun x3 => funext fun x2 => funext fun h => (seqK_n _ _ _).trans (ep3arrrrlrborlbrrrrlr C L x202 x15 x13 x12 x11 x4 x3 x2 h K)))
noncomputable def c3arrrrlrborlbrrrrr : Code := cR c3arrrrlrborlbrrrr
noncomputable def p3arrrrlrborlbrrrrr (C : CF) (L : Nat) {β : Type} (x15 x13 x12 x11 x4 x3 x2 : Value) (h : H) (kn : Value → Value → Value → Value → Value → Value → H → Option β) : Option β :=
  bnd2 (C 20 [x15] h) fun t204 hq1 =>
  kn x13 x12 x11 x4 x3 x2 hq1
theorem ep3arrrrlrborlbrrrrr (C : CF) (L : Nat) {β : Type} (x15 x13 x12 x11 x4 x3 x2 : Value) (h : H) (K : Ex → T Value → H → Option β) :
    execK Try.prog C L 0 206 [10] c3arrrrlrborlbrrrrr [13, 12, 11, 4, 3, 2] [(1, [13, 12, 11, 4, 3, 2]), (0, [])] (fs [(15, x15), (13, x13), (12, x12), (11, x11), (4, x4), (3, x3), (2, x2)]) h K =
      p3arrrrlrborlbrrrrr C L x15 x13 x12 x11 x4 x3 x2 h (fun x13 x12 x11 x4 x3 x2 h => K .normal (fs [(13, x13), (12, x12), (11, x11), (4, x4), (3, x3), (2, x2)]) h) := by
  kernel_rfl
noncomputable def p3arrrrlrborlbrrrr (C : CF) (L : Nat) {β : Type} (x17 x18 x16 x14 x15 x13 x12 x11 x4 x3 x2 : Value) (h : H) (kn : Value → Value → Value → Value → Value → Value → H → Option β) (kr : Value → H → Option β) : Option β :=
  p3arrrrlrborlbrrrrl C L x17 x18 x16 x14 x15 x13 x12 x11 x4 x3 x2 h kr (fun x15 x13 x12 x11 x4 x3 x2 h => p3arrrrlrborlbrrrrr C L x15 x13 x12 x11 x4 x3 x2 h kn)
theorem ep3arrrrlrborlbrrrr (C : CF) (L : Nat) {β : Type} (x17 x18 x16 x14 x15 x13 x12 x11 x4 x3 x2 : Value) (h : H) (K : Ex → T Value → H → Option β) :
    execK Try.prog C L 0 206 [10] c3arrrrlrborlbrrrr [13, 12, 11, 4, 3, 2] [(1, [13, 12, 11, 4, 3, 2]), (0, [])] (fs [(17, x17), (18, x18), (16, x16), (14, x14), (15, x15), (13, x13), (12, x12), (11, x11), (4, x4), (3, x3), (2, x2)]) h K =
      p3arrrrlrborlbrrrr C L x17 x18 x16 x14 x15 x13 x12 x11 x4 x3 x2 h (fun x13 x12 x11 x4 x3 x2 h => K .normal (fs [(13, x13), (12, x12), (11, x11), (4, x4), (3, x3), (2, x2)]) h) (fun x10 h => K .ret (fs [(10, x10)]) h) := by
  rw [execK_seq (a := c3arrrrlrborlbrrrrl) (b := c3arrrrlrborlbrrrrr) (by kernel_rfl) (show live [10] c3arrrrlrborlbrrrrr [13, 12, 11, 4, 3, 2] [(1, [13, 12, 11, 4, 3, 2]), (0, [])] = [15, 13, 12, 11, 4, 3, 2] by kernel_rfl), ep3arrrrlrborlbrrrrl]
  unfold p3arrrrlrborlbrrrr
  exact (congr (congrArg (p3arrrrlrborlbrrrrl C L x17 x18 x16 x14 x15 x13 x12 x11 x4 x3 x2 h) (funext fun x10 => funext fun h => seqK_r _ _ _)) (funext fun x15 => funext fun x13 => funext fun x12 => funext fun x11 => funext fun x4 => funext fun x3 => funext fun x2 => funext fun h => (seqK_n _ _ _).trans (ep3arrrrlrborlbrrrrr C L x15 x13 x12 x11 x4 x3 x2 h K)))
noncomputable def p3arrrrlrborlbrrr (C : CF) (L : Nat) {β : Type} (x16 x14 x15 x13 x12 x11 x4 x3 x2 : Value) (h : H) (kn : Value → Value → Value → Value → Value → Value → H → Option β) (kr : Value → H → Option β) : Option β :=
  p3arrrrlrborlbrrrl C L x16 x14 x15 x13 x12 x11 x4 x3 x2 h (fun x17 x18 x16 x14 x15 x13 x12 x11 x4 x3 x2 h => p3arrrrlrborlbrrrr C L x17 x18 x16 x14 x15 x13 x12 x11 x4 x3 x2 h kn kr) kr
theorem ep3arrrrlrborlbrrr (C : CF) (L : Nat) {β : Type} (x16 x14 x15 x13 x12 x11 x4 x3 x2 : Value) (h : H) (K : Ex → T Value → H → Option β) :
    execK Try.prog C L 0 206 [10] c3arrrrlrborlbrrr [13, 12, 11, 4, 3, 2] [(1, [13, 12, 11, 4, 3, 2]), (0, [])] (fs [(16, x16), (14, x14), (15, x15), (13, x13), (12, x12), (11, x11), (4, x4), (3, x3), (2, x2)]) h K =
      p3arrrrlrborlbrrr C L x16 x14 x15 x13 x12 x11 x4 x3 x2 h (fun x13 x12 x11 x4 x3 x2 h => K .normal (fs [(13, x13), (12, x12), (11, x11), (4, x4), (3, x3), (2, x2)]) h) (fun x10 h => K .ret (fs [(10, x10)]) h) := by
  rw [execK_seq (a := c3arrrrlrborlbrrrl) (b := c3arrrrlrborlbrrrr) (by kernel_rfl) (show live [10] c3arrrrlrborlbrrrr [13, 12, 11, 4, 3, 2] [(1, [13, 12, 11, 4, 3, 2]), (0, [])] = [17, 18, 16, 14, 15, 13, 12, 11, 4, 3, 2] by kernel_rfl), ep3arrrrlrborlbrrrl]
  unfold p3arrrrlrborlbrrr
  exact (congr (congrArg (p3arrrrlrborlbrrrl C L x16 x14 x15 x13 x12 x11 x4 x3 x2 h) (funext fun x17 => funext fun x18 => funext fun x16 => funext fun x14 => funext fun x15 => funext fun x13 => funext fun x12 => funext fun x11 => funext fun x4 => funext fun x3 => funext fun x2 => funext fun h => (seqK_n _ _ _).trans (ep3arrrrlrborlbrrrr C L x17 x18 x16 x14 x15 x13 x12 x11 x4 x3 x2 h K))) (funext fun x10 => funext fun h => seqK_r _ _ _))
noncomputable def p3arrrrlrborlbrr (C : CF) (L : Nat) {β : Type} (x16 x14 x15 x13 x12 x11 x4 x3 x2 : Value) (h : H) (kn : Value → Value → Value → Value → Value → Value → H → Option β) (kr : Value → H → Option β) : Option β :=
  p3arrrrlrborlbrrl C L x16 x14 x15 x13 x12 x11 x4 x3 x2 h (fun x16 x14 x15 x13 x12 x11 x4 x3 x2 h => p3arrrrlrborlbrrr C L x16 x14 x15 x13 x12 x11 x4 x3 x2 h kn kr)
theorem ep3arrrrlrborlbrr (C : CF) (L : Nat) {β : Type} (x16 x14 x15 x13 x12 x11 x4 x3 x2 : Value) (h : H) (K : Ex → T Value → H → Option β) :
    execK Try.prog C L 0 206 [10] c3arrrrlrborlbrr [13, 12, 11, 4, 3, 2] [(1, [13, 12, 11, 4, 3, 2]), (0, [])] (fs [(16, x16), (14, x14), (15, x15), (13, x13), (12, x12), (11, x11), (4, x4), (3, x3), (2, x2)]) h K =
      p3arrrrlrborlbrr C L x16 x14 x15 x13 x12 x11 x4 x3 x2 h (fun x13 x12 x11 x4 x3 x2 h => K .normal (fs [(13, x13), (12, x12), (11, x11), (4, x4), (3, x3), (2, x2)]) h) (fun x10 h => K .ret (fs [(10, x10)]) h) := by
  rw [execK_seq (a := c3arrrrlrborlbrrl) (b := c3arrrrlrborlbrrr) (by kernel_rfl) (show live [10] c3arrrrlrborlbrrr [13, 12, 11, 4, 3, 2] [(1, [13, 12, 11, 4, 3, 2]), (0, [])] = [16, 14, 15, 13, 12, 11, 4, 3, 2] by kernel_rfl), ep3arrrrlrborlbrrl]
  unfold p3arrrrlrborlbrr
  exact (congrArg (p3arrrrlrborlbrrl C L x16 x14 x15 x13 x12 x11 x4 x3 x2 h) (funext fun x16 => funext fun x14 => funext fun x15 => funext fun x13 => funext fun x12 => funext fun x11 => funext fun x4 => funext fun x3 => funext fun x2 => funext fun h => (seqK_n _ _ _).trans (ep3arrrrlrborlbrrr C L x16 x14 x15 x13 x12 x11 x4 x3 x2 h K)))
noncomputable def p3arrrrlrborlbr (C : CF) (L : Nat) {β : Type} (x14 x13 x12 x11 x4 x3 x2 : Value) (h : H) (kn : Value → Value → Value → Value → Value → Value → H → Option β) (kr : Value → H → Option β) : Option β :=
  p3arrrrlrborlbrl C L x14 x13 x12 x11 x4 x3 x2 h (fun x16 x14 x15 x13 x12 x11 x4 x3 x2 h => p3arrrrlrborlbrr C L x16 x14 x15 x13 x12 x11 x4 x3 x2 h kn kr)
theorem ep3arrrrlrborlbr (C : CF) (L : Nat) {β : Type} (x14 x13 x12 x11 x4 x3 x2 : Value) (h : H) (K : Ex → T Value → H → Option β) :
    execK Try.prog C L 0 206 [10] c3arrrrlrborlbr [13, 12, 11, 4, 3, 2] [(1, [13, 12, 11, 4, 3, 2]), (0, [])] (fs [(14, x14), (13, x13), (12, x12), (11, x11), (4, x4), (3, x3), (2, x2)]) h K =
      p3arrrrlrborlbr C L x14 x13 x12 x11 x4 x3 x2 h (fun x13 x12 x11 x4 x3 x2 h => K .normal (fs [(13, x13), (12, x12), (11, x11), (4, x4), (3, x3), (2, x2)]) h) (fun x10 h => K .ret (fs [(10, x10)]) h) := by
  rw [execK_seq (a := c3arrrrlrborlbrl) (b := c3arrrrlrborlbrr) (by kernel_rfl) (show live [10] c3arrrrlrborlbrr [13, 12, 11, 4, 3, 2] [(1, [13, 12, 11, 4, 3, 2]), (0, [])] = [16, 14, 15, 13, 12, 11, 4, 3, 2] by kernel_rfl), ep3arrrrlrborlbrl]
  unfold p3arrrrlrborlbr
  exact (congrArg (p3arrrrlrborlbrl C L x14 x13 x12 x11 x4 x3 x2 h) (funext fun x16 => funext fun x14 => funext fun x15 => funext fun x13 => funext fun x12 => funext fun x11 => funext fun x4 => funext fun x3 => funext fun x2 => funext fun h => (seqK_n _ _ _).trans (ep3arrrrlrborlbrr C L x16 x14 x15 x13 x12 x11 x4 x3 x2 h K)))
noncomputable def p3arrrrlrborlb (C : CF) (L : Nat) {β : Type} (x13 x12 x11 x4 x3 x2 : Value) (h : H) (kn : Value → Value → Value → Value → Value → Value → H → Option β) (kr : Value → H → Option β) : Option β :=
  p3arrrrlrborlbl C L x13 x12 x11 x4 x3 x2 h (fun x14 x13 x12 x11 x4 x3 x2 h => p3arrrrlrborlbr C L x14 x13 x12 x11 x4 x3 x2 h kn kr)
theorem ep3arrrrlrborlb (C : CF) (L : Nat) {β : Type} (x13 x12 x11 x4 x3 x2 : Value) (h : H) (K : Ex → T Value → H → Option β) :
    execK Try.prog C L 0 206 [10] c3arrrrlrborlb [13, 12, 11, 4, 3, 2] [(1, [13, 12, 11, 4, 3, 2]), (0, [])] (fs [(13, x13), (12, x12), (11, x11), (4, x4), (3, x3), (2, x2)]) h K =
      p3arrrrlrborlb C L x13 x12 x11 x4 x3 x2 h (fun x13 x12 x11 x4 x3 x2 h => K .normal (fs [(13, x13), (12, x12), (11, x11), (4, x4), (3, x3), (2, x2)]) h) (fun x10 h => K .ret (fs [(10, x10)]) h) := by
  rw [execK_seq (a := c3arrrrlrborlbl) (b := c3arrrrlrborlbr) (by kernel_rfl) (show live [10] c3arrrrlrborlbr [13, 12, 11, 4, 3, 2] [(1, [13, 12, 11, 4, 3, 2]), (0, [])] = [14, 13, 12, 11, 4, 3, 2] by kernel_rfl), ep3arrrrlrborlbl]
  unfold p3arrrrlrborlb
  exact (congrArg (p3arrrrlrborlbl C L x13 x12 x11 x4 x3 x2 h) (funext fun x14 => funext fun x13 => funext fun x12 => funext fun x11 => funext fun x4 => funext fun x3 => funext fun x2 => funext fun h => (seqK_n _ _ _).trans (ep3arrrrlrborlbr C L x14 x13 x12 x11 x4 x3 x2 h K)))
noncomputable def p3arrrrlrborl (C : CF) (L : Nat) {β : Type} (x13 x12 x11 x4 x3 x2 : Value) (h : H) (kn : Value → Value → Value → Value → Value → Value → H → Option β) (kr : Value → H → Option β) : Option β :=
  p3arrrrlrborlb C L x13 x12 x11 x4 x3 x2 h kn kr
theorem ep3arrrrlrborl (C : CF) (L : Nat) {β : Type} (x13 x12 x11 x4 x3 x2 : Value) (h : H) (K : Ex → T Value → H → Option β) :
    execK Try.prog C L 0 206 [10] c3arrrrlrborl [13, 12, 11, 4, 3, 2] [(0, [])] (fs [(13, x13), (12, x12), (11, x11), (4, x4), (3, x3), (2, x2)]) h K =
      p3arrrrlrborl C L x13 x12 x11 x4 x3 x2 h (fun x13 x12 x11 x4 x3 x2 h => K .normal (fs [(13, x13), (12, x12), (11, x11), (4, x4), (3, x3), (2, x2)]) h) (fun x10 h => K .ret (fs [(10, x10)]) h) := by
  rw [execK_block (b := c3arrrrlrborlb) (id := 1) (by kernel_rfl), ep3arrrrlrborlb]
  unfold p3arrrrlrborl
  rfl
noncomputable def c3arrrrlrborr : Code := cR c3arrrrlrbor
noncomputable def p3arrrrlrborr (C : CF) (L : Nat) {β : Type} (x13 x12 x11 x4 x3 x2 : Value) (h : H) (kn : Value → Value → Value → Value → Value → Value → H → Option β) : Option β :=
  bnd (A.bin Try.prog .add 3 x13 (.int .i64 1)) fun t49 =>
  kn t49 x12 x11 x4 x3 x2 h
theorem ep3arrrrlrborr (C : CF) (L : Nat) {β : Type} (x13 x12 x11 x4 x3 x2 : Value) (h : H) (K : Ex → T Value → H → Option β) :
    execK Try.prog C L 0 206 [10] c3arrrrlrborr [13, 12, 11, 4, 3, 2] [(0, [])] (fs [(13, x13), (12, x12), (11, x11), (4, x4), (3, x3), (2, x2)]) h K =
      p3arrrrlrborr C L x13 x12 x11 x4 x3 x2 h (fun x13 x12 x11 x4 x3 x2 h => K .normal (fs [(13, x13), (12, x12), (11, x11), (4, x4), (3, x3), (2, x2)]) h) := by
  kernel_rfl
noncomputable def p3arrrrlrbor (C : CF) (L : Nat) {β : Type} (x13 x12 x11 x4 x3 x2 : Value) (h : H) (kn : Value → Value → Value → Value → Value → Value → H → Option β) (kr : Value → H → Option β) : Option β :=
  p3arrrrlrborl C L x13 x12 x11 x4 x3 x2 h (fun x13 x12 x11 x4 x3 x2 h => p3arrrrlrborr C L x13 x12 x11 x4 x3 x2 h kn) kr
theorem ep3arrrrlrbor (C : CF) (L : Nat) {β : Type} (x13 x12 x11 x4 x3 x2 : Value) (h : H) (K : Ex → T Value → H → Option β) :
    execK Try.prog C L 0 206 [10] c3arrrrlrbor [13, 12, 11, 4, 3, 2] [(0, [])] (fs [(13, x13), (12, x12), (11, x11), (4, x4), (3, x3), (2, x2)]) h K =
      p3arrrrlrbor C L x13 x12 x11 x4 x3 x2 h (fun x13 x12 x11 x4 x3 x2 h => K .normal (fs [(13, x13), (12, x12), (11, x11), (4, x4), (3, x3), (2, x2)]) h) (fun x10 h => K .ret (fs [(10, x10)]) h) := by
  rw [execK_seq (a := c3arrrrlrborl) (b := c3arrrrlrborr) (by kernel_rfl) (show live [10] c3arrrrlrborr [13, 12, 11, 4, 3, 2] [(0, [])] = [13, 12, 11, 4, 3, 2] by kernel_rfl), ep3arrrrlrborl]
  unfold p3arrrrlrbor
  exact (congr (congrArg (p3arrrrlrborl C L x13 x12 x11 x4 x3 x2 h) (funext fun x13 => funext fun x12 => funext fun x11 => funext fun x4 => funext fun x3 => funext fun x2 => funext fun h => (seqK_n _ _ _).trans (ep3arrrrlrborr C L x13 x12 x11 x4 x3 x2 h K))) (funext fun x10 => funext fun h => seqK_r _ _ _))
noncomputable def p3arrrrlrbo (C : CF) (L : Nat) {β : Type} (x13 x12 x11 x4 x3 x2 : Value) (h : H) (kn : Value → Value → Value → Value → Value → Value → H → Option β) (kr : Value → H → Option β) (kx0 : H → Option β) : Option β :=
  p3arrrrlrbol C L x13 x12 x11 x4 x3 x2 h (fun x13 x12 x11 x4 x3 x2 h => p3arrrrlrbor C L x13 x12 x11 x4 x3 x2 h kn kr) kx0
theorem ep3arrrrlrbo (C : CF) (L : Nat) {β : Type} (x13 x12 x11 x4 x3 x2 : Value) (h : H) (K : Ex → T Value → H → Option β) :
    execK Try.prog C L 0 206 [10] c3arrrrlrbo [13, 12, 11, 4, 3, 2] [(0, [])] (fs [(13, x13), (12, x12), (11, x11), (4, x4), (3, x3), (2, x2)]) h K =
      p3arrrrlrbo C L x13 x12 x11 x4 x3 x2 h (fun x13 x12 x11 x4 x3 x2 h => K .normal (fs [(13, x13), (12, x12), (11, x11), (4, x4), (3, x3), (2, x2)]) h) (fun x10 h => K .ret (fs [(10, x10)]) h) (fun h => K (.exit 0) (fs []) h) := by
  rw [execK_seq (a := c3arrrrlrbol) (b := c3arrrrlrbor) (by kernel_rfl) (show live [10] c3arrrrlrbor [13, 12, 11, 4, 3, 2] [(0, [])] = [13, 12, 11, 4, 3, 2] by kernel_rfl), ep3arrrrlrbol]
  unfold p3arrrrlrbo
  exact (congr (congrArg (p3arrrrlrbol C L x13 x12 x11 x4 x3 x2 h) (funext fun x13 => funext fun x12 => funext fun x11 => funext fun x4 => funext fun x3 => funext fun x2 => funext fun h => (seqK_n _ _ _).trans (ep3arrrrlrbor C L x13 x12 x11 x4 x3 x2 h K))) (funext fun h => seqK_x _ _ _ _))
noncomputable def p3arrrrlrbw (C : CF) (L : Nat) {β : Type} (kr : Value → H → Option β) (kx0 : H → Option β) : Nat → Value → Value → Value → Value → Value → Value → H → Option β
  | 0, _, _, _, _, _, _, _ => none
  | n + 1, x13, x12, x11, x4, x3, x2, h => p3arrrrlrbo C L x13 x12 x11 x4 x3 x2 h (fun x13 x12 x11 x4 x3 x2 h => p3arrrrlrbw C L kr kx0 n x13 x12 x11 x4 x3 x2 h) kr kx0
theorem ep3arrrrlrbw (C : CF) (L : Nat) {β : Type} (K : Ex → T Value → H → Option β) : ∀ (n : Nat) (x13 x12 x11 x4 x3 x2 : Value) (h : H),
    loopK (fun fr h K => execK Try.prog C L 0 206 [10] c3arrrrlrbo [13, 12, 11, 4, 3, 2] [(0, [])] fr h K) n (fs [(13, x13), (12, x12), (11, x11), (4, x4), (3, x3), (2, x2)]) h K =
      p3arrrrlrbw C L (fun x10 h => K .ret (fs [(10, x10)]) h) (fun h => K (.exit 0) (fs []) h) n x13 x12 x11 x4 x3 x2 h := by
  intro n
  induction n with
  | zero => intros; rfl
  | succ n ih =>
    intros
    simp only [loopK]
    rw [ep3arrrrlrbo]
    simp only [seqK_n, seqK_x, seqK_r, ih]
    rfl
noncomputable def p3arrrrlrb (C : CF) (L : Nat) {β : Type} (x13 x12 x11 x4 x3 x2 : Value) (h : H) (kr : Value → H → Option β) (kx0 : H → Option β) : Option β :=
  p3arrrrlrbw C L kr kx0 L x13 x12 x11 x4 x3 x2 h
theorem ep3arrrrlrb (C : CF) (L : Nat) {β : Type} (x13 x12 x11 x4 x3 x2 : Value) (h : H) (K : Ex → T Value → H → Option β) :
    execK Try.prog C L 0 206 [10] c3arrrrlrb [] [(0, [])] (fs [(13, x13), (12, x12), (11, x11), (4, x4), (3, x3), (2, x2)]) h K =
      p3arrrrlrb C L x13 x12 x11 x4 x3 x2 h (fun x10 h => K .ret (fs [(10, x10)]) h) (fun h => K (.exit 0) (fs []) h) := by
  rw [execK_loop (b := c3arrrrlrbo) (fr1 := (fs [(13, x13), (12, x12), (11, x11), (4, x4), (3, x3), (2, x2)])) (by kernel_rfl) (show live [10] c3arrrrlrbo [] [(0, [])] = [13, 12, 11, 4, 3, 2] by kernel_rfl) (by kernel_rfl), ep3arrrrlrbw]
  unfold p3arrrrlrb
  rfl
noncomputable def p3arrrrlr (C : CF) (L : Nat) {β : Type} (x13 x12 x11 x4 x3 x2 : Value) (h : H) (kr : Value → H → Option β) (kn : H → Option β) : Option β :=
  p3arrrrlrb C L x13 x12 x11 x4 x3 x2 h kr kn
theorem ep3arrrrlr (C : CF) (L : Nat) {β : Type} (x13 x12 x11 x4 x3 x2 : Value) (h : H) (K : Ex → T Value → H → Option β) :
    execK Try.prog C L 0 206 [10] c3arrrrlr [] [] (fs [(13, x13), (12, x12), (11, x11), (4, x4), (3, x3), (2, x2)]) h K =
      p3arrrrlr C L x13 x12 x11 x4 x3 x2 h (fun x10 h => K .ret (fs [(10, x10)]) h) (fun h => K .normal (fs []) h) := by
  rw [execK_block (b := c3arrrrlrb) (id := 0) (by kernel_rfl), ep3arrrrlrb]
  unfold p3arrrrlr
  rfl
noncomputable def p3arrrrl (C : CF) (L : Nat) {β : Type} (x12 x11 x4 x3 x2 : Value) (h : H) (kr : Value → H → Option β) (kn : H → Option β) : Option β :=
  p3arrrrll C L x12 x11 x4 x3 x2 h (fun x13 x12 x11 x4 x3 x2 h => p3arrrrlr C L x13 x12 x11 x4 x3 x2 h kr kn)
theorem ep3arrrrl (C : CF) (L : Nat) {β : Type} (x12 x11 x4 x3 x2 : Value) (h : H) (K : Ex → T Value → H → Option β) :
    execK Try.prog C L 0 206 [10] c3arrrrl [] [] (fs [(12, x12), (11, x11), (4, x4), (3, x3), (2, x2)]) h K =
      p3arrrrl C L x12 x11 x4 x3 x2 h (fun x10 h => K .ret (fs [(10, x10)]) h) (fun h => K .normal (fs []) h) := by
  rw [execK_seq (a := c3arrrrll) (b := c3arrrrlr) (by kernel_rfl) (show live [10] c3arrrrlr [] [] = [13, 12, 11, 4, 3, 2] by kernel_rfl), ep3arrrrll]
  unfold p3arrrrl
  exact (congrArg (p3arrrrll C L x12 x11 x4 x3 x2 h) (funext fun x13 => funext fun x12 => funext fun x11 => funext fun x4 => funext fun x3 => funext fun x2 => funext fun h => (seqK_n _ _ _).trans (ep3arrrrlr C L x13 x12 x11 x4 x3 x2 h K)))
noncomputable def c3arrrrr : Code := cR c3arrrr
noncomputable def p3arrrrr (C : CF) (L : Nat) {β : Type} (h : H) (kr : Value → H → Option β) : Option β :=
  bnd2 (C 9 [] h) fun t205 hq1 =>
  toBK t205 fun b =>
  kr (.bool b) hq1
theorem ep3arrrrr (C : CF) (L : Nat) {β : Type} (h : H) (K : Ex → T Value → H → Option β) :
    execK Try.prog C L 0 206 [10] c3arrrrr [10] [] (fs []) h K =
      p3arrrrr C L h (fun x10 h => K .ret (fs [(10, x10)]) h) := by
  kernel_rfl
noncomputable def p3arrrr (C : CF) (L : Nat) {β : Type} (x12 x11 x4 x3 x2 : Value) (h : H) (kr : Value → H → Option β) : Option β :=
  p3arrrrl C L x12 x11 x4 x3 x2 h kr (fun h => p3arrrrr C L h kr)
theorem ep3arrrr (C : CF) (L : Nat) {β : Type} (x12 x11 x4 x3 x2 : Value) (h : H) (K : Ex → T Value → H → Option β) :
    execK Try.prog C L 0 206 [10] c3arrrr [10] [] (fs [(12, x12), (11, x11), (4, x4), (3, x3), (2, x2)]) h K =
      p3arrrr C L x12 x11 x4 x3 x2 h (fun x10 h => K .ret (fs [(10, x10)]) h) := by
  rw [execK_seq (a := c3arrrrl) (b := c3arrrrr) (by kernel_rfl) (show live [10] c3arrrrr [10] [] = [] by kernel_rfl), ep3arrrrl]
  unfold p3arrrr
  exact (congr (congrArg (p3arrrrl C L x12 x11 x4 x3 x2 h) (funext fun x10 => funext fun h => seqK_r _ _ _)) (funext fun h => (seqK_n _ _ _).trans (ep3arrrrr C L h K)))
noncomputable def p3arrr (C : CF) (L : Nat) {β : Type} (x12 x11 x4 x3 x2 : Value) (h : H) (kr : Value → H → Option β) : Option β :=
  p3arrrl C L x12 x11 x4 x3 x2 h kr (fun x12 x11 x4 x3 x2 h => p3arrrr C L x12 x11 x4 x3 x2 h kr)
theorem ep3arrr (C : CF) (L : Nat) {β : Type} (x12 x11 x4 x3 x2 : Value) (h : H) (K : Ex → T Value → H → Option β) :
    execK Try.prog C L 0 206 [10] c3arrr [10] [] (fs [(12, x12), (11, x11), (4, x4), (3, x3), (2, x2)]) h K =
      p3arrr C L x12 x11 x4 x3 x2 h (fun x10 h => K .ret (fs [(10, x10)]) h) := by
  rw [execK_seq (a := c3arrrl) (b := c3arrrr) (by kernel_rfl) (show live [10] c3arrrr [10] [] = [12, 11, 4, 3, 2] by kernel_rfl), ep3arrrl]
  unfold p3arrr
  exact (congr (congrArg (p3arrrl C L x12 x11 x4 x3 x2 h) (funext fun x10 => funext fun h => seqK_r _ _ _)) (funext fun x12 => funext fun x11 => funext fun x4 => funext fun x3 => funext fun x2 => funext fun h => (seqK_n _ _ _).trans (ep3arrrr C L x12 x11 x4 x3 x2 h K)))
noncomputable def p3arr (C : CF) (L : Nat) {β : Type} (x0 x1 x4 x3 x2 : Value) (h : H) (kr : Value → H → Option β) : Option β :=
  p3arrl C L x0 x1 x4 x3 x2 h (fun x12 x11 x4 x3 x2 h => p3arrr C L x12 x11 x4 x3 x2 h kr)
theorem ep3arr (C : CF) (L : Nat) {β : Type} (x0 x1 x4 x3 x2 : Value) (h : H) (K : Ex → T Value → H → Option β) :
    execK Try.prog C L 0 206 [10] c3arr [10] [] (fs [(0, x0), (1, x1), (4, x4), (3, x3), (2, x2)]) h K =
      p3arr C L x0 x1 x4 x3 x2 h (fun x10 h => K .ret (fs [(10, x10)]) h) := by
  rw [execK_seq (a := c3arrl) (b := c3arrr) (by kernel_rfl) (show live [10] c3arrr [10] [] = [12, 11, 4, 3, 2] by kernel_rfl), ep3arrl]
  unfold p3arr
  exact (congrArg (p3arrl C L x0 x1 x4 x3 x2 h) (funext fun x12 => funext fun x11 => funext fun x4 => funext fun x3 => funext fun x2 => funext fun h => (seqK_n _ _ _).trans (ep3arrr C L x12 x11 x4 x3 x2 h K)))
noncomputable def p3ar (C : CF) (L : Nat) {β : Type} (x0 x1 x4 x3 x2 : Value) (h : H) (kr : Value → H → Option β) : Option β :=
  p3arl C L x0 x1 x4 x3 x2 h kr (fun x0 x1 x4 x3 x2 h => p3arr C L x0 x1 x4 x3 x2 h kr)
theorem ep3ar (C : CF) (L : Nat) {β : Type} (x0 x1 x4 x3 x2 : Value) (h : H) (K : Ex → T Value → H → Option β) :
    execK Try.prog C L 0 206 [10] c3ar [10] [] (fs [(0, x0), (1, x1), (4, x4), (3, x3), (2, x2)]) h K =
      p3ar C L x0 x1 x4 x3 x2 h (fun x10 h => K .ret (fs [(10, x10)]) h) := by
  rw [execK_seq (a := c3arl) (b := c3arr) (by kernel_rfl) (show live [10] c3arr [10] [] = [0, 1, 4, 3, 2] by kernel_rfl), ep3arl]
  unfold p3ar
  exact (congr (congrArg (p3arl C L x0 x1 x4 x3 x2 h) (funext fun x10 => funext fun h => seqK_r _ _ _)) (funext fun x0 => funext fun x1 => funext fun x4 => funext fun x3 => funext fun x2 => funext fun h => (seqK_n _ _ _).trans (ep3arr C L x0 x1 x4 x3 x2 h K)))
noncomputable def p3a (C : CF) (L : Nat) {β : Type} (x0 x1 x2 x3 x4 : Value) (h : H) (kr : Value → H → Option β) : Option β :=
  p3al C L x0 x1 x2 x3 x4 h (fun x0 x1 x4 x3 x2 h => p3ar C L x0 x1 x4 x3 x2 h kr)
theorem ep3a (C : CF) (L : Nat) {β : Type} (x0 x1 x2 x3 x4 : Value) (h : H) (K : Ex → T Value → H → Option β) :
    execK Try.prog C L 0 206 [10] c3a [10] [] (fs [(0, x0), (1, x1), (2, x2), (3, x3), (4, x4)]) h K =
      p3a C L x0 x1 x2 x3 x4 h (fun x10 h => K .ret (fs [(10, x10)]) h) := by
  rw [execK_seq (a := c3al) (b := c3ar) (by kernel_rfl) (show live [10] c3ar [10] [] = [0, 1, 4, 3, 2] by kernel_rfl), ep3al]
  unfold p3a
  exact (congrArg (p3al C L x0 x1 x2 x3 x4 h) (funext fun x0 => funext fun x1 => funext fun x4 => funext fun x3 => funext fun x2 => funext fun h => (seqK_n _ _ _).trans (ep3ar C L x0 x1 x4 x3 x2 h K)))
noncomputable def F3 (C : CF) (L : Nat) (x0 x1 x2 x3 x4 : Value) (h : H) : Option (Value × H) :=
  p3a C L x0 x1 x2 x3 x4 h
    (fun x10 h => some (x10, h))
theorem F3eq (O : List FuncId) (hO : O.any (Nat.beq 3) = false) (n : Nat) (x0 x1 x2 x3 x4 : Value) (h : H) : callB Try.prog 0 O (n + 1) 3 [x0, x1, x2, x3, x4] h = F3 (callB Try.prog 0 O n) n x0 x1 x2 x3 x4 h := by
  rw [callB_eq hO (c := c3a) (nt := 206) (RR := [10]) (fr := (fs [(0, x0), (1, x1), (2, x2), (3, x3), (4, x4)])) Try.func3 (by kernel_rfl) (by kernel_rfl) (by kernel_rfl) (by kernel_rfl) (by kernel_rfl), ep3a]
  kernel_rfl
noncomputable def c11a : Code := (Try.f11.body).getD .skip
noncomputable def c11al : Code := cL c11a
noncomputable def p11al (C : CF) (L : Nat) {β : Type} (x0 x1 : Value) (h : H) (kn : Value → Value → H → Option β) : Option β :=
  kn x0 x1 h
theorem ep11al (C : CF) (L : Nat) {β : Type} (x0 x1 : Value) (h : H) (K : Ex → T Value → H → Option β) :
    execK Try.prog C L 0 23 [4] c11al [0, 1] [] (fs [(0, x0), (1, x1)]) h K =
      p11al C L x0 x1 h (fun x0 x1 h => K .normal (fs [(0, x0), (1, x1)]) h) := by
  kernel_rfl
noncomputable def c11ar : Code := cR c11a
noncomputable def c11arl : Code := cL c11ar
noncomputable def c11arll : Code := cL c11arl
noncomputable def p11arll (C : CF) (L : Nat) {β : Type} (x0 x1 : Value) (h : H) (kn : Value → Value → Value → H → Option β) : Option β :=
  bnd (A.bin Try.prog .lss 3 x0 (.int .i64 1)) fun t6 =>
  toBK t6 fun b =>
  (bif b then
  kn (.bool true) x0 x1 h
  else
  bnd (A.bin Try.prog .gtr 3 x0 (.int .i64 64)) fun t9 =>
  toBK t9 fun bq1 =>
  (bif bq1 then
  kn (.bool true) x0 x1 h
  else
  bnd (A.bin Try.prog .lss 3 x1 (.int .i64 1)) fun t13 =>
  toBK t13 fun bq2 =>
  (bif bq2 then
  kn (.bool true) x0 x1 h
  else
  bnd (A.bin Try.prog .gtr 3 x1 (.int .i64 64)) fun t17 =>
  toBK t17 fun bq3 =>
  kn (.bool bq3) x0 x1 h)))
theorem ep11arll (C : CF) (L : Nat) {β : Type} (x0 x1 : Value) (h : H) (K : Ex → T Value → H → Option β) :
    execK Try.prog C L 0 23 [4] c11arll [18, 0, 1] [] (fs [(0, x0), (1, x1)]) h K =
      p11arll C L x0 x1 h (fun x18 x0 x1 h => K .normal (fs [(18, x18), (0, x0), (1, x1)]) h) := by
  kernel_rfl
noncomputable def c11arlr : Code := cR c11arl
noncomputable def p11arlr (C : CF) (L : Nat) {β : Type} (x18 x0 x1 : Value) (h : H) (kr : Value → H → Option β) (kn : Value → Value → H → Option β) : Option β :=
  condV x18 (
  kr (.pointer none) h) (
  kn x0 x1 h)
theorem ep11arlr (C : CF) (L : Nat) {β : Type} (x18 x0 x1 : Value) (h : H) (K : Ex → T Value → H → Option β) :
    execK Try.prog C L 0 23 [4] c11arlr [0, 1] [] (fs [(18, x18), (0, x0), (1, x1)]) h K =
      p11arlr C L x18 x0 x1 h (fun x4 h => K .ret (fs [(4, x4)]) h) (fun x0 x1 h => K .normal (fs [(0, x0), (1, x1)]) h) := by
  kernel_rfl
noncomputable def p11arl (C : CF) (L : Nat) {β : Type} (x0 x1 : Value) (h : H) (kr : Value → H → Option β) (kn : Value → Value → H → Option β) : Option β :=
  p11arll C L x0 x1 h (fun x18 x0 x1 h => p11arlr C L x18 x0 x1 h kr kn)
theorem ep11arl (C : CF) (L : Nat) {β : Type} (x0 x1 : Value) (h : H) (K : Ex → T Value → H → Option β) :
    execK Try.prog C L 0 23 [4] c11arl [0, 1] [] (fs [(0, x0), (1, x1)]) h K =
      p11arl C L x0 x1 h (fun x4 h => K .ret (fs [(4, x4)]) h) (fun x0 x1 h => K .normal (fs [(0, x0), (1, x1)]) h) := by
  rw [execK_seq (a := c11arll) (b := c11arlr) (by kernel_rfl) (show live [4] c11arlr [0, 1] [] = [18, 0, 1] by kernel_rfl), ep11arll]
  unfold p11arl
  exact (congrArg (p11arll C L x0 x1 h) (funext fun x18 => funext fun x0 => funext fun x1 => funext fun h => (seqK_n _ _ _).trans (ep11arlr C L x18 x0 x1 h K)))
noncomputable def c11arr : Code := cR c11ar
noncomputable def p11arr (C : CF) (L : Nat) {β : Type} (x0 x1 : Value) (h : H) (kr : Value → H → Option β) : Option β :=
  bnd (A.build Z54L [(0, 1, x0), (1, 1, x1)]) fun t21 =>
  bnd2 (A.box 3 t21 h) fun t22 hq1 =>
  kr t22 hq1
theorem ep11arr (C : CF) (L : Nat) {β : Type} (x0 x1 : Value) (h : H) (K : Ex → T Value → H → Option β) :
    execK Try.prog C L 0 23 [4] c11arr [4] [] (fs [(0, x0), (1, x1)]) h K =
      p11arr C L x0 x1 h (fun x4 h => K .ret (fs [(4, x4)]) h) := by
  kernel_rfl
noncomputable def p11ar (C : CF) (L : Nat) {β : Type} (x0 x1 : Value) (h : H) (kr : Value → H → Option β) : Option β :=
  p11arl C L x0 x1 h kr (fun x0 x1 h => p11arr C L x0 x1 h kr)
theorem ep11ar (C : CF) (L : Nat) {β : Type} (x0 x1 : Value) (h : H) (K : Ex → T Value → H → Option β) :
    execK Try.prog C L 0 23 [4] c11ar [4] [] (fs [(0, x0), (1, x1)]) h K =
      p11ar C L x0 x1 h (fun x4 h => K .ret (fs [(4, x4)]) h) := by
  rw [execK_seq (a := c11arl) (b := c11arr) (by kernel_rfl) (show live [4] c11arr [4] [] = [0, 1] by kernel_rfl), ep11arl]
  unfold p11ar
  exact (congr (congrArg (p11arl C L x0 x1 h) (funext fun x4 => funext fun h => seqK_r _ _ _)) (funext fun x0 => funext fun x1 => funext fun h => (seqK_n _ _ _).trans (ep11arr C L x0 x1 h K)))
noncomputable def p11a (C : CF) (L : Nat) {β : Type} (x0 x1 : Value) (h : H) (kr : Value → H → Option β) : Option β :=
  p11al C L x0 x1 h (fun x0 x1 h => p11ar C L x0 x1 h kr)
theorem ep11a (C : CF) (L : Nat) {β : Type} (x0 x1 : Value) (h : H) (K : Ex → T Value → H → Option β) :
    execK Try.prog C L 0 23 [4] c11a [4] [] (fs [(0, x0), (1, x1)]) h K =
      p11a C L x0 x1 h (fun x4 h => K .ret (fs [(4, x4)]) h) := by
  rw [execK_seq (a := c11al) (b := c11ar) (by kernel_rfl) (show live [4] c11ar [4] [] = [0, 1] by kernel_rfl), ep11al]
  unfold p11a
  exact (congrArg (p11al C L x0 x1 h) (funext fun x0 => funext fun x1 => funext fun h => (seqK_n _ _ _).trans (ep11ar C L x0 x1 h K)))
noncomputable def F11 (C : CF) (L : Nat) (x0 x1 : Value) (h : H) : Option (Value × H) :=
  p11a C L x0 x1 h
    (fun x4 h => some (x4, h))
theorem F11eq (O : List FuncId) (hO : O.any (Nat.beq 11) = false) (n : Nat) (x0 x1 : Value) (h : H) : callB Try.prog 0 O (n + 1) 11 [x0, x1] h = F11 (callB Try.prog 0 O n) n x0 x1 h := by
  rw [callB_eq hO (c := c11a) (nt := 23) (RR := [4]) (fr := (fs [(0, x0), (1, x1)])) Try.func11 (by kernel_rfl) (by kernel_rfl) (by kernel_rfl) (by kernel_rfl) (by kernel_rfl), ep11a]
  kernel_rfl
noncomputable def c13a : Code := (Try.f13.body).getD .skip
noncomputable def p13a (C : CF) (L : Nat) {β : Type} (x0 x1 x2 x3 : Value) (h : H) (kr : Value → Value → H → Option β) : Option β :=
  bnd2 (C 15 [x0, x1, x2, x3] h) fun t19 hq1 =>
  bnd (A.extract 0 t19) fun t20 =>
  bnd (A.extract 1 t19) fun t21 =>
  toBK t21 fun b =>
  (bif b then
  bnd2 (C 36 [x0, x1, x2, x3] hq1) fun t27 hq2 =>
  bnd (A.nilCheck t27) fun t31 =>
  bnd (A.fieldAddr 3 t31) fun t32 =>
  bnd (A.load false 1 t32 hq2) fun t33 =>
  bnd (A.sliceS 1 t33 (some (.int .i64 1)) none none hq2) fun t34 =>
  bnd2 (A.append 1 24 (.slice none 0 0) t34 hq2) fun t35 hq3 =>
  bnd (A.nilCheck t27) fun t36 =>
  bnd (A.fieldAddr 3 t36) fun t37 =>
  bnd (A.store 1 t37 t35 hq3) fun hq4 =>
  kr t20 (.bool b) hq4
  else
  kr t20 (.bool b) hq1)
theorem ep13a (C : CF) (L : Nat) {β : Type} (x0 x1 x2 x3 : Value) (h : H) (K : Ex → T Value → H → Option β) :
    execK Try.prog C L 0 40 [8, 9] c13a [8, 9] [] (fs [(0, x0), (1, x1), (2, x2), (3, x3)]) h K =
      p13a C L x0 x1 x2 x3 h (fun x8 x9 h => K .ret (fs [(8, x8), (9, x9)]) h) := by
  kernel_rfl
noncomputable def F13 (C : CF) (L : Nat) (x0 x1 x2 x3 : Value) (h : H) : Option (Value × H) :=
  p13a C L x0 x1 x2 x3 h
    (fun x8 x9 h => some (.tuple ⟨[x8, x9]⟩, h))
theorem F13eq (O : List FuncId) (hO : O.any (Nat.beq 13) = false) (n : Nat) (x0 x1 x2 x3 : Value) (h : H) : callB Try.prog 0 O (n + 1) 13 [x0, x1, x2, x3] h = F13 (callB Try.prog 0 O n) n x0 x1 x2 x3 h := by
  rw [callB_eq hO (c := c13a) (nt := 40) (RR := [8, 9]) (fr := (fs [(0, x0), (1, x1), (2, x2), (3, x3)])) Try.func13 (by kernel_rfl) (by kernel_rfl) (by kernel_rfl) (by kernel_rfl) (by kernel_rfl), ep13a]
  kernel_rfl
noncomputable def c15a : Code := (Try.f15.body).getD .skip
noncomputable def p15a (C : CF) (L : Nat) {β : Type} (x0 x1 x2 x3 : Value) (h : H) (kr : Value → Value → H → Option β) : Option β :=
  bnd2 (C 36 [x0, x1, x2, x3] h) fun t15 hq1 =>
  bnd (A.bin Try.prog .eql 57 t15 (.pointer none)) fun t17 =>
  toBK t17 fun b =>
  (bif b then
  kr (.slice none 0 0) (.bool false) hq1
  else
  bnd (A.nilCheck t15) fun t20 =>
  bnd (A.fieldAddr 3 t20) fun t21 =>
  bnd (A.load false 1 t21 hq1) fun t22 =>
  bnd (A.lenS t22) fun t23 =>
  bnd (A.bin Try.prog .eql 3 t23 (.int .i64 0)) fun t24 =>
  toBK t24 fun bq1 =>
  (bif bq1 then
  kr (.slice none 0 0) (.bool false) hq1
  else
  bnd (A.nilCheck t15) fun t27 =>
  bnd (A.fieldAddr 3 t27) fun t28 =>
  bnd (A.load false 1 t28 hq1) fun t29 =>
  bnd (A.idxS 1 t29 (.int .i64 0)) fun t30 =>
  bnd (A.load false 1 t30 hq1) fun t31 =>
  bnd2 (C 16 [t31] hq1) fun t32 hq2 =>
  kr t32 (.bool true) hq2))
theorem ep15a (C : CF) (L : Nat) {β : Type} (x0 x1 x2 x3 : Value) (h : H) (K : Ex → T Value → H → Option β) :
    execK Try.prog C L 0 33 [8, 9] c15a [8, 9] [] (fs [(0, x0), (1, x1), (2, x2), (3, x3)]) h K =
      p15a C L x0 x1 x2 x3 h (fun x8 x9 h => K .ret (fs [(8, x8), (9, x9)]) h) := by
  kernel_rfl
noncomputable def F15 (C : CF) (L : Nat) (x0 x1 x2 x3 : Value) (h : H) : Option (Value × H) :=
  p15a C L x0 x1 x2 x3 h
    (fun x8 x9 h => some (.tuple ⟨[x8, x9]⟩, h))
theorem F15eq (O : List FuncId) (hO : O.any (Nat.beq 15) = false) (n : Nat) (x0 x1 x2 x3 : Value) (h : H) : callB Try.prog 0 O (n + 1) 15 [x0, x1, x2, x3] h = F15 (callB Try.prog 0 O n) n x0 x1 x2 x3 h := by
  rw [callB_eq hO (c := c15a) (nt := 33) (RR := [8, 9]) (fr := (fs [(0, x0), (1, x1), (2, x2), (3, x3)])) Try.func15 (by kernel_rfl) (by kernel_rfl) (by kernel_rfl) (by kernel_rfl) (by kernel_rfl), ep15a]
  kernel_rfl
noncomputable def c18a : Code := (Try.f18.body).getD .skip
noncomputable def c18al : Code := cL c18a
noncomputable def p18al (C : CF) (L : Nat) {β : Type} (x0 x1 x2 x3 x4 : Value) (h : H) (kn : Value → Value → Value → Value → Value → H → Option β) : Option β :=
  kn x1 x2 x3 x0 x4 h
theorem ep18al (C : CF) (L : Nat) {β : Type} (x0 x1 x2 x3 x4 : Value) (h : H) (K : Ex → T Value → H → Option β) :
    execK Try.prog C L 0 51 [10] c18al [1, 2, 3, 0, 4] [] (fs [(0, x0), (1, x1), (2, x2), (3, x3), (4, x4)]) h K =
      p18al C L x0 x1 x2 x3 x4 h (fun x1 x2 x3 x0 x4 h => K .normal (fs [(1, x1), (2, x2), (3, x3), (0, x0), (4, x4)]) h) := by
  kernel_rfl
noncomputable def c18ar : Code := cR c18a
noncomputable def c18arl : Code := cL c18ar
noncomputable def p18arl (C : CF) (L : Nat) {β : Type} (x1 x2 x3 x0 x4 : Value) (h : H) (kn : Value → Value → Value → H → Option β) : Option β :=
  bnd2 (C 36 [x0, x1, x2, x3] h) fun t17 hq1 =>
  kn x0 t17 x4 hq1
theorem ep18arl (C : CF) (L : Nat) {β : Type} (x1 x2 x3 x0 x4 : Value) (h : H) (K : Ex → T Value → H → Option β) :
    execK Try.prog C L 0 51 [10] c18arl [0, 11, 4] [] (fs [(1, x1), (2, x2), (3, x3), (0, x0), (4, x4)]) h K =
      p18arl C L x1 x2 x3 x0 x4 h (fun x0 x11 x4 h => K .normal (fs [(0, x0), (11, x11), (4, x4)]) h) := by
  kernel_rfl
noncomputable def c18arr : Code := cR c18ar
noncomputable def c18arrl : Code := cL c18arr
noncomputable def c18arrll : Code := cL c18arrl
noncomputable def p18arrll (C : CF) (L : Nat) {β : Type} (x0 x11 x4 : Value) (h : H) (kn : Value → Value → Value → H → Option β) : Option β :=
  bnd (A.bin Try.prog .eql 57 x11 (.pointer none)) fun t19 =>
  toBK t19 fun b =>
  (bif b then
  kn (.bool true) x11 x4 h
  else
  bnd (A.lenS x4) fun t22 =>
  bnd (A.bin Try.prog .eql 3 t22 (.int .i64 0)) fun t23 =>
  toBK t23 fun bq1 =>
  (bif bq1 then
  kn (.bool true) x11 x4 h
  else
  bnd (A.nilCheck x11) fun t27 =>
  bnd (A.fieldAddr 3 t27) fun t28 =>
  bnd (A.load false 1 t28 h) fun t29 =>
  bnd (A.lenS t29) fun t30 =>
  bnd (A.nilCheck x0) fun t32 =>
  bnd (A.fieldAddr 1 t32) fun t33 =>
  bnd (A.load false 1 t33 h) fun t34 =>
  bnd (A.bin Try.prog .geq 3 t30 t34) fun t35 =>
  toBK t35 fun bq2 =>
  kn (.bool bq2) x11 x4 h))
theorem ep18arrll (C : CF) (L : Nat) {β : Type} (x0 x11 x4 : Value) (h : H) (K : Ex → T Value → H → Option β) :
    execK Try.prog C L 0 51 [10] c18arrll [36, 11, 4] [] (fs [(0, x0), (11, x11), (4, x4)]) h K =
      p18arrll C L x0 x11 x4 h (fun x36 x11 x4 h => K .normal (fs [(36, x36), (11, x11), (4, x4)]) h) := by
  kernel_rfl
noncomputable def c18arrlr : Code := cR c18arrl
noncomputable def p18arrlr (C : CF) (L : Nat) {β : Type} (x36 x11 x4 : Value) (h : H) (kr : Value → H → Option β) (kn : Value → Value → H → Option β) : Option β :=
  condV x36 (
  kr (.bool false) h) (
  kn x11 x4 h)
theorem ep18arrlr (C : CF) (L : Nat) {β : Type} (x36 x11 x4 : Value) (h : H) (K : Ex → T Value → H → Option β) :
    execK Try.prog C L 0 51 [10] c18arrlr [11, 4] [] (fs [(36, x36), (11, x11), (4, x4)]) h K =
      p18arrlr C L x36 x11 x4 h (fun x10 h => K .ret (fs [(10, x10)]) h) (fun x11 x4 h => K .normal (fs [(11, x11), (4, x4)]) h) := by
  kernel_rfl
noncomputable def p18arrl (C : CF) (L : Nat) {β : Type} (x0 x11 x4 : Value) (h : H) (kr : Value → H → Option β) (kn : Value → Value → H → Option β) : Option β :=
  p18arrll C L x0 x11 x4 h (fun x36 x11 x4 h => p18arrlr C L x36 x11 x4 h kr kn)
theorem ep18arrl (C : CF) (L : Nat) {β : Type} (x0 x11 x4 : Value) (h : H) (K : Ex → T Value → H → Option β) :
    execK Try.prog C L 0 51 [10] c18arrl [11, 4] [] (fs [(0, x0), (11, x11), (4, x4)]) h K =
      p18arrl C L x0 x11 x4 h (fun x10 h => K .ret (fs [(10, x10)]) h) (fun x11 x4 h => K .normal (fs [(11, x11), (4, x4)]) h) := by
  rw [execK_seq (a := c18arrll) (b := c18arrlr) (by kernel_rfl) (show live [10] c18arrlr [11, 4] [] = [36, 11, 4] by kernel_rfl), ep18arrll]
  unfold p18arrl
  exact (congrArg (p18arrll C L x0 x11 x4 h) (funext fun x36 => funext fun x11 => funext fun x4 => funext fun h => (seqK_n _ _ _).trans (ep18arrlr C L x36 x11 x4 h K)))
noncomputable def c18arrr : Code := cR c18arr
noncomputable def p18arrr (C : CF) (L : Nat) {β : Type} (x11 x4 : Value) (h : H) (kr : Value → H → Option β) : Option β :=
  bnd (A.nilCheck x11) fun t39 =>
  bnd (A.fieldAddr 3 t39) fun t40 =>
  bnd (A.load false 1 t40 h) fun t41 =>
  bnd2 (A.append 1 24 (.slice none 0 0) t41 h) fun t42 hq1 =>
  bnd2 (C 16 [x4] hq1) fun t46 hq2 =>
  bnd2 (A.buildSlice 1 1 Z29L [(0, 1, t46)] hq2) fun t47 hq3 =>
  bnd2 (A.append 1 24 t42 t47 hq3) fun t48 hq4 =>
  bnd (A.nilCheck x11) fun t49 =>
  bnd (A.fieldAddr 3 t49) fun t50 =>
  bnd (A.store 1 t50 t48 hq4) fun hq5 =>
  kr (.bool true) hq5
theorem ep18arrr (C : CF) (L : Nat) {β : Type} (x11 x4 : Value) (h : H) (K : Ex → T Value → H → Option β) :
    execK Try.prog C L 0 51 [10] c18arrr [10] [] (fs [(11, x11), (4, x4)]) h K =
      p18arrr C L x11 x4 h (fun x10 h => K .ret (fs [(10, x10)]) h) := by
  kernel_rfl
noncomputable def p18arr (C : CF) (L : Nat) {β : Type} (x0 x11 x4 : Value) (h : H) (kr : Value → H → Option β) : Option β :=
  p18arrl C L x0 x11 x4 h kr (fun x11 x4 h => p18arrr C L x11 x4 h kr)
theorem ep18arr (C : CF) (L : Nat) {β : Type} (x0 x11 x4 : Value) (h : H) (K : Ex → T Value → H → Option β) :
    execK Try.prog C L 0 51 [10] c18arr [10] [] (fs [(0, x0), (11, x11), (4, x4)]) h K =
      p18arr C L x0 x11 x4 h (fun x10 h => K .ret (fs [(10, x10)]) h) := by
  rw [execK_seq (a := c18arrl) (b := c18arrr) (by kernel_rfl) (show live [10] c18arrr [10] [] = [11, 4] by kernel_rfl), ep18arrl]
  unfold p18arr
  exact (congr (congrArg (p18arrl C L x0 x11 x4 h) (funext fun x10 => funext fun h => seqK_r _ _ _)) (funext fun x11 => funext fun x4 => funext fun h => (seqK_n _ _ _).trans (ep18arrr C L x11 x4 h K)))
noncomputable def p18ar (C : CF) (L : Nat) {β : Type} (x1 x2 x3 x0 x4 : Value) (h : H) (kr : Value → H → Option β) : Option β :=
  p18arl C L x1 x2 x3 x0 x4 h (fun x0 x11 x4 h => p18arr C L x0 x11 x4 h kr)
theorem ep18ar (C : CF) (L : Nat) {β : Type} (x1 x2 x3 x0 x4 : Value) (h : H) (K : Ex → T Value → H → Option β) :
    execK Try.prog C L 0 51 [10] c18ar [10] [] (fs [(1, x1), (2, x2), (3, x3), (0, x0), (4, x4)]) h K =
      p18ar C L x1 x2 x3 x0 x4 h (fun x10 h => K .ret (fs [(10, x10)]) h) := by
  rw [execK_seq (a := c18arl) (b := c18arr) (by kernel_rfl) (show live [10] c18arr [10] [] = [0, 11, 4] by kernel_rfl), ep18arl]
  unfold p18ar
  exact (congrArg (p18arl C L x1 x2 x3 x0 x4 h) (funext fun x0 => funext fun x11 => funext fun x4 => funext fun h => (seqK_n _ _ _).trans (ep18arr C L x0 x11 x4 h K)))
noncomputable def p18a (C : CF) (L : Nat) {β : Type} (x0 x1 x2 x3 x4 : Value) (h : H) (kr : Value → H → Option β) : Option β :=
  p18al C L x0 x1 x2 x3 x4 h (fun x1 x2 x3 x0 x4 h => p18ar C L x1 x2 x3 x0 x4 h kr)
theorem ep18a (C : CF) (L : Nat) {β : Type} (x0 x1 x2 x3 x4 : Value) (h : H) (K : Ex → T Value → H → Option β) :
    execK Try.prog C L 0 51 [10] c18a [10] [] (fs [(0, x0), (1, x1), (2, x2), (3, x3), (4, x4)]) h K =
      p18a C L x0 x1 x2 x3 x4 h (fun x10 h => K .ret (fs [(10, x10)]) h) := by
  rw [execK_seq (a := c18al) (b := c18ar) (by kernel_rfl) (show live [10] c18ar [10] [] = [1, 2, 3, 0, 4] by kernel_rfl), ep18al]
  unfold p18a
  exact (congrArg (p18al C L x0 x1 x2 x3 x4 h) (funext fun x1 => funext fun x2 => funext fun x3 => funext fun x0 => funext fun x4 => funext fun h => (seqK_n _ _ _).trans (ep18ar C L x1 x2 x3 x0 x4 h K)))
noncomputable def F18 (C : CF) (L : Nat) (x0 x1 x2 x3 x4 : Value) (h : H) : Option (Value × H) :=
  p18a C L x0 x1 x2 x3 x4 h
    (fun x10 h => some (x10, h))
theorem F18eq (O : List FuncId) (hO : O.any (Nat.beq 18) = false) (n : Nat) (x0 x1 x2 x3 x4 : Value) (h : H) : callB Try.prog 0 O (n + 1) 18 [x0, x1, x2, x3, x4] h = F18 (callB Try.prog 0 O n) n x0 x1 x2 x3 x4 h := by
  rw [callB_eq hO (c := c18a) (nt := 51) (RR := [10]) (fr := (fs [(0, x0), (1, x1), (2, x2), (3, x3), (4, x4)])) Try.func18 (by kernel_rfl) (by kernel_rfl) (by kernel_rfl) (by kernel_rfl) (by kernel_rfl), ep18a]
  kernel_rfl
noncomputable def c22a : Code := (Try.f22.body).getD .skip
noncomputable def c22al : Code := cL c22a
noncomputable def p22al (C : CF) (L : Nat) {β : Type} (x0 x1 x2 : Value) (h : H) (kn : Value → Value → Value → H → Option β) : Option β :=
  kn x0 x2 x1 h
theorem ep22al (C : CF) (L : Nat) {β : Type} (x0 x1 x2 : Value) (h : H) (K : Ex → T Value → H → Option β) :
    execK Try.prog C L 0 79 [6] c22al [0, 2, 1] [] (fs [(0, x0), (1, x1), (2, x2)]) h K =
      p22al C L x0 x1 x2 h (fun x0 x2 x1 h => K .normal (fs [(0, x0), (2, x2), (1, x1)]) h) := by
  kernel_rfl
noncomputable def c22ar : Code := cR c22a
noncomputable def c22arl : Code := cL c22ar
noncomputable def c22arll : Code := cL c22arl
noncomputable def p22arll (C : CF) (L : Nat) {β : Type} (x0 x2 x1 : Value) (h : H) (kn : Value → Value → Value → Value → H → Option β) : Option β :=
  bnd (A.bin Try.prog .lss 3 x1 (.int .i64 0)) fun t9 =>
  toBK t9 fun b =>
  (bif b then
  kn (.bool true) x0 x2 x1 h
  else
  bnd (A.nilCheck x0) fun t13 =>
  bnd (A.fieldAddr 0 t13) fun t14 =>
  bnd (A.load false 1 t14 h) fun t15 =>
  bnd (A.bin Try.prog .geq 3 x1 t15) fun t16 =>
  toBK t16 fun bq1 =>
  (bif bq1 then
  kn (.bool true) x0 x2 x1 h
  else
  bnd (A.bin Try.prog .lss 3 x2 (.int .i64 0)) fun t20 =>
  toBK t20 fun bq2 =>
  (bif bq2 then
  kn (.bool true) x0 x2 x1 h
  else
  bnd (A.bin Try.prog .gtr 3 x2 (.int .i64 7)) fun t24 =>
  toBK t24 fun bq3 =>
  kn (.bool bq3) x0 x2 x1 h)))
theorem ep22arll (C : CF) (L : Nat) {β : Type} (x0 x2 x1 : Value) (h : H) (K : Ex → T Value → H → Option β) :
    execK Try.prog C L 0 79 [6] c22arll [25, 0, 2, 1] [] (fs [(0, x0), (2, x2), (1, x1)]) h K =
      p22arll C L x0 x2 x1 h (fun x25 x0 x2 x1 h => K .normal (fs [(25, x25), (0, x0), (2, x2), (1, x1)]) h) := by
  kernel_rfl
noncomputable def c22arlr : Code := cR c22arl
noncomputable def p22arlr (C : CF) (L : Nat) {β : Type} (x25 x0 x2 x1 : Value) (h : H) (kr : Value → H → Option β) (kn : Value → Value → Value → H → Option β) : Option β :=
  condV x25 (
  kr (.bool false) h) (
  kn x0 x2 x1 h)
theorem ep22arlr (C : CF) (L : Nat) {β : Type} (x25 x0 x2 x1 : Value) (h : H) (K : Ex → T Value → H → Option β) :
    execK Try.prog C L 0 79 [6] c22arlr [0, 2, 1] [] (fs [(25, x25), (0, x0), (2, x2), (1, x1)]) h K =
      p22arlr C L x25 x0 x2 x1 h (fun x6 h => K .ret (fs [(6, x6)]) h) (fun x0 x2 x1 h => K .normal (fs [(0, x0), (2, x2), (1, x1)]) h) := by
  kernel_rfl
noncomputable def p22arl (C : CF) (L : Nat) {β : Type} (x0 x2 x1 : Value) (h : H) (kr : Value → H → Option β) (kn : Value → Value → Value → H → Option β) : Option β :=
  p22arll C L x0 x2 x1 h (fun x25 x0 x2 x1 h => p22arlr C L x25 x0 x2 x1 h kr kn)
theorem ep22arl (C : CF) (L : Nat) {β : Type} (x0 x2 x1 : Value) (h : H) (K : Ex → T Value → H → Option β) :
    execK Try.prog C L 0 79 [6] c22arl [0, 2, 1] [] (fs [(0, x0), (2, x2), (1, x1)]) h K =
      p22arl C L x0 x2 x1 h (fun x6 h => K .ret (fs [(6, x6)]) h) (fun x0 x2 x1 h => K .normal (fs [(0, x0), (2, x2), (1, x1)]) h) := by
  rw [execK_seq (a := c22arll) (b := c22arlr) (by kernel_rfl) (show live [6] c22arlr [0, 2, 1] [] = [25, 0, 2, 1] by kernel_rfl), ep22arll]
  unfold p22arl
  exact (congrArg (p22arll C L x0 x2 x1 h) (funext fun x25 => funext fun x0 => funext fun x2 => funext fun x1 => funext fun h => (seqK_n _ _ _).trans (ep22arlr C L x25 x0 x2 x1 h K)))
noncomputable def c22arr : Code := cR c22ar
noncomputable def c22arrl : Code := cL c22arr
noncomputable def c22arrll : Code := cL c22arrl
noncomputable def p22arrll (C : CF) (L : Nat) {β : Type} (x0 x2 x1 : Value) (h : H) (kn : Value → Value → Value → Value → H → Option β) : Option β :=
  kn (.int .i64 0) x0 x2 x1 h
theorem ep22arrll (C : CF) (L : Nat) {β : Type} (x0 x2 x1 : Value) (h : H) (K : Ex → T Value → H → Option β) :
    execK Try.prog C L 0 79 [6] c22arrll [7, 0, 2, 1] [] (fs [(0, x0), (2, x2), (1, x1)]) h K =
      p22arrll C L x0 x2 x1 h (fun x7 x0 x2 x1 h => K .normal (fs [(7, x7), (0, x0), (2, x2), (1, x1)]) h) := by
  kernel_rfl
noncomputable def c22arrlr : Code := cR c22arrl
noncomputable def c22arrlrb : Code := cL c22arrlr
noncomputable def c22arrlrbo : Code := cL c22arrlrb
noncomputable def c22arrlrbol : Code := cL c22arrlrbo
noncomputable def p22arrlrbol (C : CF) (L : Nat) {β : Type} (x7 x0 x2 x1 : Value) (h : H) (kn : Value → Value → Value → Value → H → Option β) (kx0 : H → Option β) : Option β :=
  bnd (A.nilCheck x0) fun t28 =>
  bnd (A.fieldAddr 2 t28) fun t29 =>
  bnd (A.load false 1 t29 h) fun t30 =>
  bnd (A.lenS t30) fun t31 =>
  bnd (A.bin Try.prog .lss 3 x7 t31) fun t32 =>
  toBK t32 fun b =>
  (bif b then
  kn x7 x0 x2 x1 h
  else
  kx0 h)
theorem ep22arrlrbol (C : CF) (L : Nat) {β : Type} (x7 x0 x2 x1 : Value) (h : H) (K : Ex → T Value → H → Option β) :
    execK Try.prog C L 0 79 [6] c22arrlrbol [7, 0, 2, 1] [(0, [])] (fs [(7, x7), (0, x0), (2, x2), (1, x1)]) h K =
      p22arrlrbol C L x7 x0 x2 x1 h (fun x7 x0 x2 x1 h => K .normal (fs [(7, x7), (0, x0), (2, x2), (1, x1)]) h) (fun h => K (.exit 0) (fs []) h) := by
  kernel_rfl
noncomputable def c22arrlrbor : Code := cR c22arrlrbo
noncomputable def c22arrlrborl : Code := cL c22arrlrbor
noncomputable def c22arrlrborlb : Code := cL c22arrlrborl
noncomputable def c22arrlrborlbl : Code := cL c22arrlrborlb
noncomputable def p22arrlrborlbl (C : CF) (L : Nat) {β : Type} (x7 x0 x2 x1 : Value) (h : H) (kn : Value → Value → Value → Value → Value → H → Option β) : Option β :=
  bnd (A.nilCheck x0) fun t36 =>
  bnd (A.fieldAddr 2 t36) fun t37 =>
  bnd (A.load false 1 t37 h) fun t38 =>
  bnd (A.idxS 1 t38 x7) fun t40 =>
  bnd (A.load false 1 t40 h) fun t41 =>
  bnd (A.nilCheck t41) fun t42 =>
  bnd (A.fieldAddr 0 t42) fun t43 =>
  bnd (A.load false 1 t43 h) fun t44 =>
  bnd (A.bin Try.prog .eql 3 t44 x1) fun t46 =>
  toBK t46 fun b =>
  (bif b then
  bnd (A.nilCheck x0) fun t49 =>
  bnd (A.fieldAddr 2 t49) fun t50 =>
  bnd (A.load false 1 t50 h) fun t51 =>
  bnd (A.idxS 1 t51 x7) fun t53 =>
  bnd (A.load false 1 t53 h) fun t54 =>
  bnd (A.nilCheck t54) fun t55 =>
  bnd (A.fieldAddr 2 t55) fun t56 =>
  bnd (A.load false 1 t56 h) fun t57 =>
  bnd (A.bin Try.prog .gtr 3 t57 x2) fun t59 =>
  toBK t59 fun bq1 =>
  (bif bq1 then
  bnd (A.nilCheck x0) fun t63 =>
  bnd (A.fieldAddr 2 t63) fun t64 =>
  bnd (A.load false 1 t64 h) fun t65 =>
  bnd (A.idxS 1 t65 x7) fun t67 =>
  bnd (A.load false 1 t67 h) fun t68 =>
  bnd (A.nilCheck t68) fun t69 =>
  bnd (A.fieldAddr 3 t69) fun t70 =>
  bnd (A.load false 1 t70 h) fun t71 =>
  bnd (A.lenS t71) fun t72 =>
  bnd (A.nilCheck x0) fun t74 =>
  bnd (A.fieldAddr 1 t74) fun t75 =>
  bnd (A.load false 1 t75 h) fun t76 =>
  bnd (A.bin Try.prog .geq 3 t72 t76) fun t77 =>
  toBK t77 fun bq2 =>
  kn (.bool bq2) x7 x0 x2 x1 h
  else
  kn (.bool false) x7 x0 x2 x1 h)
  else
  kn (.bool false) x7 x0 x2 x1 h)
theorem ep22arrlrborlbl (C : CF) (L : Nat) {β : Type} (x7 x0 x2 x1 : Value) (h : H) (K : Ex → T Value → H → Option β) :
    execK Try.prog C L 0 79 [6] c22arrlrborlbl [78, 7, 0, 2, 1] [(1, [7, 0, 2, 1]), (0, [])] (fs [(7, x7), (0, x0), (2, x2), (1, x1)]) h K =
      p22arrlrborlbl C L x7 x0 x2 x1 h (fun x78 x7 x0 x2 x1 h => K .normal (fs [(78, x78), (7, x7), (0, x0), (2, x2), (1, x1)]) h) := by
  kernel_rfl
noncomputable def c22arrlrborlbr : Code := cR c22arrlrborlb
noncomputable def p22arrlrborlbr (C : CF) (L : Nat) {β : Type} (x78 x7 x0 x2 x1 : Value) (h : H) (kr : Value → H → Option β) (kn : Value → Value → Value → Value → H → Option β) : Option β :=
  condV x78 (
  kr (.bool false) h) (
  kn x7 x0 x2 x1 h)
theorem ep22arrlrborlbr (C : CF) (L : Nat) {β : Type} (x78 x7 x0 x2 x1 : Value) (h : H) (K : Ex → T Value → H → Option β) :
    execK Try.prog C L 0 79 [6] c22arrlrborlbr [7, 0, 2, 1] [(1, [7, 0, 2, 1]), (0, [])] (fs [(78, x78), (7, x7), (0, x0), (2, x2), (1, x1)]) h K =
      p22arrlrborlbr C L x78 x7 x0 x2 x1 h (fun x6 h => K .ret (fs [(6, x6)]) h) (fun x7 x0 x2 x1 h => K .normal (fs [(7, x7), (0, x0), (2, x2), (1, x1)]) h) := by
  kernel_rfl
noncomputable def p22arrlrborlb (C : CF) (L : Nat) {β : Type} (x7 x0 x2 x1 : Value) (h : H) (kr : Value → H → Option β) (kn : Value → Value → Value → Value → H → Option β) : Option β :=
  p22arrlrborlbl C L x7 x0 x2 x1 h (fun x78 x7 x0 x2 x1 h => p22arrlrborlbr C L x78 x7 x0 x2 x1 h kr kn)
theorem ep22arrlrborlb (C : CF) (L : Nat) {β : Type} (x7 x0 x2 x1 : Value) (h : H) (K : Ex → T Value → H → Option β) :
    execK Try.prog C L 0 79 [6] c22arrlrborlb [7, 0, 2, 1] [(1, [7, 0, 2, 1]), (0, [])] (fs [(7, x7), (0, x0), (2, x2), (1, x1)]) h K =
      p22arrlrborlb C L x7 x0 x2 x1 h (fun x6 h => K .ret (fs [(6, x6)]) h) (fun x7 x0 x2 x1 h => K .normal (fs [(7, x7), (0, x0), (2, x2), (1, x1)]) h) := by
  rw [execK_seq (a := c22arrlrborlbl) (b := c22arrlrborlbr) (by kernel_rfl) (show live [6] c22arrlrborlbr [7, 0, 2, 1] [(1, [7, 0, 2, 1]), (0, [])] = [78, 7, 0, 2, 1] by kernel_rfl), ep22arrlrborlbl]
  unfold p22arrlrborlb
  exact (congrArg (p22arrlrborlbl C L x7 x0 x2 x1 h) (funext fun x78 => funext fun x7 => funext fun x0 => funext fun x2 => funext fun x1 => funext fun h => (seqK_n _ _ _).trans (ep22arrlrborlbr C L x78 x7 x0 x2 x1 h K)))
noncomputable def p22arrlrborl (C : CF) (L : Nat) {β : Type} (x7 x0 x2 x1 : Value) (h : H) (kr : Value → H → Option β) (kn : Value → Value → Value → Value → H → Option β) : Option β :=
  p22arrlrborlb C L x7 x0 x2 x1 h kr kn
theorem ep22arrlrborl (C : CF) (L : Nat) {β : Type} (x7 x0 x2 x1 : Value) (h : H) (K : Ex → T Value → H → Option β) :
    execK Try.prog C L 0 79 [6] c22arrlrborl [7, 0, 2, 1] [(0, [])] (fs [(7, x7), (0, x0), (2, x2), (1, x1)]) h K =
      p22arrlrborl C L x7 x0 x2 x1 h (fun x6 h => K .ret (fs [(6, x6)]) h) (fun x7 x0 x2 x1 h => K .normal (fs [(7, x7), (0, x0), (2, x2), (1, x1)]) h) := by
  rw [execK_block (b := c22arrlrborlb) (id := 1) (by kernel_rfl), ep22arrlrborlb]
  unfold p22arrlrborl
  rfl
noncomputable def c22arrlrborr : Code := cR c22arrlrbor
noncomputable def p22arrlrborr (C : CF) (L : Nat) {β : Type} (x7 x0 x2 x1 : Value) (h : H) (kn : Value → Value → Value → Value → H → Option β) : Option β :=
  bnd (A.bin Try.prog .add 3 x7 (.int .i64 1)) fun t34 =>
  kn t34 x0 x2 x1 h
theorem ep22arrlrborr (C : CF) (L : Nat) {β : Type} (x7 x0 x2 x1 : Value) (h : H) (K : Ex → T Value → H → Option β) :
    execK Try.prog C L 0 79 [6] c22arrlrborr [7, 0, 2, 1] [(0, [])] (fs [(7, x7), (0, x0), (2, x2), (1, x1)]) h K =
      p22arrlrborr C L x7 x0 x2 x1 h (fun x7 x0 x2 x1 h => K .normal (fs [(7, x7), (0, x0), (2, x2), (1, x1)]) h) := by
  kernel_rfl
noncomputable def p22arrlrbor (C : CF) (L : Nat) {β : Type} (x7 x0 x2 x1 : Value) (h : H) (kn : Value → Value → Value → Value → H → Option β) (kr : Value → H → Option β) : Option β :=
  p22arrlrborl C L x7 x0 x2 x1 h kr (fun x7 x0 x2 x1 h => p22arrlrborr C L x7 x0 x2 x1 h kn)
theorem ep22arrlrbor (C : CF) (L : Nat) {β : Type} (x7 x0 x2 x1 : Value) (h : H) (K : Ex → T Value → H → Option β) :
    execK Try.prog C L 0 79 [6] c22arrlrbor [7, 0, 2, 1] [(0, [])] (fs [(7, x7), (0, x0), (2, x2), (1, x1)]) h K =
      p22arrlrbor C L x7 x0 x2 x1 h (fun x7 x0 x2 x1 h => K .normal (fs [(7, x7), (0, x0), (2, x2), (1, x1)]) h) (fun x6 h => K .ret (fs [(6, x6)]) h) := by
  rw [execK_seq (a := c22arrlrborl) (b := c22arrlrborr) (by kernel_rfl) (show live [6] c22arrlrborr [7, 0, 2, 1] [(0, [])] = [7, 0, 2, 1] by kernel_rfl), ep22arrlrborl]
  unfold p22arrlrbor
  exact (congr (congrArg (p22arrlrborl C L x7 x0 x2 x1 h) (funext fun x6 => funext fun h => seqK_r _ _ _)) (funext fun x7 => funext fun x0 => funext fun x2 => funext fun x1 => funext fun h => (seqK_n _ _ _).trans (ep22arrlrborr C L x7 x0 x2 x1 h K)))
noncomputable def p22arrlrbo (C : CF) (L : Nat) {β : Type} (x7 x0 x2 x1 : Value) (h : H) (kn : Value → Value → Value → Value → H → Option β) (kr : Value → H → Option β) (kx0 : H → Option β) : Option β :=
  p22arrlrbol C L x7 x0 x2 x1 h (fun x7 x0 x2 x1 h => p22arrlrbor C L x7 x0 x2 x1 h kn kr) kx0
theorem ep22arrlrbo (C : CF) (L : Nat) {β : Type} (x7 x0 x2 x1 : Value) (h : H) (K : Ex → T Value → H → Option β) :
    execK Try.prog C L 0 79 [6] c22arrlrbo [7, 0, 2, 1] [(0, [])] (fs [(7, x7), (0, x0), (2, x2), (1, x1)]) h K =
      p22arrlrbo C L x7 x0 x2 x1 h (fun x7 x0 x2 x1 h => K .normal (fs [(7, x7), (0, x0), (2, x2), (1, x1)]) h) (fun x6 h => K .ret (fs [(6, x6)]) h) (fun h => K (.exit 0) (fs []) h) := by
  rw [execK_seq (a := c22arrlrbol) (b := c22arrlrbor) (by kernel_rfl) (show live [6] c22arrlrbor [7, 0, 2, 1] [(0, [])] = [7, 0, 2, 1] by kernel_rfl), ep22arrlrbol]
  unfold p22arrlrbo
  exact (congr (congrArg (p22arrlrbol C L x7 x0 x2 x1 h) (funext fun x7 => funext fun x0 => funext fun x2 => funext fun x1 => funext fun h => (seqK_n _ _ _).trans (ep22arrlrbor C L x7 x0 x2 x1 h K))) (funext fun h => seqK_x _ _ _ _))
noncomputable def p22arrlrbw (C : CF) (L : Nat) {β : Type} (kr : Value → H → Option β) (kx0 : H → Option β) : Nat → Value → Value → Value → Value → H → Option β
  | 0, _, _, _, _, _ => none
  | n + 1, x7, x0, x2, x1, h => p22arrlrbo C L x7 x0 x2 x1 h (fun x7 x0 x2 x1 h => p22arrlrbw C L kr kx0 n x7 x0 x2 x1 h) kr kx0
theorem ep22arrlrbw (C : CF) (L : Nat) {β : Type} (K : Ex → T Value → H → Option β) : ∀ (n : Nat) (x7 x0 x2 x1 : Value) (h : H),
    loopK (fun fr h K => execK Try.prog C L 0 79 [6] c22arrlrbo [7, 0, 2, 1] [(0, [])] fr h K) n (fs [(7, x7), (0, x0), (2, x2), (1, x1)]) h K =
      p22arrlrbw C L (fun x6 h => K .ret (fs [(6, x6)]) h) (fun h => K (.exit 0) (fs []) h) n x7 x0 x2 x1 h := by
  intro n
  induction n with
  | zero => intros; rfl
  | succ n ih =>
    intros
    simp only [loopK]
    rw [ep22arrlrbo]
    simp only [seqK_n, seqK_x, seqK_r, ih]
    rfl
noncomputable def p22arrlrb (C : CF) (L : Nat) {β : Type} (x7 x0 x2 x1 : Value) (h : H) (kr : Value → H → Option β) (kx0 : H → Option β) : Option β :=
  p22arrlrbw C L kr kx0 L x7 x0 x2 x1 h
theorem ep22arrlrb (C : CF) (L : Nat) {β : Type} (x7 x0 x2 x1 : Value) (h : H) (K : Ex → T Value → H → Option β) :
    execK Try.prog C L 0 79 [6] c22arrlrb [] [(0, [])] (fs [(7, x7), (0, x0), (2, x2), (1, x1)]) h K =
      p22arrlrb C L x7 x0 x2 x1 h (fun x6 h => K .ret (fs [(6, x6)]) h) (fun h => K (.exit 0) (fs []) h) := by
  rw [execK_loop (b := c22arrlrbo) (fr1 := (fs [(7, x7), (0, x0), (2, x2), (1, x1)])) (by kernel_rfl) (show live [6] c22arrlrbo [] [(0, [])] = [7, 0, 2, 1] by kernel_rfl) (by kernel_rfl), ep22arrlrbw]
  unfold p22arrlrb
  rfl
noncomputable def p22arrlr (C : CF) (L : Nat) {β : Type} (x7 x0 x2 x1 : Value) (h : H) (kr : Value → H → Option β) (kn : H → Option β) : Option β :=
  p22arrlrb C L x7 x0 x2 x1 h kr kn
theorem ep22arrlr (C : CF) (L : Nat) {β : Type} (x7 x0 x2 x1 : Value) (h : H) (K : Ex → T Value → H → Option β) :
    execK Try.prog C L 0 79 [6] c22arrlr [] [] (fs [(7, x7), (0, x0), (2, x2), (1, x1)]) h K =
      p22arrlr C L x7 x0 x2 x1 h (fun x6 h => K .ret (fs [(6, x6)]) h) (fun h => K .normal (fs []) h) := by
  rw [execK_block (b := c22arrlrb) (id := 0) (by kernel_rfl), ep22arrlrb]
  unfold p22arrlr
  rfl
noncomputable def p22arrl (C : CF) (L : Nat) {β : Type} (x0 x2 x1 : Value) (h : H) (kr : Value → H → Option β) (kn : H → Option β) : Option β :=
  p22arrll C L x0 x2 x1 h (fun x7 x0 x2 x1 h => p22arrlr C L x7 x0 x2 x1 h kr kn)
theorem ep22arrl (C : CF) (L : Nat) {β : Type} (x0 x2 x1 : Value) (h : H) (K : Ex → T Value → H → Option β) :
    execK Try.prog C L 0 79 [6] c22arrl [] [] (fs [(0, x0), (2, x2), (1, x1)]) h K =
      p22arrl C L x0 x2 x1 h (fun x6 h => K .ret (fs [(6, x6)]) h) (fun h => K .normal (fs []) h) := by
  rw [execK_seq (a := c22arrll) (b := c22arrlr) (by kernel_rfl) (show live [6] c22arrlr [] [] = [7, 0, 2, 1] by kernel_rfl), ep22arrll]
  unfold p22arrl
  exact (congrArg (p22arrll C L x0 x2 x1 h) (funext fun x7 => funext fun x0 => funext fun x2 => funext fun x1 => funext fun h => (seqK_n _ _ _).trans (ep22arrlr C L x7 x0 x2 x1 h K)))
noncomputable def c22arrr : Code := cR c22arr
noncomputable def p22arrr (C : CF) (L : Nat) {β : Type} (h : H) (kr : Value → H → Option β) : Option β :=
  kr (.bool true) h
theorem ep22arrr (C : CF) (L : Nat) {β : Type} (h : H) (K : Ex → T Value → H → Option β) :
    execK Try.prog C L 0 79 [6] c22arrr [6] [] (fs []) h K =
      p22arrr C L h (fun x6 h => K .ret (fs [(6, x6)]) h) := by
  kernel_rfl
noncomputable def p22arr (C : CF) (L : Nat) {β : Type} (x0 x2 x1 : Value) (h : H) (kr : Value → H → Option β) : Option β :=
  p22arrl C L x0 x2 x1 h kr (fun h => p22arrr C L h kr)
theorem ep22arr (C : CF) (L : Nat) {β : Type} (x0 x2 x1 : Value) (h : H) (K : Ex → T Value → H → Option β) :
    execK Try.prog C L 0 79 [6] c22arr [6] [] (fs [(0, x0), (2, x2), (1, x1)]) h K =
      p22arr C L x0 x2 x1 h (fun x6 h => K .ret (fs [(6, x6)]) h) := by
  rw [execK_seq (a := c22arrl) (b := c22arrr) (by kernel_rfl) (show live [6] c22arrr [6] [] = [] by kernel_rfl), ep22arrl]
  unfold p22arr
  exact (congr (congrArg (p22arrl C L x0 x2 x1 h) (funext fun x6 => funext fun h => seqK_r _ _ _)) (funext fun h => (seqK_n _ _ _).trans (ep22arrr C L h K)))
noncomputable def p22ar (C : CF) (L : Nat) {β : Type} (x0 x2 x1 : Value) (h : H) (kr : Value → H → Option β) : Option β :=
  p22arl C L x0 x2 x1 h kr (fun x0 x2 x1 h => p22arr C L x0 x2 x1 h kr)
theorem ep22ar (C : CF) (L : Nat) {β : Type} (x0 x2 x1 : Value) (h : H) (K : Ex → T Value → H → Option β) :
    execK Try.prog C L 0 79 [6] c22ar [6] [] (fs [(0, x0), (2, x2), (1, x1)]) h K =
      p22ar C L x0 x2 x1 h (fun x6 h => K .ret (fs [(6, x6)]) h) := by
  rw [execK_seq (a := c22arl) (b := c22arr) (by kernel_rfl) (show live [6] c22arr [6] [] = [0, 2, 1] by kernel_rfl), ep22arl]
  unfold p22ar
  exact (congr (congrArg (p22arl C L x0 x2 x1 h) (funext fun x6 => funext fun h => seqK_r _ _ _)) (funext fun x0 => funext fun x2 => funext fun x1 => funext fun h => (seqK_n _ _ _).trans (ep22arr C L x0 x2 x1 h K)))
noncomputable def p22a (C : CF) (L : Nat) {β : Type} (x0 x1 x2 : Value) (h : H) (kr : Value → H → Option β) : Option β :=
  p22al C L x0 x1 x2 h (fun x0 x2 x1 h => p22ar C L x0 x2 x1 h kr)
theorem ep22a (C : CF) (L : Nat) {β : Type} (x0 x1 x2 : Value) (h : H) (K : Ex → T Value → H → Option β) :
    execK Try.prog C L 0 79 [6] c22a [6] [] (fs [(0, x0), (1, x1), (2, x2)]) h K =
      p22a C L x0 x1 x2 h (fun x6 h => K .ret (fs [(6, x6)]) h) := by
  rw [execK_seq (a := c22al) (b := c22ar) (by kernel_rfl) (show live [6] c22ar [6] [] = [0, 2, 1] by kernel_rfl), ep22al]
  unfold p22a
  exact (congrArg (p22al C L x0 x1 x2 h) (funext fun x0 => funext fun x2 => funext fun x1 => funext fun h => (seqK_n _ _ _).trans (ep22ar C L x0 x2 x1 h K)))
noncomputable def F22 (C : CF) (L : Nat) (x0 x1 x2 : Value) (h : H) : Option (Value × H) :=
  p22a C L x0 x1 x2 h
    (fun x6 h => some (x6, h))
theorem F22eq (O : List FuncId) (hO : O.any (Nat.beq 22) = false) (n : Nat) (x0 x1 x2 : Value) (h : H) : callB Try.prog 0 O (n + 1) 22 [x0, x1, x2] h = F22 (callB Try.prog 0 O n) n x0 x1 x2 h := by
  rw [callB_eq hO (c := c22a) (nt := 79) (RR := [6]) (fr := (fs [(0, x0), (1, x1), (2, x2)])) Try.func22 (by kernel_rfl) (by kernel_rfl) (by kernel_rfl) (by kernel_rfl) (by kernel_rfl), ep22a]
  kernel_rfl
noncomputable def c24a : Code := (Try.f24.body).getD .skip
noncomputable def p24a (C : CF) (L : Nat) {β : Type} (x0 x1 x2 x3 : Value) (h : H) (kr : Value → H → Option β) : Option β :=
  bnd2 (C 36 [x0, x1, x2, x3] h) fun t14 hq1 =>
  bnd (A.bin Try.prog .eql 57 t14 (.pointer none)) fun t16 =>
  toBK t16 fun b =>
  (bif b then
  kr (.int .i64 0) hq1
  else
  bnd (A.nilCheck t14) fun t18 =>
  bnd (A.fieldAddr 3 t18) fun t19 =>
  bnd (A.load false 1 t19 hq1) fun t20 =>
  bnd (A.lenS t20) fun t21 =>
  kr t21 hq1)
theorem ep24a (C : CF) (L : Nat) {β : Type} (x0 x1 x2 x3 : Value) (h : H) (K : Ex → T Value → H → Option β) :
    execK Try.prog C L 0 22 [8] c24a [8] [] (fs [(0, x0), (1, x1), (2, x2), (3, x3)]) h K =
      p24a C L x0 x1 x2 x3 h (fun x8 h => K .ret (fs [(8, x8)]) h) := by
  kernel_rfl
noncomputable def F24 (C : CF) (L : Nat) (x0 x1 x2 x3 : Value) (h : H) : Option (Value × H) :=
  p24a C L x0 x1 x2 x3 h
    (fun x8 h => some (x8, h))
theorem F24eq (O : List FuncId) (hO : O.any (Nat.beq 24) = false) (n : Nat) (x0 x1 x2 x3 : Value) (h : H) : callB Try.prog 0 O (n + 1) 24 [x0, x1, x2, x3] h = F24 (callB Try.prog 0 O n) n x0 x1 x2 x3 h := by
  rw [callB_eq hO (c := c24a) (nt := 22) (RR := [8]) (fr := (fs [(0, x0), (1, x1), (2, x2), (3, x3)])) Try.func24 (by kernel_rfl) (by kernel_rfl) (by kernel_rfl) (by kernel_rfl) (by kernel_rfl), ep24a]
  kernel_rfl
noncomputable def c26a : Code := (Try.f26.body).getD .skip
noncomputable def c26al : Code := cL c26a
noncomputable def p26al (C : CF) (L : Nat) {β : Type} (x0 : Value) (h : H) (kn : Value → H → Option β) : Option β :=
  kn x0 h
theorem ep26al (C : CF) (L : Nat) {β : Type} (x0 : Value) (h : H) (K : Ex → T Value → H → Option β) :
    execK Try.prog C L 0 28 [2] c26al [0] [] (fs [(0, x0)]) h K =
      p26al C L x0 h (fun x0 h => K .normal (fs [(0, x0)]) h) := by
  kernel_rfl
noncomputable def c26ar : Code := cR c26a
noncomputable def c26arl : Code := cL c26ar
noncomputable def p26arl (C : CF) (L : Nat) {β : Type} (x0 : Value) (h : H) (kn : Value → Value → H → Option β) : Option β :=
  kn x0 (.int .i64 0) h
theorem ep26arl (C : CF) (L : Nat) {β : Type} (x0 : Value) (h : H) (K : Ex → T Value → H → Option β) :
    execK Try.prog C L 0 28 [2] c26arl [0, 3] [] (fs [(0, x0)]) h K =
      p26arl C L x0 h (fun x0 x3 h => K .normal (fs [(0, x0), (3, x3)]) h) := by
  kernel_rfl
noncomputable def c26arr : Code := cR c26ar
noncomputable def c26arrl : Code := cL c26arr
noncomputable def c26arrll : Code := cL c26arrl
noncomputable def p26arrll (C : CF) (L : Nat) {β : Type} (x0 x3 : Value) (h : H) (kn : Value → Value → Value → H → Option β) : Option β :=
  kn (.int .i64 0) x0 x3 h
theorem ep26arrll (C : CF) (L : Nat) {β : Type} (x0 x3 : Value) (h : H) (K : Ex → T Value → H → Option β) :
    execK Try.prog C L 0 28 [2] c26arrll [4, 0, 3] [] (fs [(0, x0), (3, x3)]) h K =
      p26arrll C L x0 x3 h (fun x4 x0 x3 h => K .normal (fs [(4, x4), (0, x0), (3, x3)]) h) := by
  kernel_rfl
noncomputable def c26arrlr : Code := cR c26arrl
noncomputable def c26arrlrb : Code := cL c26arrlr
noncomputable def c26arrlrbo : Code := cL c26arrlrb
noncomputable def p26arrlrbo (C : CF) (L : Nat) {β : Type} (x4 x0 x3 : Value) (h : H) (kn : Value → Value → Value → H → Option β) (kx0 : Value → H → Option β) : Option β :=
  bnd (A.nilCheck x0) fun t7 =>
  bnd (A.fieldAddr 2 t7) fun t8 =>
  bnd (A.load false 1 t8 h) fun t9 =>
  bnd (A.lenS t9) fun t10 =>
  bnd (A.bin Try.prog .lss 3 x4 t10) fun t11 =>
  toBK t11 fun b =>
  (bif b then
  bnd (A.nilCheck x0) fun t16 =>
  bnd (A.fieldAddr 2 t16) fun t17 =>
  bnd (A.load false 1 t17 h) fun t18 =>
  bnd (A.idxS 1 t18 x4) fun t20 =>
  bnd (A.load false 1 t20 h) fun t21 =>
  bnd (A.nilCheck t21) fun t22 =>
  bnd (A.fieldAddr 3 t22) fun t23 =>
  bnd (A.load false 1 t23 h) fun t24 =>
  bnd (A.lenS t24) fun t25 =>
  bnd (A.bin Try.prog .add 3 x3 t25) fun t26 =>
  bnd (A.bin Try.prog .add 3 x4 (.int .i64 1)) fun t13 =>
  kn t13 x0 t26 h
  else
  kx0 x3 h)
theorem ep26arrlrbo (C : CF) (L : Nat) {β : Type} (x4 x0 x3 : Value) (h : H) (K : Ex → T Value → H → Option β) :
    execK Try.prog C L 0 28 [2] c26arrlrbo [4, 0, 3] [(0, [3])] (fs [(4, x4), (0, x0), (3, x3)]) h K =
      p26arrlrbo C L x4 x0 x3 h (fun x4 x0 x3 h => K .normal (fs [(4, x4), (0, x0), (3, x3)]) h) (fun x3 h => K (.exit 0) (fs [(3, x3)]) h) := by
  kernel_rfl
noncomputable def p26arrlrbw (C : CF) (L : Nat) {β : Type} (kx0 : Value → H → Option β) : Nat → Value → Value → Value → H → Option β
  | 0, _, _, _, _ => none
  | n + 1, x4, x0, x3, h => p26arrlrbo C L x4 x0 x3 h (fun x4 x0 x3 h => p26arrlrbw C L kx0 n x4 x0 x3 h) kx0
theorem ep26arrlrbw (C : CF) (L : Nat) {β : Type} (K : Ex → T Value → H → Option β) : ∀ (n : Nat) (x4 x0 x3 : Value) (h : H),
    loopK (fun fr h K => execK Try.prog C L 0 28 [2] c26arrlrbo [4, 0, 3] [(0, [3])] fr h K) n (fs [(4, x4), (0, x0), (3, x3)]) h K =
      p26arrlrbw C L (fun x3 h => K (.exit 0) (fs [(3, x3)]) h) n x4 x0 x3 h := by
  intro n
  induction n with
  | zero => intros; rfl
  | succ n ih =>
    intros
    simp only [loopK]
    rw [ep26arrlrbo]
    simp only [seqK_n, seqK_x, seqK_r, ih]
    rfl
noncomputable def p26arrlrb (C : CF) (L : Nat) {β : Type} (x4 x0 x3 : Value) (h : H) (kx0 : Value → H → Option β) : Option β :=
  p26arrlrbw C L kx0 L x4 x0 x3 h
theorem ep26arrlrb (C : CF) (L : Nat) {β : Type} (x4 x0 x3 : Value) (h : H) (K : Ex → T Value → H → Option β) :
    execK Try.prog C L 0 28 [2] c26arrlrb [3] [(0, [3])] (fs [(4, x4), (0, x0), (3, x3)]) h K =
      p26arrlrb C L x4 x0 x3 h (fun x3 h => K (.exit 0) (fs [(3, x3)]) h) := by
  rw [execK_loop (b := c26arrlrbo) (fr1 := (fs [(4, x4), (0, x0), (3, x3)])) (by kernel_rfl) (show live [2] c26arrlrbo [] [(0, [3])] = [4, 0, 3] by kernel_rfl) (by kernel_rfl), ep26arrlrbw]
  unfold p26arrlrb
  rfl
noncomputable def p26arrlr (C : CF) (L : Nat) {β : Type} (x4 x0 x3 : Value) (h : H) (kn : Value → H → Option β) : Option β :=
  p26arrlrb C L x4 x0 x3 h kn
theorem ep26arrlr (C : CF) (L : Nat) {β : Type} (x4 x0 x3 : Value) (h : H) (K : Ex → T Value → H → Option β) :
    execK Try.prog C L 0 28 [2] c26arrlr [3] [] (fs [(4, x4), (0, x0), (3, x3)]) h K =
      p26arrlr C L x4 x0 x3 h (fun x3 h => K .normal (fs [(3, x3)]) h) := by
  rw [execK_block (b := c26arrlrb) (id := 0) (by kernel_rfl), ep26arrlrb]
  unfold p26arrlr
  rfl
noncomputable def p26arrl (C : CF) (L : Nat) {β : Type} (x0 x3 : Value) (h : H) (kn : Value → H → Option β) : Option β :=
  p26arrll C L x0 x3 h (fun x4 x0 x3 h => p26arrlr C L x4 x0 x3 h kn)
theorem ep26arrl (C : CF) (L : Nat) {β : Type} (x0 x3 : Value) (h : H) (K : Ex → T Value → H → Option β) :
    execK Try.prog C L 0 28 [2] c26arrl [3] [] (fs [(0, x0), (3, x3)]) h K =
      p26arrl C L x0 x3 h (fun x3 h => K .normal (fs [(3, x3)]) h) := by
  rw [execK_seq (a := c26arrll) (b := c26arrlr) (by kernel_rfl) (show live [2] c26arrlr [3] [] = [4, 0, 3] by kernel_rfl), ep26arrll]
  unfold p26arrl
  exact (congrArg (p26arrll C L x0 x3 h) (funext fun x4 => funext fun x0 => funext fun x3 => funext fun h => (seqK_n _ _ _).trans (ep26arrlr C L x4 x0 x3 h K)))
noncomputable def c26arrr : Code := cR c26arr
noncomputable def p26arrr (C : CF) (L : Nat) {β : Type} (x3 : Value) (h : H) (kr : Value → H → Option β) : Option β :=
  kr x3 h
theorem ep26arrr (C : CF) (L : Nat) {β : Type} (x3 : Value) (h : H) (K : Ex → T Value → H → Option β) :
    execK Try.prog C L 0 28 [2] c26arrr [2] [] (fs [(3, x3)]) h K =
      p26arrr C L x3 h (fun x2 h => K .ret (fs [(2, x2)]) h) := by
  kernel_rfl
noncomputable def p26arr (C : CF) (L : Nat) {β : Type} (x0 x3 : Value) (h : H) (kr : Value → H → Option β) : Option β :=
  p26arrl C L x0 x3 h (fun x3 h => p26arrr C L x3 h kr)
theorem ep26arr (C : CF) (L : Nat) {β : Type} (x0 x3 : Value) (h : H) (K : Ex → T Value → H → Option β) :
    execK Try.prog C L 0 28 [2] c26arr [2] [] (fs [(0, x0), (3, x3)]) h K =
      p26arr C L x0 x3 h (fun x2 h => K .ret (fs [(2, x2)]) h) := by
  rw [execK_seq (a := c26arrl) (b := c26arrr) (by kernel_rfl) (show live [2] c26arrr [2] [] = [3] by kernel_rfl), ep26arrl]
  unfold p26arr
  exact (congrArg (p26arrl C L x0 x3 h) (funext fun x3 => funext fun h => (seqK_n _ _ _).trans (ep26arrr C L x3 h K)))
noncomputable def p26ar (C : CF) (L : Nat) {β : Type} (x0 : Value) (h : H) (kr : Value → H → Option β) : Option β :=
  p26arl C L x0 h (fun x0 x3 h => p26arr C L x0 x3 h kr)
theorem ep26ar (C : CF) (L : Nat) {β : Type} (x0 : Value) (h : H) (K : Ex → T Value → H → Option β) :
    execK Try.prog C L 0 28 [2] c26ar [2] [] (fs [(0, x0)]) h K =
      p26ar C L x0 h (fun x2 h => K .ret (fs [(2, x2)]) h) := by
  rw [execK_seq (a := c26arl) (b := c26arr) (by kernel_rfl) (show live [2] c26arr [2] [] = [0, 3] by kernel_rfl), ep26arl]
  unfold p26ar
  exact (congrArg (p26arl C L x0 h) (funext fun x0 => funext fun x3 => funext fun h => (seqK_n _ _ _).trans (ep26arr C L x0 x3 h K)))
noncomputable def p26a (C : CF) (L : Nat) {β : Type} (x0 : Value) (h : H) (kr : Value → H → Option β) : Option β :=
  p26al C L x0 h (fun x0 h => p26ar C L x0 h kr)
theorem ep26a (C : CF) (L : Nat) {β : Type} (x0 : Value) (h : H) (K : Ex → T Value → H → Option β) :
    execK Try.prog C L 0 28 [2] c26a [2] [] (fs [(0, x0)]) h K =
      p26a C L x0 h (fun x2 h => K .ret (fs [(2, x2)]) h) := by
  rw [execK_seq (a := c26al) (b := c26ar) (by kernel_rfl) (show live [2] c26ar [2] [] = [0] by kernel_rfl), ep26al]
  unfold p26a
  exact (congrArg (p26al C L x0 h) (funext fun x0 => funext fun h => (seqK_n _ _ _).trans (ep26ar C L x0 h K)))
noncomputable def F26 (C : CF) (L : Nat) (x0 : Value) (h : H) : Option (Value × H) :=
  p26a C L x0 h
    (fun x2 h => some (x2, h))
theorem F26eq (O : List FuncId) (hO : O.any (Nat.beq 26) = false) (n : Nat) (x0 : Value) (h : H) : callB Try.prog 0 O (n + 1) 26 [x0] h = F26 (callB Try.prog 0 O n) n x0 h := by
  rw [callB_eq hO (c := c26a) (nt := 28) (RR := [2]) (fr := (fs [(0, x0)])) Try.func26 (by kernel_rfl) (by kernel_rfl) (by kernel_rfl) (by kernel_rfl) (by kernel_rfl), ep26a]
  kernel_rfl
noncomputable def c28a : Code := (Try.f28.body).getD .skip
noncomputable def p28a (C : CF) (L : Nat) {β : Type} (x0 : Value) (h : H) (kr : Value → H → Option β) : Option β :=
  bnd2 (C 26 [x0] h) fun t4 hq1 =>
  bnd (A.bin Try.prog .eql 3 t4 (.int .i64 0)) fun t5 =>
  toBK t5 fun b =>
  kr (.bool b) hq1
theorem ep28a (C : CF) (L : Nat) {β : Type} (x0 : Value) (h : H) (K : Ex → T Value → H → Option β) :
    execK Try.prog C L 0 6 [2] c28a [2] [] (fs [(0, x0)]) h K =
      p28a C L x0 h (fun x2 h => K .ret (fs [(2, x2)]) h) := by
  kernel_rfl
noncomputable def F28 (C : CF) (L : Nat) (x0 : Value) (h : H) : Option (Value × H) :=
  p28a C L x0 h
    (fun x2 h => some (x2, h))
theorem F28eq (O : List FuncId) (hO : O.any (Nat.beq 28) = false) (n : Nat) (x0 : Value) (h : H) : callB Try.prog 0 O (n + 1) 28 [x0] h = F28 (callB Try.prog 0 O n) n x0 h := by
  rw [callB_eq hO (c := c28a) (nt := 6) (RR := [2]) (fr := (fs [(0, x0)])) Try.func28 (by kernel_rfl) (by kernel_rfl) (by kernel_rfl) (by kernel_rfl) (by kernel_rfl), ep28a]
  kernel_rfl
noncomputable def c36a : Code := (Try.f36.body).getD .skip
noncomputable def c36al : Code := cL c36a
noncomputable def p36al (C : CF) (L : Nat) {β : Type} (x0 x1 x2 x3 : Value) (h : H) (kn : Value → Value → Value → Value → H → Option β) : Option β :=
  kn x1 x2 x3 x0 h
theorem ep36al (C : CF) (L : Nat) {β : Type} (x0 x1 x2 x3 : Value) (h : H) (K : Ex → T Value → H → Option β) :
    execK Try.prog C L 0 97 [8] c36al [1, 2, 3, 0] [] (fs [(0, x0), (1, x1), (2, x2), (3, x3)]) h K =
      p36al C L x0 x1 x2 x3 h (fun x1 x2 x3 x0 h => K .normal (fs [(1, x1), (2, x2), (3, x3), (0, x0)]) h) := by
  kernel_rfl
noncomputable def c36ar : Code := cR c36a
noncomputable def c36arl : Code := cL c36ar
noncomputable def c36arll : Code := cL c36arl
noncomputable def p36arll (C : CF) (L : Nat) {β : Type} (x1 x2 x3 x0 : Value) (h : H) (kn : Value → Value → Value → Value → Value → H → Option β) : Option β :=
  bnd (A.bin Try.prog .lss 3 x1 (.int .i64 0)) fun t13 =>
  toBK t13 fun b =>
  (bif b then
  kn (.bool true) x1 x2 x3 x0 h
  else
  bnd (A.nilCheck x0) fun t17 =>
  bnd (A.fieldAddr 0 t17) fun t18 =>
  bnd (A.load false 1 t18 h) fun t19 =>
  bnd (A.bin Try.prog .geq 3 x1 t19) fun t20 =>
  toBK t20 fun bq1 =>
  (bif bq1 then
  kn (.bool true) x1 x2 x3 x0 h
  else
  bnd (A.bin Try.prog .lss 3 x2 (.int .i64 0)) fun t24 =>
  toBK t24 fun bq2 =>
  (bif bq2 then
  kn (.bool true) x1 x2 x3 x0 h
  else
  bnd (A.nilCheck x0) fun t29 =>
  bnd (A.fieldAddr 0 t29) fun t30 =>
  bnd (A.load false 1 t30 h) fun t31 =>
  bnd (A.bin Try.prog .geq 3 x2 t31) fun t32 =>
  toBK t32 fun bq3 =>
  (bif bq3 then
  kn (.bool true) x1 x2 x3 x0 h
  else
  bnd (A.bin Try.prog .lss 3 x3 (.int .i64 1)) fun t36 =>
  toBK t36 fun bq4 =>
  (bif bq4 then
  kn (.bool true) x1 x2 x3 x0 h
  else
  bnd (A.bin Try.prog .gtr 3 x3 (.int .i64 7)) fun t40 =>
  toBK t40 fun bq5 =>
  kn (.bool bq5) x1 x2 x3 x0 h)))))
theorem ep36arll (C : CF) (L : Nat) {β : Type} (x1 x2 x3 x0 : Value) (h : H) (K : Ex → T Value → H → Option β) :
    execK Try.prog C L 0 97 [8] c36arll [41, 1, 2, 3, 0] [] (fs [(1, x1), (2, x2), (3, x3), (0, x0)]) h K =
      p36arll C L x1 x2 x3 x0 h (fun x41 x1 x2 x3 x0 h => K .normal (fs [(41, x41), (1, x1), (2, x2), (3, x3), (0, x0)]) h) := by
  kernel_rfl
noncomputable def c36arlr : Code := cR c36arl
noncomputable def p36arlr (C : CF) (L : Nat) {β : Type} (x41 x1 x2 x3 x0 : Value) (h : H) (kr : Value → H → Option β) (kn : Value → Value → Value → Value → H → Option β) : Option β :=
  condV x41 (
  kr (.pointer none) h) (
  kn x1 x2 x3 x0 h)
theorem ep36arlr (C : CF) (L : Nat) {β : Type} (x41 x1 x2 x3 x0 : Value) (h : H) (K : Ex → T Value → H → Option β) :
    execK Try.prog C L 0 97 [8] c36arlr [1, 2, 3, 0] [] (fs [(41, x41), (1, x1), (2, x2), (3, x3), (0, x0)]) h K =
      p36arlr C L x41 x1 x2 x3 x0 h (fun x8 h => K .ret (fs [(8, x8)]) h) (fun x1 x2 x3 x0 h => K .normal (fs [(1, x1), (2, x2), (3, x3), (0, x0)]) h) := by
  kernel_rfl
noncomputable def p36arl (C : CF) (L : Nat) {β : Type} (x1 x2 x3 x0 : Value) (h : H) (kr : Value → H → Option β) (kn : Value → Value → Value → Value → H → Option β) : Option β :=
  p36arll C L x1 x2 x3 x0 h (fun x41 x1 x2 x3 x0 h => p36arlr C L x41 x1 x2 x3 x0 h kr kn)
theorem ep36arl (C : CF) (L : Nat) {β : Type} (x1 x2 x3 x0 : Value) (h : H) (K : Ex → T Value → H → Option β) :
    execK Try.prog C L 0 97 [8] c36arl [1, 2, 3, 0] [] (fs [(1, x1), (2, x2), (3, x3), (0, x0)]) h K =
      p36arl C L x1 x2 x3 x0 h (fun x8 h => K .ret (fs [(8, x8)]) h) (fun x1 x2 x3 x0 h => K .normal (fs [(1, x1), (2, x2), (3, x3), (0, x0)]) h) := by
  rw [execK_seq (a := c36arll) (b := c36arlr) (by kernel_rfl) (show live [8] c36arlr [1, 2, 3, 0] [] = [41, 1, 2, 3, 0] by kernel_rfl), ep36arll]
  unfold p36arl
  exact (congrArg (p36arll C L x1 x2 x3 x0 h) (funext fun x41 => funext fun x1 => funext fun x2 => funext fun x3 => funext fun x0 => funext fun h => (seqK_n _ _ _).trans (ep36arlr C L x41 x1 x2 x3 x0 h K)))
noncomputable def c36arr : Code := cR c36ar
noncomputable def c36arrl : Code := cL c36arr
noncomputable def c36arrll : Code := cL c36arrl
noncomputable def p36arrll (C : CF) (L : Nat) {β : Type} (x1 x2 x3 x0 : Value) (h : H) (kn : Value → Value → Value → Value → Value → H → Option β) : Option β :=
  kn (.int .i64 0) x1 x2 x3 x0 h
theorem ep36arrll (C : CF) (L : Nat) {β : Type} (x1 x2 x3 x0 : Value) (h : H) (K : Ex → T Value → H → Option β) :
    execK Try.prog C L 0 97 [8] c36arrll [9, 1, 2, 3, 0] [] (fs [(1, x1), (2, x2), (3, x3), (0, x0)]) h K =
      p36arrll C L x1 x2 x3 x0 h (fun x9 x1 x2 x3 x0 h => K .normal (fs [(9, x9), (1, x1), (2, x2), (3, x3), (0, x0)]) h) := by
  kernel_rfl
noncomputable def c36arrlr : Code := cR c36arrl
noncomputable def c36arrlrb : Code := cL c36arrlr
noncomputable def c36arrlrbo : Code := cL c36arrlrb
noncomputable def c36arrlrbol : Code := cL c36arrlrbo
noncomputable def p36arrlrbol (C : CF) (L : Nat) {β : Type} (x9 x1 x2 x3 x0 : Value) (h : H) (kn : Value → Value → Value → Value → Value → H → Option β) (kx0 : Value → Value → Value → Value → H → Option β) : Option β :=
  bnd (A.nilCheck x0) fun t44 =>
  bnd (A.fieldAddr 2 t44) fun t45 =>
  bnd (A.load false 1 t45 h) fun t46 =>
  bnd (A.lenS t46) fun t47 =>
  bnd (A.bin Try.prog .lss 3 x9 t47) fun t48 =>
  toBK t48 fun b =>
  (bif b then
  kn x9 x1 x2 x3 x0 h
  else
  kx0 x1 x2 x3 x0 h)
theorem ep36arrlrbol (C : CF) (L : Nat) {β : Type} (x9 x1 x2 x3 x0 : Value) (h : H) (K : Ex → T Value → H → Option β) :
    execK Try.prog C L 0 97 [8] c36arrlrbol [9, 1, 2, 3, 0] [(0, [1, 2, 3, 0])] (fs [(9, x9), (1, x1), (2, x2), (3, x3), (0, x0)]) h K =
      p36arrlrbol C L x9 x1 x2 x3 x0 h (fun x9 x1 x2 x3 x0 h => K .normal (fs [(9, x9), (1, x1), (2, x2), (3, x3), (0, x0)]) h) (fun x1 x2 x3 x0 h => K (.exit 0) (fs [(1, x1), (2, x2), (3, x3), (0, x0)]) h) := by
  kernel_rfl
noncomputable def c36arrlrbor : Code := cR c36arrlrbo
noncomputable def c36arrlrborl : Code := cL c36arrlrbor
noncomputable def c36arrlrborlb : Code := cL c36arrlrborl
noncomputable def c36arrlrborlbl : Code := cL c36arrlrborlb
noncomputable def p36arrlrborlbl (C : CF) (L : Nat) {β : Type} (x9 x1 x2 x3 x0 : Value) (h : H) (kn : Value → Value → Value → Value → Value → Value → H → Option β) : Option β :=
  bnd (A.nilCheck x0) fun t52 =>
  bnd (A.fieldAddr 2 t52) fun t53 =>
  bnd (A.load false 1 t53 h) fun t54 =>
  bnd (A.idxS 1 t54 x9) fun t56 =>
  bnd (A.load false 1 t56 h) fun t57 =>
  kn t57 x9 x1 x2 x3 x0 h
theorem ep36arrlrborlbl (C : CF) (L : Nat) {β : Type} (x9 x1 x2 x3 x0 : Value) (h : H) (K : Ex → T Value → H → Option β) :
    execK Try.prog C L 0 97 [8] c36arrlrborlbl [10, 9, 1, 2, 3, 0] [(1, [9, 1, 2, 3, 0]), (0, [1, 2, 3, 0])] (fs [(9, x9), (1, x1), (2, x2), (3, x3), (0, x0)]) h K =
      p36arrlrborlbl C L x9 x1 x2 x3 x0 h (fun x10 x9 x1 x2 x3 x0 h => K .normal (fs [(10, x10), (9, x9), (1, x1), (2, x2), (3, x3), (0, x0)]) h) := by
  kernel_rfl
noncomputable def c36arrlrborlbr : Code := cR c36arrlrborlb
noncomputable def c36arrlrborlbrl : Code := cL c36arrlrborlbr
noncomputable def p36arrlrborlbrl (C : CF) (L : Nat) {β : Type} (x10 x9 x1 x2 x3 x0 : Value) (h : H) (kn : Value → Value → Value → Value → Value → Value → Value → H → Option β) : Option β :=
  bnd (A.nilCheck x10) fun t59 =>
  bnd (A.fieldAddr 0 t59) fun t60 =>
  bnd (A.load false 1 t60 h) fun t61 =>
  bnd (A.bin Try.prog .eql 3 t61 x1) fun t63 =>
  toBK t63 fun b =>
  (bif b then
  bnd (A.nilCheck x10) fun t66 =>
  bnd (A.fieldAddr 1 t66) fun t67 =>
  bnd (A.load false 1 t67 h) fun t68 =>
  bnd (A.bin Try.prog .eql 3 t68 x2) fun t70 =>
  toBK t70 fun bq1 =>
  (bif bq1 then
  bnd (A.nilCheck x10) fun t74 =>
  bnd (A.fieldAddr 2 t74) fun t75 =>
  bnd (A.load false 1 t75 h) fun t76 =>
  bnd (A.bin Try.prog .eql 3 t76 x3) fun t78 =>
  toBK t78 fun bq2 =>
  kn (.bool bq2) x10 x9 x1 x2 x3 x0 h
  else
  kn (.bool false) x10 x9 x1 x2 x3 x0 h)
  else
  kn (.bool false) x10 x9 x1 x2 x3 x0 h)
theorem ep36arrlrborlbrl (C : CF) (L : Nat) {β : Type} (x10 x9 x1 x2 x3 x0 : Value) (h : H) (K : Ex → T Value → H → Option β) :
    execK Try.prog C L 0 97 [8] c36arrlrborlbrl [79, 10, 9, 1, 2, 3, 0] [(1, [9, 1, 2, 3, 0]), (0, [1, 2, 3, 0])] (fs [(10, x10), (9, x9), (1, x1), (2, x2), (3, x3), (0, x0)]) h K =
      p36arrlrborlbrl C L x10 x9 x1 x2 x3 x0 h (fun x79 x10 x9 x1 x2 x3 x0 h => K .normal (fs [(79, x79), (10, x10), (9, x9), (1, x1), (2, x2), (3, x3), (0, x0)]) h) := by
  kernel_rfl
noncomputable def c36arrlrborlbrr : Code := cR c36arrlrborlbr
noncomputable def p36arrlrborlbrr (C : CF) (L : Nat) {β : Type} (x79 x10 x9 x1 x2 x3 x0 : Value) (h : H) (kr : Value → H → Option β) (kn : Value → Value → Value → Value → Value → H → Option β) : Option β :=
  condV x79 (
  kr x10 h) (
  kn x9 x1 x2 x3 x0 h)
theorem ep36arrlrborlbrr (C : CF) (L : Nat) {β : Type} (x79 x10 x9 x1 x2 x3 x0 : Value) (h : H) (K : Ex → T Value → H → Option β) :
    execK Try.prog C L 0 97 [8] c36arrlrborlbrr [9, 1, 2, 3, 0] [(1, [9, 1, 2, 3, 0]), (0, [1, 2, 3, 0])] (fs [(79, x79), (10, x10), (9, x9), (1, x1), (2, x2), (3, x3), (0, x0)]) h K =
      p36arrlrborlbrr C L x79 x10 x9 x1 x2 x3 x0 h (fun x8 h => K .ret (fs [(8, x8)]) h) (fun x9 x1 x2 x3 x0 h => K .normal (fs [(9, x9), (1, x1), (2, x2), (3, x3), (0, x0)]) h) := by
  kernel_rfl
noncomputable def p36arrlrborlbr (C : CF) (L : Nat) {β : Type} (x10 x9 x1 x2 x3 x0 : Value) (h : H) (kr : Value → H → Option β) (kn : Value → Value → Value → Value → Value → H → Option β) : Option β :=
  p36arrlrborlbrl C L x10 x9 x1 x2 x3 x0 h (fun x79 x10 x9 x1 x2 x3 x0 h => p36arrlrborlbrr C L x79 x10 x9 x1 x2 x3 x0 h kr kn)
theorem ep36arrlrborlbr (C : CF) (L : Nat) {β : Type} (x10 x9 x1 x2 x3 x0 : Value) (h : H) (K : Ex → T Value → H → Option β) :
    execK Try.prog C L 0 97 [8] c36arrlrborlbr [9, 1, 2, 3, 0] [(1, [9, 1, 2, 3, 0]), (0, [1, 2, 3, 0])] (fs [(10, x10), (9, x9), (1, x1), (2, x2), (3, x3), (0, x0)]) h K =
      p36arrlrborlbr C L x10 x9 x1 x2 x3 x0 h (fun x8 h => K .ret (fs [(8, x8)]) h) (fun x9 x1 x2 x3 x0 h => K .normal (fs [(9, x9), (1, x1), (2, x2), (3, x3), (0, x0)]) h) := by
  rw [execK_seq (a := c36arrlrborlbrl) (b := c36arrlrborlbrr) (by kernel_rfl) (show live [8] c36arrlrborlbrr [9, 1, 2, 3, 0] [(1, [9, 1, 2, 3, 0]), (0, [1, 2, 3, 0])] = [79, 10, 9, 1, 2, 3, 0] by kernel_rfl), ep36arrlrborlbrl]
  unfold p36arrlrborlbr
  exact (congrArg (p36arrlrborlbrl C L x10 x9 x1 x2 x3 x0 h) (funext fun x79 => funext fun x10 => funext fun x9 => funext fun x1 => funext fun x2 => funext fun x3 => funext fun x0 => funext fun h => (seqK_n _ _ _).trans (ep36arrlrborlbrr C L x79 x10 x9 x1 x2 x3 x0 h K)))
noncomputable def p36arrlrborlb (C : CF) (L : Nat) {β : Type} (x9 x1 x2 x3 x0 : Value) (h : H) (kr : Value → H → Option β) (kn : Value → Value → Value → Value → Value → H → Option β) : Option β :=
  p36arrlrborlbl C L x9 x1 x2 x3 x0 h (fun x10 x9 x1 x2 x3 x0 h => p36arrlrborlbr C L x10 x9 x1 x2 x3 x0 h kr kn)
theorem ep36arrlrborlb (C : CF) (L : Nat) {β : Type} (x9 x1 x2 x3 x0 : Value) (h : H) (K : Ex → T Value → H → Option β) :
    execK Try.prog C L 0 97 [8] c36arrlrborlb [9, 1, 2, 3, 0] [(1, [9, 1, 2, 3, 0]), (0, [1, 2, 3, 0])] (fs [(9, x9), (1, x1), (2, x2), (3, x3), (0, x0)]) h K =
      p36arrlrborlb C L x9 x1 x2 x3 x0 h (fun x8 h => K .ret (fs [(8, x8)]) h) (fun x9 x1 x2 x3 x0 h => K .normal (fs [(9, x9), (1, x1), (2, x2), (3, x3), (0, x0)]) h) := by
  rw [execK_seq (a := c36arrlrborlbl) (b := c36arrlrborlbr) (by kernel_rfl) (show live [8] c36arrlrborlbr [9, 1, 2, 3, 0] [(1, [9, 1, 2, 3, 0]), (0, [1, 2, 3, 0])] = [10, 9, 1, 2, 3, 0] by kernel_rfl), ep36arrlrborlbl]
  unfold p36arrlrborlb
  exact (congrArg (p36arrlrborlbl C L x9 x1 x2 x3 x0 h) (funext fun x10 => funext fun x9 => funext fun x1 => funext fun x2 => funext fun x3 => funext fun x0 => funext fun h => (seqK_n _ _ _).trans (ep36arrlrborlbr C L x10 x9 x1 x2 x3 x0 h K)))
noncomputable def p36arrlrborl (C : CF) (L : Nat) {β : Type} (x9 x1 x2 x3 x0 : Value) (h : H) (kr : Value → H → Option β) (kn : Value → Value → Value → Value → Value → H → Option β) : Option β :=
  p36arrlrborlb C L x9 x1 x2 x3 x0 h kr kn
theorem ep36arrlrborl (C : CF) (L : Nat) {β : Type} (x9 x1 x2 x3 x0 : Value) (h : H) (K : Ex → T Value → H → Option β) :
    execK Try.prog C L 0 97 [8] c36arrlrborl [9, 1, 2, 3, 0] [(0, [1, 2, 3, 0])] (fs [(9, x9), (1, x1), (2, x2), (3, x3), (0, x0)]) h K =
      p36arrlrborl C L x9 x1 x2 x3 x0 h (fun x8 h => K .ret (fs [(8, x8)]) h) (fun x9 x1 x2 x3 x0 h => K .normal (fs [(9, x9), (1, x1), (2, x2), (3, x3), (0, x0)]) h) := by
  rw [execK_block (b := c36arrlrborlb) (id := 1) (by kernel_rfl), ep36arrlrborlb]
  unfold p36arrlrborl
  rfl
noncomputable def c36arrlrborr : Code := cR c36arrlrbor
noncomputable def p36arrlrborr (C : CF) (L : Nat) {β : Type} (x9 x1 x2 x3 x0 : Value) (h : H) (kn : Value → Value → Value → Value → Value → H → Option β) : Option β :=
  bnd (A.bin Try.prog .add 3 x9 (.int .i64 1)) fun t50 =>
  kn t50 x1 x2 x3 x0 h
theorem ep36arrlrborr (C : CF) (L : Nat) {β : Type} (x9 x1 x2 x3 x0 : Value) (h : H) (K : Ex → T Value → H → Option β) :
    execK Try.prog C L 0 97 [8] c36arrlrborr [9, 1, 2, 3, 0] [(0, [1, 2, 3, 0])] (fs [(9, x9), (1, x1), (2, x2), (3, x3), (0, x0)]) h K =
      p36arrlrborr C L x9 x1 x2 x3 x0 h (fun x9 x1 x2 x3 x0 h => K .normal (fs [(9, x9), (1, x1), (2, x2), (3, x3), (0, x0)]) h) := by
  kernel_rfl
noncomputable def p36arrlrbor (C : CF) (L : Nat) {β : Type} (x9 x1 x2 x3 x0 : Value) (h : H) (kn : Value → Value → Value → Value → Value → H → Option β) (kr : Value → H → Option β) : Option β :=
  p36arrlrborl C L x9 x1 x2 x3 x0 h kr (fun x9 x1 x2 x3 x0 h => p36arrlrborr C L x9 x1 x2 x3 x0 h kn)
theorem ep36arrlrbor (C : CF) (L : Nat) {β : Type} (x9 x1 x2 x3 x0 : Value) (h : H) (K : Ex → T Value → H → Option β) :
    execK Try.prog C L 0 97 [8] c36arrlrbor [9, 1, 2, 3, 0] [(0, [1, 2, 3, 0])] (fs [(9, x9), (1, x1), (2, x2), (3, x3), (0, x0)]) h K =
      p36arrlrbor C L x9 x1 x2 x3 x0 h (fun x9 x1 x2 x3 x0 h => K .normal (fs [(9, x9), (1, x1), (2, x2), (3, x3), (0, x0)]) h) (fun x8 h => K .ret (fs [(8, x8)]) h) := by
  rw [execK_seq (a := c36arrlrborl) (b := c36arrlrborr) (by kernel_rfl) (show live [8] c36arrlrborr [9, 1, 2, 3, 0] [(0, [1, 2, 3, 0])] = [9, 1, 2, 3, 0] by kernel_rfl), ep36arrlrborl]
  unfold p36arrlrbor
  exact (congr (congrArg (p36arrlrborl C L x9 x1 x2 x3 x0 h) (funext fun x8 => funext fun h => seqK_r _ _ _)) (funext fun x9 => funext fun x1 => funext fun x2 => funext fun x3 => funext fun x0 => funext fun h => (seqK_n _ _ _).trans (ep36arrlrborr C L x9 x1 x2 x3 x0 h K)))
noncomputable def p36arrlrbo (C : CF) (L : Nat) {β : Type} (x9 x1 x2 x3 x0 : Value) (h : H) (kn : Value → Value → Value → Value → Value → H → Option β) (kr : Value → H → Option β) (kx0 : Value → Value → Value → Value → H → Option β) : Option β :=
  p36arrlrbol C L x9 x1 x2 x3 x0 h (fun x9 x1 x2 x3 x0 h => p36arrlrbor C L x9 x1 x2 x3 x0 h kn kr) kx0
theorem ep36arrlrbo (C : CF) (L : Nat) {β : Type} (x9 x1 x2 x3 x0 : Value) (h : H) (K : Ex → T Value → H → Option β) :
    execK Try.prog C L 0 97 [8] c36arrlrbo [9, 1, 2, 3, 0] [(0, [1, 2, 3, 0])] (fs [(9, x9), (1, x1), (2, x2), (3, x3), (0, x0)]) h K =
      p36arrlrbo C L x9 x1 x2 x3 x0 h (fun x9 x1 x2 x3 x0 h => K .normal (fs [(9, x9), (1, x1), (2, x2), (3, x3), (0, x0)]) h) (fun x8 h => K .ret (fs [(8, x8)]) h) (fun x1 x2 x3 x0 h => K (.exit 0) (fs [(1, x1), (2, x2), (3, x3), (0, x0)]) h) := by
  rw [execK_seq (a := c36arrlrbol) (b := c36arrlrbor) (by kernel_rfl) (show live [8] c36arrlrbor [9, 1, 2, 3, 0] [(0, [1, 2, 3, 0])] = [9, 1, 2, 3, 0] by kernel_rfl), ep36arrlrbol]
  unfold p36arrlrbo
  exact (congr (congrArg (p36arrlrbol C L x9 x1 x2 x3 x0 h) (funext fun x9 => funext fun x1 => funext fun x2 => funext fun x3 => funext fun x0 => funext fun h => (seqK_n _ _ _).trans (ep36arrlrbor C L x9 x1 x2 x3 x0 h K))) (funext fun x1 => funext fun x2 => funext fun x3 => funext fun x0 => funext fun h => seqK_x _ _ _ _))
noncomputable def p36arrlrbw (C : CF) (L : Nat) {β : Type} (kr : Value → H → Option β) (kx0 : Value → Value → Value → Value → H → Option β) : Nat → Value → Value → Value → Value → Value → H → Option β
  | 0, _, _, _, _, _, _ => none
  | n + 1, x9, x1, x2, x3, x0, h => p36arrlrbo C L x9 x1 x2 x3 x0 h (fun x9 x1 x2 x3 x0 h => p36arrlrbw C L kr kx0 n x9 x1 x2 x3 x0 h) kr kx0
theorem ep36arrlrbw (C : CF) (L : Nat) {β : Type} (K : Ex → T Value → H → Option β) : ∀ (n : Nat) (x9 x1 x2 x3 x0 : Value) (h : H),
    loopK (fun fr h K => execK Try.prog C L 0 97 [8] c36arrlrbo [9, 1, 2, 3, 0] [(0, [1, 2, 3, 0])] fr h K) n (fs [(9, x9), (1, x1), (2, x2), (3, x3), (0, x0)]) h K =
      p36arrlrbw C L (fun x8 h => K .ret (fs [(8, x8)]) h) (fun x1 x2 x3 x0 h => K (.exit 0) (fs [(1, x1), (2, x2), (3, x3), (0, x0)]) h) n x9 x1 x2 x3 x0 h := by
  intro n
  induction n with
  | zero => intros; rfl
  | succ n ih =>
    intros
    simp only [loopK]
    rw [ep36arrlrbo]
    simp only [seqK_n, seqK_x, seqK_r, ih]
    rfl
noncomputable def p36arrlrb (C : CF) (L : Nat) {β : Type} (x9 x1 x2 x3 x0 : Value) (h : H) (kr : Value → H → Option β) (kx0 : Value → Value → Value → Value → H → Option β) : Option β :=
  p36arrlrbw C L kr kx0 L x9 x1 x2 x3 x0 h
theorem ep36arrlrb (C : CF) (L : Nat) {β : Type} (x9 x1 x2 x3 x0 : Value) (h : H) (K : Ex → T Value → H → Option β) :
    execK Try.prog C L 0 97 [8] c36arrlrb [1, 2, 3, 0] [(0, [1, 2, 3, 0])] (fs [(9, x9), (1, x1), (2, x2), (3, x3), (0, x0)]) h K =
      p36arrlrb C L x9 x1 x2 x3 x0 h (fun x8 h => K .ret (fs [(8, x8)]) h) (fun x1 x2 x3 x0 h => K (.exit 0) (fs [(1, x1), (2, x2), (3, x3), (0, x0)]) h) := by
  rw [execK_loop (b := c36arrlrbo) (fr1 := (fs [(9, x9), (1, x1), (2, x2), (3, x3), (0, x0)])) (by kernel_rfl) (show live [8] c36arrlrbo [] [(0, [1, 2, 3, 0])] = [9, 1, 2, 3, 0] by kernel_rfl) (by kernel_rfl), ep36arrlrbw]
  unfold p36arrlrb
  rfl
noncomputable def p36arrlr (C : CF) (L : Nat) {β : Type} (x9 x1 x2 x3 x0 : Value) (h : H) (kr : Value → H → Option β) (kn : Value → Value → Value → Value → H → Option β) : Option β :=
  p36arrlrb C L x9 x1 x2 x3 x0 h kr kn
theorem ep36arrlr (C : CF) (L : Nat) {β : Type} (x9 x1 x2 x3 x0 : Value) (h : H) (K : Ex → T Value → H → Option β) :
    execK Try.prog C L 0 97 [8] c36arrlr [1, 2, 3, 0] [] (fs [(9, x9), (1, x1), (2, x2), (3, x3), (0, x0)]) h K =
      p36arrlr C L x9 x1 x2 x3 x0 h (fun x8 h => K .ret (fs [(8, x8)]) h) (fun x1 x2 x3 x0 h => K .normal (fs [(1, x1), (2, x2), (3, x3), (0, x0)]) h) := by
  rw [execK_block (b := c36arrlrb) (id := 0) (by kernel_rfl), ep36arrlrb]
  unfold p36arrlr
  rfl
noncomputable def p36arrl (C : CF) (L : Nat) {β : Type} (x1 x2 x3 x0 : Value) (h : H) (kr : Value → H → Option β) (kn : Value → Value → Value → Value → H → Option β) : Option β :=
  p36arrll C L x1 x2 x3 x0 h (fun x9 x1 x2 x3 x0 h => p36arrlr C L x9 x1 x2 x3 x0 h kr kn)
theorem ep36arrl (C : CF) (L : Nat) {β : Type} (x1 x2 x3 x0 : Value) (h : H) (K : Ex → T Value → H → Option β) :
    execK Try.prog C L 0 97 [8] c36arrl [1, 2, 3, 0] [] (fs [(1, x1), (2, x2), (3, x3), (0, x0)]) h K =
      p36arrl C L x1 x2 x3 x0 h (fun x8 h => K .ret (fs [(8, x8)]) h) (fun x1 x2 x3 x0 h => K .normal (fs [(1, x1), (2, x2), (3, x3), (0, x0)]) h) := by
  rw [execK_seq (a := c36arrll) (b := c36arrlr) (by kernel_rfl) (show live [8] c36arrlr [1, 2, 3, 0] [] = [9, 1, 2, 3, 0] by kernel_rfl), ep36arrll]
  unfold p36arrl
  exact (congrArg (p36arrll C L x1 x2 x3 x0 h) (funext fun x9 => funext fun x1 => funext fun x2 => funext fun x3 => funext fun x0 => funext fun h => (seqK_n _ _ _).trans (ep36arrlr C L x9 x1 x2 x3 x0 h K)))
noncomputable def c36arrr : Code := cR c36arr
noncomputable def p36arrr (C : CF) (L : Nat) {β : Type} (x1 x2 x3 x0 : Value) (h : H) (kr : Value → H → Option β) : Option β :=
  bnd (A.build Z60L [(0, 1, x1), (1, 1, x2), (2, 1, x3)]) fun t84 =>
  bnd2 (A.box 4 t84 h) fun t85 hq1 =>
  bnd (A.nilCheck x0) fun t88 =>
  bnd (A.fieldAddr 2 t88) fun t89 =>
  bnd (A.load false 1 t89 hq1) fun t90 =>
  bnd2 (A.buildSlice 1 1 Z57L [(0, 1, t85)] hq1) fun t92 hq2 =>
  bnd2 (A.append 1 8 t90 t92 hq2) fun t93 hq3 =>
  bnd (A.nilCheck x0) fun t94 =>
  bnd (A.fieldAddr 2 t94) fun t95 =>
  bnd (A.store 1 t95 t93 hq3) fun hq4 =>
  kr t85 hq4
theorem ep36arrr (C : CF) (L : Nat) {β : Type} (x1 x2 x3 x0 : Value) (h : H) (K : Ex → T Value → H → Option β) :
    execK Try.prog C L 0 97 [8] c36arrr [8] [] (fs [(1, x1), (2, x2), (3, x3), (0, x0)]) h K =
      p36arrr C L x1 x2 x3 x0 h (fun x8 h => K .ret (fs [(8, x8)]) h) := by
  kernel_rfl
noncomputable def p36arr (C : CF) (L : Nat) {β : Type} (x1 x2 x3 x0 : Value) (h : H) (kr : Value → H → Option β) : Option β :=
  p36arrl C L x1 x2 x3 x0 h kr (fun x1 x2 x3 x0 h => p36arrr C L x1 x2 x3 x0 h kr)
theorem ep36arr (C : CF) (L : Nat) {β : Type} (x1 x2 x3 x0 : Value) (h : H) (K : Ex → T Value → H → Option β) :
    execK Try.prog C L 0 97 [8] c36arr [8] [] (fs [(1, x1), (2, x2), (3, x3), (0, x0)]) h K =
      p36arr C L x1 x2 x3 x0 h (fun x8 h => K .ret (fs [(8, x8)]) h) := by
  rw [execK_seq (a := c36arrl) (b := c36arrr) (by kernel_rfl) (show live [8] c36arrr [8] [] = [1, 2, 3, 0] by kernel_rfl), ep36arrl]
  unfold p36arr
  exact (congr (congrArg (p36arrl C L x1 x2 x3 x0 h) (funext fun x8 => funext fun h => seqK_r _ _ _)) (funext fun x1 => funext fun x2 => funext fun x3 => funext fun x0 => funext fun h => (seqK_n _ _ _).trans (ep36arrr C L x1 x2 x3 x0 h K)))
noncomputable def p36ar (C : CF) (L : Nat) {β : Type} (x1 x2 x3 x0 : Value) (h : H) (kr : Value → H → Option β) : Option β :=
  p36arl C L x1 x2 x3 x0 h kr (fun x1 x2 x3 x0 h => p36arr C L x1 x2 x3 x0 h kr)
theorem ep36ar (C : CF) (L : Nat) {β : Type} (x1 x2 x3 x0 : Value) (h : H) (K : Ex → T Value → H → Option β) :
    execK Try.prog C L 0 97 [8] c36ar [8] [] (fs [(1, x1), (2, x2), (3, x3), (0, x0)]) h K =
      p36ar C L x1 x2 x3 x0 h (fun x8 h => K .ret (fs [(8, x8)]) h) := by
  rw [execK_seq (a := c36arl) (b := c36arr) (by kernel_rfl) (show live [8] c36arr [8] [] = [1, 2, 3, 0] by kernel_rfl), ep36arl]
  unfold p36ar
  exact (congr (congrArg (p36arl C L x1 x2 x3 x0 h) (funext fun x8 => funext fun h => seqK_r _ _ _)) (funext fun x1 => funext fun x2 => funext fun x3 => funext fun x0 => funext fun h => (seqK_n _ _ _).trans (ep36arr C L x1 x2 x3 x0 h K)))
noncomputable def p36a (C : CF) (L : Nat) {β : Type} (x0 x1 x2 x3 : Value) (h : H) (kr : Value → H → Option β) : Option β :=
  p36al C L x0 x1 x2 x3 h (fun x1 x2 x3 x0 h => p36ar C L x1 x2 x3 x0 h kr)
theorem ep36a (C : CF) (L : Nat) {β : Type} (x0 x1 x2 x3 : Value) (h : H) (K : Ex → T Value → H → Option β) :
    execK Try.prog C L 0 97 [8] c36a [8] [] (fs [(0, x0), (1, x1), (2, x2), (3, x3)]) h K =
      p36a C L x0 x1 x2 x3 h (fun x8 h => K .ret (fs [(8, x8)]) h) := by
  rw [execK_seq (a := c36al) (b := c36ar) (by kernel_rfl) (show live [8] c36ar [8] [] = [1, 2, 3, 0] by kernel_rfl), ep36al]
  unfold p36a
  exact (congrArg (p36al C L x0 x1 x2 x3 h) (funext fun x1 => funext fun x2 => funext fun x3 => funext fun x0 => funext fun h => (seqK_n _ _ _).trans (ep36ar C L x1 x2 x3 x0 h K)))
noncomputable def F36 (C : CF) (L : Nat) (x0 x1 x2 x3 : Value) (h : H) : Option (Value × H) :=
  p36a C L x0 x1 x2 x3 h
    (fun x8 h => some (x8, h))
theorem F36eq (O : List FuncId) (hO : O.any (Nat.beq 36) = false) (n : Nat) (x0 x1 x2 x3 : Value) (h : H) : callB Try.prog 0 O (n + 1) 36 [x0, x1, x2, x3] h = F36 (callB Try.prog 0 O n) n x0 x1 x2 x3 h := by
  rw [callB_eq hO (c := c36a) (nt := 97) (RR := [8]) (fr := (fs [(0, x0), (1, x1), (2, x2), (3, x3)])) Try.func36 (by kernel_rfl) (by kernel_rfl) (by kernel_rfl) (by kernel_rfl) (by kernel_rfl), ep36a]
  kernel_rfl
end Go.Proofs.Ytdjhkdogpbiglaa.MailD3
