import Derived.Test.YtdjhkdogpbiglaaProg
import Derived.Test.YtdjhkdogpbiglaaAmDec
set_option linter.unusedVariables false
set_option maxRecDepth 100000
namespace Go.Proofs.Ytdjhkdogpbiglaa.MailD7
open Go Go.AM
noncomputable def Z71 : Value := (.agg ⟨[(.int .u8 0), (.int .i64 0), (.int .i64 0), (.string ⟨⟨[]⟩⟩), (.string ⟨⟨[]⟩⟩), (.int .u8 0), (.bool false), (.int .u8 0), (.bool false), (.int .u16 0), (.string ⟨⟨[]⟩⟩), (.string ⟨⟨[]⟩⟩), (.int .u8 0), (.bool false), (.int .u16 0), (.string ⟨⟨[]⟩⟩), (.bool false), (.string ⟨⟨[]⟩⟩), (.string ⟨⟨[]⟩⟩), (.int .u8 0), (.bool false), (.bool false), (.bool false), (.string ⟨⟨[]⟩⟩), (.string ⟨⟨[]⟩⟩), (.bool false), (.int .u8 0), (.slice none 0 0), (.string ⟨⟨[]⟩⟩), (.string ⟨⟨[]⟩⟩), (.string ⟨⟨[]⟩⟩), (.int .u8 0), (.bool false), (.slice none 0 0), (.slice none 0 0), (.slice none 0 0), (.int .i64 0), (.int .i64 0)]⟩)
noncomputable def Z71L : List Value := [(.int .u8 0), (.int .i64 0), (.int .i64 0), (.string ⟨⟨[]⟩⟩), (.string ⟨⟨[]⟩⟩), (.int .u8 0), (.bool false), (.int .u8 0), (.bool false), (.int .u16 0), (.string ⟨⟨[]⟩⟩), (.string ⟨⟨[]⟩⟩), (.int .u8 0), (.bool false), (.int .u16 0), (.string ⟨⟨[]⟩⟩), (.bool false), (.string ⟨⟨[]⟩⟩), (.string ⟨⟨[]⟩⟩), (.int .u8 0), (.bool false), (.bool false), (.bool false), (.string ⟨⟨[]⟩⟩), (.string ⟨⟨[]⟩⟩), (.bool false), (.int .u8 0), (.slice none 0 0), (.string ⟨⟨[]⟩⟩), (.string ⟨⟨[]⟩⟩), (.string ⟨⟨[]⟩⟩), (.int .u8 0), (.bool false), (.slice none 0 0), (.slice none 0 0), (.slice none 0 0), (.int .i64 0), (.int .i64 0)]
noncomputable def Z66 : Value := (.agg ⟨[(.int .u8 0), (.bool false), (.int .u8 0), (.bool false), (.int .u16 0), (.string ⟨⟨[]⟩⟩), (.string ⟨⟨[]⟩⟩), (.int .u8 0), (.bool false), (.int .u16 0), (.string ⟨⟨[]⟩⟩), (.bool false), (.string ⟨⟨[]⟩⟩), (.string ⟨⟨[]⟩⟩), (.int .u8 0), (.bool false), (.bool false), (.bool false), (.string ⟨⟨[]⟩⟩), (.string ⟨⟨[]⟩⟩), (.bool false), (.int .u8 0), (.slice none 0 0), (.string ⟨⟨[]⟩⟩)]⟩)
noncomputable def Z66L : List Value := [(.int .u8 0), (.bool false), (.int .u8 0), (.bool false), (.int .u16 0), (.string ⟨⟨[]⟩⟩), (.string ⟨⟨[]⟩⟩), (.int .u8 0), (.bool false), (.int .u16 0), (.string ⟨⟨[]⟩⟩), (.bool false), (.string ⟨⟨[]⟩⟩), (.string ⟨⟨[]⟩⟩), (.int .u8 0), (.bool false), (.bool false), (.bool false), (.string ⟨⟨[]⟩⟩), (.string ⟨⟨[]⟩⟩), (.bool false), (.int .u8 0), (.slice none 0 0), (.string ⟨⟨[]⟩⟩)]
noncomputable def c16a : Code := (Try.f16.body).getD .skip
noncomputable def c16al : Code := cL c16a
noncomputable def p16al (C : CF) (L : Nat) {β : Type} (x0 : Value) (h : H) (kn : Value → H → Option β) : Option β :=
  kn x0 h
theorem ep16al (C : CF) (L : Nat) {β : Type} (x0 : Value) (h : H) (K : Ex → T Value → H → Option β) :
    execK Try.prog C L 0 71 [2] c16al [0] [] (fs [(0, x0)]) h K =
      p16al C L x0 h (fun x0 h => K .normal (fs [(0, x0)]) h) := by
  kernel_rfl
noncomputable def c16ar : Code := cR c16a
noncomputable def c16arl : Code := cL c16ar
noncomputable def p16arl (C : CF) (L : Nat) {β : Type} (x0 : Value) (h : H) (kn : Value → Value → H → Option β) : Option β :=
  kn x0 (.slice none 0 0) h
theorem ep16arl (C : CF) (L : Nat) {β : Type} (x0 : Value) (h : H) (K : Ex → T Value → H → Option β) :
    execK Try.prog C L 0 71 [2] c16arl [0, 3] [] (fs [(0, x0)]) h K =
      p16arl C L x0 h (fun x0 x3 h => K .normal (fs [(0, x0), (3, x3)]) h) := by
  kernel_rfl
noncomputable def c16arr : Code := cR c16ar
noncomputable def c16arrl : Code := cL c16arr
noncomputable def c16arrll : Code := cL c16arrl
noncomputable def p16arrll (C : CF) (L : Nat) {β : Type} (x0 x3 : Value) (h : H) (kn : Value → Value → Value → H → Option β) : Option β :=
  kn (.int .i64 0) x0 x3 h
theorem ep16arrll (C : CF) (L : Nat) {β : Type} (x0 x3 : Value) (h : H) (K : Ex → T Value → H → Option β) :
    execK Try.prog C L 0 71 [2] c16arrll [4, 0, 3] [] (fs [(0, x0), (3, x3)]) h K =
      p16arrll C L x0 x3 h (fun x4 x0 x3 h => K .normal (fs [(4, x4), (0, x0), (3, x3)]) h) := by
  kernel_rfl
noncomputable def c16arrlr : Code := cR c16arrl
noncomputable def c16arrlrb : Code := cL c16arrlr
noncomputable def c16arrlrbo : Code := cL c16arrlrb
noncomputable def c16arrlrbol : Code := cL c16arrlrbo
noncomputable def p16arrlrbol (C : CF) (L : Nat) {β : Type} (x4 x0 x3 : Value) (h : H) (kn : Value → Value → Value → H → Option β) (kx0 : Value → H → Option β) : Option β :=
  bnd (A.lenS x0) fun t9 =>
  bnd (A.bin Try.prog .lss 3 x4 t9) fun t10 =>
  toBK t10 fun b =>
  (bif b then
  kn x3 x4 x0 h
  else
  kx0 x3 h)
theorem ep16arrlrbol (C : CF) (L : Nat) {β : Type} (x4 x0 x3 : Value) (h : H) (K : Ex → T Value → H → Option β) :
    execK Try.prog C L 0 71 [2] c16arrlrbol [3, 4, 0] [(0, [3])] (fs [(4, x4), (0, x0), (3, x3)]) h K =
      p16arrlrbol C L x4 x0 x3 h (fun x3 x4 x0 h => K .normal (fs [(3, x3), (4, x4), (0, x0)]) h) (fun x3 h => K (.exit 0) (fs [(3, x3)]) h) := by
  kernel_rfl
noncomputable def c16arrlrbor : Code := cR c16arrlrbo
noncomputable def c16arrlrborl : Code := cL c16arrlrbor
noncomputable def c16arrlrborlb : Code := cL c16arrlrborl
noncomputable def c16arrlrborlbl : Code := cL c16arrlrborlb
noncomputable def p16arrlrborlbl (C : CF) (L : Nat) {β : Type} (x3 x4 x0 : Value) (h : H) (kn : Value → Value → Value → Value → H → Option β) : Option β :=
  bnd (A.idxS 38 x0 x4) fun t15 =>
  bnd (A.load true 38 t15 h) fun t16 =>
  bnd2 (A.box 38 Z71 h) fun t5 hq1 =>
  bnd (A.store 38 t5 t16 hq1) fun hq2 =>
  kn x3 t5 x4 x0 hq2
theorem ep16arrlrborlbl (C : CF) (L : Nat) {β : Type} (x3 x4 x0 : Value) (h : H) (K : Ex → T Value → H → Option β) :
    execK Try.prog C L 0 71 [2] c16arrlrborlbl [3, 5, 4, 0] [(1, [4, 0, 3]), (0, [3])] (fs [(3, x3), (4, x4), (0, x0)]) h K =
      p16arrlrborlbl C L x3 x4 x0 h (fun x3 x5 x4 x0 h => K .normal (fs [(3, x3), (5, x5), (4, x4), (0, x0)]) h) := by
  kernel_rfl
noncomputable def c16arrlrborlbr : Code := cR c16arrlrborlb
noncomputable def c16arrlrborlbrl : Code := cL c16arrlrborlbr
noncomputable def p16arrlrborlbrl (C : CF) (L : Nat) {β : Type} (x3 x5 x4 x0 : Value) (h : H) (kn : Value → Value → Value → Value → H → Option β) : Option β :=
  bnd (A.fieldAddr 5 x5) fun t17 =>
  bnd (A.load true 24 t17 h) fun t18 =>
  bnd2 (C 37 [t18] h) fun t19 hq1 =>
  bnd (A.fieldAddr 5 x5) fun t20 =>
  bnd (A.store 24 t20 t19 hq1) fun hq2 =>
  kn x3 x5 x4 x0 hq2
theorem ep16arrlrborlbrl (C : CF) (L : Nat) {β : Type} (x3 x5 x4 x0 : Value) (h : H) (K : Ex → T Value → H → Option β) :
    execK Try.prog C L 0 71 [2] c16arrlrborlbrl [3, 5, 4, 0] [(1, [4, 0, 3]), (0, [3])] (fs [(3, x3), (5, x5), (4, x4), (0, x0)]) h K =
      p16arrlrborlbrl C L x3 x5 x4 x0 h (fun x3 x5 x4 x0 h => K .normal (fs [(3, x3), (5, x5), (4, x4), (0, x0)]) h) := by
  kernel_rfl
noncomputable def c16arrlrborlbrr : Code := cR c16arrlrborlbr
noncomputable def c16arrlrborlbrrl : Code := cL c16arrlrborlbrr
noncomputable def p16arrlrborlbrrl (C : CF) (L : Nat) {β : Type} (x3 x5 x4 x0 : Value) (h : H) (kn : Value → Value → Value → Value → H → Option β) : Option β :=
  bnd (A.fieldAddr 33 x5) fun t21 =>
  bnd (A.store 1 t21 (.slice none 0 0) h) fun hq1 =>
  kn x3 x5 x4 x0 hq1
theorem ep16arrlrborlbrrl (C : CF) (L : Nat) {β : Type} (x3 x5 x4 x0 : Value) (h : H) (K : Ex → T Value → H → Option β) :
    execK Try.prog C L 0 71 [2] c16arrlrborlbrrl [3, 5, 4, 0] [(1, [4, 0, 3]), (0, [3])] (fs [(3, x3), (5, x5), (4, x4), (0, x0)]) h K =
      p16arrlrborlbrrl C L x3 x5 x4 x0 h (fun x3 x5 x4 x0 h => K .normal (fs [(3, x3), (5, x5), (4, x4), (0, x0)]) h) := by
  kernel_rfl
noncomputable def c16arrlrborlbrrr : Code := cR c16arrlrborlbrr
noncomputable def c16arrlrborlbrrrl : Code := cL c16arrlrborlbrrr
noncomputable def p16arrlrborlbrrrl (C : CF) (L : Nat) {β : Type} (x3 x5 x4 x0 : Value) (h : H) (kn : Value → Value → Value → Value → H → Option β) : Option β :=
  bnd (A.fieldAddr 33 x5) fun t22 =>
  bnd (A.load false 1 t22 h) fun t23 =>
  bnd (A.idxS 38 x0 x4) fun t26 =>
  bnd (A.fieldAddr 33 t26) fun t27 =>
  bnd (A.load false 1 t27 h) fun t28 =>
  bnd2 (A.append 4 40 t23 t28 h) fun t29 hq1 =>
  bnd (A.fieldAddr 33 x5) fun t30 =>
  bnd (A.store 1 t30 t29 hq1) fun hq2 =>
  kn x3 x5 x4 x0 hq2
theorem ep16arrlrborlbrrrl (C : CF) (L : Nat) {β : Type} (x3 x5 x4 x0 : Value) (h : H) (K : Ex → T Value → H → Option β) :
    execK Try.prog C L 0 71 [2] c16arrlrborlbrrrl [3, 5, 4, 0] [(1, [4, 0, 3]), (0, [3])] (fs [(3, x3), (5, x5), (4, x4), (0, x0)]) h K =
      p16arrlrborlbrrrl C L x3 x5 x4 x0 h (fun x3 x5 x4 x0 h => K .normal (fs [(3, x3), (5, x5), (4, x4), (0, x0)]) h) := by
  kernel_rfl
noncomputable def c16arrlrborlbrrrr : Code := cR c16arrlrborlbrrr
noncomputable def c16arrlrborlbrrrrl : Code := cL c16arrlrborlbrrrr
noncomputable def p16arrlrborlbrrrrl (C : CF) (L : Nat) {β : Type} (x3 x5 x4 x0 : Value) (h : H) (kn : Value → Value → Value → Value → H → Option β) : Option β :=
  bnd (A.fieldAddr 34 x5) fun t31 =>
  bnd (A.store 1 t31 (.slice none 0 0) h) fun hq1 =>
  kn x3 x5 x4 x0 hq1
theorem ep16arrlrborlbrrrrl (C : CF) (L : Nat) {β : Type} (x3 x5 x4 x0 : Value) (h : H) (K : Ex → T Value → H → Option β) :
    execK Try.prog C L 0 71 [2] c16arrlrborlbrrrrl [3, 5, 4, 0] [(1, [4, 0, 3]), (0, [3])] (fs [(3, x3), (5, x5), (4, x4), (0, x0)]) h K =
      p16arrlrborlbrrrrl C L x3 x5 x4 x0 h (fun x3 x5 x4 x0 h => K .normal (fs [(3, x3), (5, x5), (4, x4), (0, x0)]) h) := by
  kernel_rfl
noncomputable def c16arrlrborlbrrrrr : Code := cR c16arrlrborlbrrrr
noncomputable def c16arrlrborlbrrrrrl : Code := cL c16arrlrborlbrrrrr
noncomputable def p16arrlrborlbrrrrrl (C : CF) (L : Nat) {β : Type} (x3 x5 x4 x0 : Value) (h : H) (kn : Value → Value → Value → Value → H → Option β) : Option β :=
  bnd (A.fieldAddr 34 x5) fun t32 =>
  bnd (A.load false 1 t32 h) fun t33 =>
  bnd (A.idxS 38 x0 x4) fun t36 =>
  bnd (A.fieldAddr 34 t36) fun t37 =>
  bnd (A.load false 1 t37 h) fun t38 =>
  bnd2 (A.append 1 16 t33 t38 h) fun t39 hq1 =>
  bnd (A.fieldAddr 34 x5) fun t40 =>
  bnd (A.store 1 t40 t39 hq1) fun hq2 =>
  kn x3 x5 x4 x0 hq2
theorem ep16arrlrborlbrrrrrl (C : CF) (L : Nat) {β : Type} (x3 x5 x4 x0 : Value) (h : H) (K : Ex → T Value → H → Option β) :
    execK Try.prog C L 0 71 [2] c16arrlrborlbrrrrrl [3, 5, 4, 0] [(1, [4, 0, 3]), (0, [3])] (fs [(3, x3), (5, x5), (4, x4), (0, x0)]) h K =
      p16arrlrborlbrrrrrl C L x3 x5 x4 x0 h (fun x3 x5 x4 x0 h => K .normal (fs [(3, x3), (5, x5), (4, x4), (0, x0)]) h) := by
  kernel_rfl
noncomputable def c16arrlrborlbrrrrrr : Code := cR c16arrlrborlbrrrrr
noncomputable def c16arrlrborlbrrrrrrl : Code := cL c16arrlrborlbrrrrrr
noncomputable def p16arrlrborlbrrrrrrl (C : CF) (L : Nat) {β : Type} (x3 x5 x4 x0 : Value) (h : H) (kn : Value → Value → Value → Value → H → Option β) : Option β :=
  bnd (A.fieldAddr 35 x5) fun t41 =>
  bnd (A.store 1 t41 (.slice none 0 0) h) fun hq1 =>
  kn x3 x5 x4 x0 hq1
theorem ep16arrlrborlbrrrrrrl (C : CF) (L : Nat) {β : Type} (x3 x5 x4 x0 : Value) (h : H) (K : Ex → T Value → H → Option β) :
    execK Try.prog C L 0 71 [2] c16arrlrborlbrrrrrrl [3, 5, 4, 0] [(1, [4, 0, 3]), (0, [3])] (fs [(3, x3), (5, x5), (4, x4), (0, x0)]) h K =
      p16arrlrborlbrrrrrrl C L x3 x5 x4 x0 h (fun x3 x5 x4 x0 h => K .normal (fs [(3, x3), (5, x5), (4, x4), (0, x0)]) h) := by
  kernel_rfl
noncomputable def c16arrlrborlbrrrrrrr : Code := cR c16arrlrborlbrrrrrr
noncomputable def c16arrlrborlbrrrrrrrl : Code := cL c16arrlrborlbrrrrrrr
noncomputable def c16arrlrborlbrrrrrrrll : Code := cL c16arrlrborlbrrrrrrrl
noncomputable def p16arrlrborlbrrrrrrrll (C : CF) (L : Nat) {β : Type} (x3 x5 x4 x0 : Value) (h : H) (kn : Value → Value → Value → Value → Value → H → Option β) : Option β :=
  kn (.int .i64 0) x3 x5 x4 x0 h
theorem ep16arrlrborlbrrrrrrrll (C : CF) (L : Nat) {β : Type} (x3 x5 x4 x0 : Value) (h : H) (K : Ex → T Value → H → Option β) :
    execK Try.prog C L 0 71 [2] c16arrlrborlbrrrrrrrll [6, 3, 5, 4, 0] [(1, [4, 0, 3]), (0, [3])] (fs [(3, x3), (5, x5), (4, x4), (0, x0)]) h K =
      p16arrlrborlbrrrrrrrll C L x3 x5 x4 x0 h (fun x6 x3 x5 x4 x0 h => K .normal (fs [(6, x6), (3, x3), (5, x5), (4, x4), (0, x0)]) h) := by
  kernel_rfl
noncomputable def c16arrlrborlbrrrrrrrlr : Code := cR c16arrlrborlbrrrrrrrl
noncomputable def c16arrlrborlbrrrrrrrlrb : Code := cL c16arrlrborlbrrrrrrrlr
noncomputable def c16arrlrborlbrrrrrrrlrbo : Code := cL c16arrlrborlbrrrrrrrlrb
noncomputable def c16arrlrborlbrrrrrrrlrbol : Code := cL c16arrlrborlbrrrrrrrlrbo
noncomputable def p16arrlrborlbrrrrrrrlrbol (C : CF) (L : Nat) {β : Type} (x6 x3 x5 x4 x0 : Value) (h : H) (kn : Value → Value → Value → Value → Value → H → Option β) (kx2 : Value → Value → Value → Value → H → Option β) : Option β :=
  bnd (A.idxS 38 x0 x4) fun t45 =>
  bnd (A.fieldAddr 35 t45) fun t46 =>
  bnd (A.load false 1 t46 h) fun t47 =>
  bnd (A.lenS t47) fun t48 =>
  bnd (A.bin Try.prog .lss 3 x6 t48) fun t49 =>
  toBK t49 fun b =>
  (bif b then
  kn x6 x3 x5 x4 x0 h
  else
  kx2 x3 x5 x4 x0 h)
theorem ep16arrlrborlbrrrrrrrlrbol (C : CF) (L : Nat) {β : Type} (x6 x3 x5 x4 x0 : Value) (h : H) (K : Ex → T Value → H → Option β) :
    execK Try.prog C L 0 71 [2] c16arrlrborlbrrrrrrrlrbol [6, 3, 5, 4, 0] [(2, [3, 5, 4, 0]), (1, [4, 0, 3]), (0, [3])] (fs [(6, x6), (3, x3), (5, x5), (4, x4), (0, x0)]) h K =
      p16arrlrborlbrrrrrrrlrbol C L x6 x3 x5 x4 x0 h (fun x6 x3 x5 x4 x0 h => K .normal (fs [(6, x6), (3, x3), (5, x5), (4, x4), (0, x0)]) h) (fun x3 x5 x4 x0 h => K (.exit 2) (fs [(3, x3), (5, x5), (4, x4), (0, x0)]) h) := by
  kernel_rfl
noncomputable def c16arrlrborlbrrrrrrrlrbor : Code := cR c16arrlrborlbrrrrrrrlrbo
noncomputable def p16arrlrborlbrrrrrrrlrbor (C : CF) (L : Nat) {β : Type} (x6 x3 x5 x4 x0 : Value) (h : H) (kn : Value → Value → Value → Value → Value → H → Option β) : Option β :=
  bnd (A.fieldAddr 35 x5) fun t52 =>
  bnd (A.load false 1 t52 h) fun t53 =>
  bnd (A.idxS 38 x0 x4) fun t56 =>
  bnd (A.fieldAddr 35 t56) fun t57 =>
  bnd (A.load false 1 t57 h) fun t58 =>
  bnd (A.idxS 24 t58 x6) fun t60 =>
  bnd (A.load true 24 t60 h) fun t61 =>
  bnd2 (C 37 [t61] h) fun t62 hq1 =>
  bif (chk (bnd (A.load false 1 t52 hq1) fun v => some v) t53 && true) then
  bnd2 (A.buildSlice 24 1 Z66L [(0, 24, t62)] hq1) fun t63 hq2 =>
  bnd2 (A.append 24 200 t53 t63 hq2) fun t64 hq3 =>
  bnd (A.fieldAddr 35 x5) fun t65 =>
  bnd (A.store 1 t65 t64 hq3) fun hq4 =>
  bnd (A.bin Try.prog .add 3 x6 (.int .i64 1)) fun t51 =>
  kn t51 x3 x5 x4 x0 hq4
  else none
theorem ep16arrlrborlbrrrrrrrlrbor (C : CF) (L : Nat) {β : Type} (x6 x3 x5 x4 x0 : Value) (h : H) (K : Ex → T Value → H → Option β) :
    execK Try.prog C L 0 71 [2] c16arrlrborlbrrrrrrrlrbor [6, 3, 5, 4, 0] [(2, [3, 5, 4, 0]), (1, [4, 0, 3]), (0, [3])] (fs [(6, x6), (3, x3), (5, x5), (4, x4), (0, x0)]) h K =
      p16arrlrborlbrrrrrrrlrbor C L x6 x3 x5 x4 x0 h (fun x6 x3 x5 x4 x0 h => K .normal (fs [(6, x6), (3, x3), (5, x5), (4, x4), (0, x0)]) h) := by
  kernel_rfl
noncomputable def p16arrlrborlbrrrrrrrlrbo (C : CF) (L : Nat) {β : Type} (x6 x3 x5 x4 x0 : Value) (h : H) (kn : Value → Value → Value → Value → Value → H → Option β) (kx2 : Value → Value → Value → Value → H → Option β) : Option β :=
  p16arrlrborlbrrrrrrrlrbol C L x6 x3 x5 x4 x0 h (fun x6 x3 x5 x4 x0 h => p16arrlrborlbrrrrrrrlrbor C L x6 x3 x5 x4 x0 h kn) kx2
theorem ep16arrlrborlbrrrrrrrlrbo (C : CF) (L : Nat) {β : Type} (x6 x3 x5 x4 x0 : Value) (h : H) (K : Ex → T Value → H → Option β) :
    execK Try.prog C L 0 71 [2] c16arrlrborlbrrrrrrrlrbo [6, 3, 5, 4, 0] [(2, [3, 5, 4, 0]), (1, [4, 0, 3]), (0, [3])] (fs [(6, x6), (3, x3), (5, x5), (4, x4), (0, x0)]) h K =
      p16arrlrborlbrrrrrrrlrbo C L x6 x3 x5 x4 x0 h (fun x6 x3 x5 x4 x0 h => K .normal (fs [(6, x6), (3, x3), (5, x5), (4, x4), (0, x0)]) h) (fun x3 x5 x4 x0 h => K (.exit 2) (fs [(3, x3), (5, x5), (4, x4), (0, x0)]) h) := by
  rw [execK_seq (a := c16arrlrborlbrrrrrrrlrbol) (b := c16arrlrborlbrrrrrrrlrbor) (by kernel_rfl) (show live [2] c16arrlrborlbrrrrrrrlrbor [6, 3, 5, 4, 0] [(2, [3, 5, 4, 0]), (1, [4, 0, 3]), (0, [3])] = [6, 3, 5, 4, 0] by kernel_rfl), ep16arrlrborlbrrrrrrrlrbol]
  unfold p16arrlrborlbrrrrrrrlrbo
  exact (congr (congrArg (p16arrlrborlbrrrrrrrlrbol C L x6 x3 x5 x4 x0 h) (funext fun x6 => funext fun x3 => funext fun x5 => funext fun x4 => funext fun x0 => funext fun h => (seqK_n _ _ _).trans (ep16arrlrborlbrrrrrrrlrbor C L x6 x3 x5 x4 x0 h K))) (funext fun x3 => funext fun x5 => funext fun x4 => funext fun x0 => funext fun h => seqK_x _ _ _ _))
noncomputable def p16arrlrborlbrrrrrrrlrbw (C : CF) (L : Nat) {β : Type} (kx2 : Value → Value → Value → Value → H → Option β) : Nat → Value → Value → Value → Value → Value → H → Option β
  | 0, _, _, _, _, _, _ => none
  | n + 1, x6, x3, x5, x4, x0, h => p16arrlrborlbrrrrrrrlrbo C L x6 x3 x5 x4 x0 h (fun x6 x3 x5 x4 x0 h => p16arrlrborlbrrrrrrrlrbw C L kx2 n x6 x3 x5 x4 x0 h) kx2
theorem ep16arrlrborlbrrrrrrrlrbw (C : CF) (L : Nat) {β : Type} (K : Ex → T Value → H → Option β) : ∀ (n : Nat) (x6 x3 x5 x4 x0 : Value) (h : H),
    loopK (fun fr h K => execK Try.prog C L 0 71 [2] c16arrlrborlbrrrrrrrlrbo [6, 3, 5, 4, 0] [(2, [3, 5, 4, 0]), (1, [4, 0, 3]), (0, [3])] fr h K) n (fs [(6, x6), (3, x3), (5, x5), (4, x4), (0, x0)]) h K =
      p16arrlrborlbrrrrrrrlrbw C L (fun x3 x5 x4 x0 h => K (.exit 2) (fs [(3, x3), (5, x5), (4, x4), (0, x0)]) h) n x6 x3 x5 x4 x0 h := by
  intro n
  induction n with
  | zero => intros; rfl
  | succ n ih =>
    intros
    simp only [loopK]
    rw [ep16arrlrborlbrrrrrrrlrbo]
    simp only [seqK_n, seqK_x, seqK_r, ih]
    rfl
noncomputable def p16arrlrborlbrrrrrrrlrb (C : CF) (L : Nat) {β : Type} (x6 x3 x5 x4 x0 : Value) (h : H) (kx2 : Value → Value → Value → Value → H → Option β) : Option β :=
  p16arrlrborlbrrrrrrrlrbw C L kx2 L x6 x3 x5 x4 x0 h
theorem ep16arrlrborlbrrrrrrrlrb (C : CF) (L : Nat) {β : Type} (x6 x3 x5 x4 x0 : Value) (h : H) (K : Ex → T Value → H → Option β) :
    execK Try.prog C L 0 71 [2] c16arrlrborlbrrrrrrrlrb [3, 5, 4, 0] [(2, [3, 5, 4, 0]), (1, [4, 0, 3]), (0, [3])] (fs [(6, x6), (3, x3), (5, x5), (4, x4), (0, x0)]) h K =
      p16arrlrborlbrrrrrrrlrb C L x6 x3 x5 x4 x0 h (fun x3 x5 x4 x0 h => K (.exit 2) (fs [(3, x3), (5, x5), (4, x4), (0, x0)]) h) := by
  rw [execK_loop (b := c16arrlrborlbrrrrrrrlrbo) (fr1 := (fs [(6, x6), (3, x3), (5, x5), (4, x4), (0, x0)])) (by kernel_rfl) (show live [2] c16arrlrborlbrrrrrrrlrbo [] [(2, [3, 5, 4, 0]), (1, [4, 0, 3]), (0, [3])] = [6, 3, 5, 4, 0] by kernel_rfl) (by kernel_rfl), ep16arrlrborlbrrrrrrrlrbw]
  unfold p16arrlrborlbrrrrrrrlrb
  rfl
noncomputable def p16arrlrborlbrrrrrrrlr (C : CF) (L : Nat) {β : Type} (x6 x3 x5 x4 x0 : Value) (h : H) (kn : Value → Value → Value → Value → H → Option β) : Option β :=
  p16arrlrborlbrrrrrrrlrb C L x6 x3 x5 x4 x0 h kn
theorem ep16arrlrborlbrrrrrrrlr (C : CF) (L : Nat) {β : Type} (x6 x3 x5 x4 x0 : Value) (h : H) (K : Ex → T Value → H → Option β) :
    execK Try.prog C L 0 71 [2] c16arrlrborlbrrrrrrrlr [3, 5, 4, 0] [(1, [4, 0, 3]), (0, [3])] (fs [(6, x6), (3, x3), (5, x5), (4, x4), (0, x0)]) h K =
      p16arrlrborlbrrrrrrrlr C L x6 x3 x5 x4 x0 h (fun x3 x5 x4 x0 h => K .normal (fs [(3, x3), (5, x5), (4, x4), (0, x0)]) h) := by
  rw [execK_block (b := c16arrlrborlbrrrrrrrlrb) (id := 2) (by kernel_rfl), ep16arrlrborlbrrrrrrrlrb]
  unfold p16arrlrborlbrrrrrrrlr
  rfl
noncomputable def p16arrlrborlbrrrrrrrl (C : CF) (L : Nat) {β : Type} (x3 x5 x4 x0 : Value) (h : H) (kn : Value → Value → Value → Value → H → Option β) : Option β :=
  p16arrlrborlbrrrrrrrll C L x3 x5 x4 x0 h (fun x6 x3 x5 x4 x0 h => p16arrlrborlbrrrrrrrlr C L x6 x3 x5 x4 x0 h kn)
theorem ep16arrlrborlbrrrrrrrl (C : CF) (L : Nat) {β : Type} (x3 x5 x4 x0 : Value) (h : H) (K : Ex → T Value → H → Option β) :
    execK Try.prog C L 0 71 [2] c16arrlrborlbrrrrrrrl [3, 5, 4, 0] [(1, [4, 0, 3]), (0, [3])] (fs [(3, x3), (5, x5), (4, x4), (0, x0)]) h K =
      p16arrlrborlbrrrrrrrl C L x3 x5 x4 x0 h (fun x3 x5 x4 x0 h => K .normal (fs [(3, x3), (5, x5), (4, x4), (0, x0)]) h) := by
  rw [execK_seq (a := c16arrlrborlbrrrrrrrll) (b := c16arrlrborlbrrrrrrrlr) (by kernel_rfl) (show live [2] c16arrlrborlbrrrrrrrlr [3, 5, 4, 0] [(1, [4, 0, 3]), (0, [3])] = [6, 3, 5, 4, 0] by kernel_rfl), ep16arrlrborlbrrrrrrrll]
  unfold p16arrlrborlbrrrrrrrl
  exact (congrArg (p16arrlrborlbrrrrrrrll C L x3 x5 x4 x0 h) (funext fun x6 => funext fun x3 => funext fun x5 => funext fun x4 => funext fun x0 => funext fun h => (seqK_n _ _ _).trans (ep16arrlrborlbrrrrrrrlr C L x6 x3 x5 x4 x0 h K)))
noncomputable def c16arrlrborlbrrrrrrrr : Code := cR c16arrlrborlbrrrrrrr
noncomputable def p16arrlrborlbrrrrrrrr (C : CF) (L : Nat) {β : Type} (x3 x5 x4 x0 : Value) (h : H) (kn : Value → Value → Value → H → Option β) : Option β :=
  bnd (A.load true 38 x5 h) fun t67 =>
  bnd2 (A.buildSlice 38 1 Z71L [(0, 38, t67)] h) fun t68 hq1 =>
  bnd2 (A.append 38 384 x3 t68 hq1) fun t69 hq2 =>
  kn x4 x0 t69 hq2
theorem ep16arrlrborlbrrrrrrrr (C : CF) (L : Nat) {β : Type} (x3 x5 x4 x0 : Value) (h : H) (K : Ex → T Value → H → Option β) :
    execK Try.prog C L 0 71 [2] c16arrlrborlbrrrrrrrr [4, 0, 3] [(1, [4, 0, 3]), (0, [3])] (fs [(3, x3), (5, x5), (4, x4), (0, x0)]) h K =
      p16arrlrborlbrrrrrrrr C L x3 x5 x4 x0 h (fun x4 x0 x3 h => K .normal (fs [(4, x4), (0, x0), (3, x3)]) h) := by
  kernel_rfl
noncomputable def p16arrlrborlbrrrrrrr (C : CF) (L : Nat) {β : Type} (x3 x5 x4 x0 : Value) (h : H) (kn : Value → Value → Value → H → Option β) : Option β :=
  p16arrlrborlbrrrrrrrl C L x3 x5 x4 x0 h (fun x3 x5 x4 x0 h => p16arrlrborlbrrrrrrrr C L x3 x5 x4 x0 h kn)
theorem ep16arrlrborlbrrrrrrr (C : CF) (L : Nat) {β : Type} (x3 x5 x4 x0 : Value) (h : H) (K : Ex → T Value → H → Option β) :
    execK Try.prog C L 0 71 [2] c16arrlrborlbrrrrrrr [4, 0, 3] [(1, [4, 0, 3]), (0, [3])] (fs [(3, x3), (5, x5), (4, x4), (0, x0)]) h K =
      p16arrlrborlbrrrrrrr C L x3 x5 x4 x0 h (fun x4 x0 x3 h => K .normal (fs [(4, x4), (0, x0), (3, x3)]) h) := by
  rw [execK_seq (a := c16arrlrborlbrrrrrrrl) (b := c16arrlrborlbrrrrrrrr) (by kernel_rfl) (show live [2] c16arrlrborlbrrrrrrrr [4, 0, 3] [(1, [4, 0, 3]), (0, [3])] = [3, 5, 4, 0] by kernel_rfl), ep16arrlrborlbrrrrrrrl]
  unfold p16arrlrborlbrrrrrrr
  exact (congrArg (p16arrlrborlbrrrrrrrl C L x3 x5 x4 x0 h) (funext fun x3 => funext fun x5 => funext fun x4 => funext fun x0 => funext fun h => (seqK_n _ _ _).trans (ep16arrlrborlbrrrrrrrr C L x3 x5 x4 x0 h K)))
noncomputable def p16arrlrborlbrrrrrr (C : CF) (L : Nat) {β : Type} (x3 x5 x4 x0 : Value) (h : H) (kn : Value → Value → Value → H → Option β) : Option β :=
  p16arrlrborlbrrrrrrl C L x3 x5 x4 x0 h (fun x3 x5 x4 x0 h => p16arrlrborlbrrrrrrr C L x3 x5 x4 x0 h kn)
theorem ep16arrlrborlbrrrrrr (C : CF) (L : Nat) {β : Type} (x3 x5 x4 x0 : Value) (h : H) (K : Ex → T Value → H → Option β) :
    execK Try.prog C L 0 71 [2] c16arrlrborlbrrrrrr [4, 0, 3] [(1, [4, 0, 3]), (0, [3])] (fs [(3, x3), (5, x5), (4, x4), (0, x0)]) h K =
      p16arrlrborlbrrrrrr C L x3 x5 x4 x0 h (fun x4 x0 x3 h => K .normal (fs [(4, x4), (0, x0), (3, x3)]) h) := by
  rw [execK_seq (a := c16arrlrborlbrrrrrrl) (b := c16arrlrborlbrrrrrrr) (by kernel_rfl) (show live [2] c16arrlrborlbrrrrrrr [4, 0, 3] [(1, [4, 0, 3]), (0, [3])] = [3, 5, 4, 0] by kernel_rfl), ep16arrlrborlbrrrrrrl]
  unfold p16arrlrborlbrrrrrr
  exact (congrArg (p16arrlrborlbrrrrrrl C L x3 x5 x4 x0 h) (funext fun x3 => funext fun x5 => funext fun x4 => funext fun x0 => funext fun h => (seqK_n _ _ _).trans (ep16arrlrborlbrrrrrrr C L x3 x5 x4 x0 h K)))
noncomputable def p16arrlrborlbrrrrr (C : CF) (L : Nat) {β : Type} (x3 x5 x4 x0 : Value) (h : H) (kn : Value → Value → Value → H → Option β) : Option β :=
  p16arrlrborlbrrrrrl C L x3 x5 x4 x0 h (fun x3 x5 x4 x0 h => p16arrlrborlbrrrrrr C L x3 x5 x4 x0 h kn)
theorem ep16arrlrborlbrrrrr (C : CF) (L : Nat) {β : Type} (x3 x5 x4 x0 : Value) (h : H) (K : Ex → T Value → H → Option β) :
    execK Try.prog C L 0 71 [2] c16arrlrborlbrrrrr [4, 0, 3] [(1, [4, 0, 3]), (0, [3])] (fs [(3, x3), (5, x5), (4, x4), (0, x0)]) h K =
      p16arrlrborlbrrrrr C L x3 x5 x4 x0 h (fun x4 x0 x3 h => K .normal (fs [(4, x4), (0, x0), (3, x3)]) h) := by
  rw [execK_seq (a := c16arrlrborlbrrrrrl) (b := c16arrlrborlbrrrrrr) (by kernel_rfl) (show live [2] c16arrlrborlbrrrrrr [4, 0, 3] [(1, [4, 0, 3]), (0, [3])] = [3, 5, 4, 0] by kernel_rfl), ep16arrlrborlbrrrrrl]
  unfold p16arrlrborlbrrrrr
  exact (congrArg (p16arrlrborlbrrrrrl C L x3 x5 x4 x0 h) (funext fun x3 => funext fun x5 => funext fun x4 => funext fun x0 => funext fun h => (seqK_n _ _ _).trans (ep16arrlrborlbrrrrrr C L x3 x5 x4 x0 h K)))
noncomputable def p16arrlrborlbrrrr (C : CF) (L : Nat) {β : Type} (x3 x5 x4 x0 : Value) (h : H) (kn : Value → Value → Value → H → Option β) : Option β :=
  p16arrlrborlbrrrrl C L x3 x5 x4 x0 h (fun x3 x5 x4 x0 h => p16arrlrborlbrrrrr C L x3 x5 x4 x0 h kn)
theorem ep16arrlrborlbrrrr (C : CF) (L : Nat) {β : Type} (x3 x5 x4 x0 : Value) (h : H) (K : Ex → T Value → H → Option β) :
    execK Try.prog C L 0 71 [2] c16arrlrborlbrrrr [4, 0, 3] [(1, [4, 0, 3]), (0, [3])] (fs [(3, x3), (5, x5), (4, x4), (0, x0)]) h K =
      p16arrlrborlbrrrr C L x3 x5 x4 x0 h (fun x4 x0 x3 h => K .normal (fs [(4, x4), (0, x0), (3, x3)]) h) := by
  rw [execK_seq (a := c16arrlrborlbrrrrl) (b := c16arrlrborlbrrrrr) (by kernel_rfl) (show live [2] c16arrlrborlbrrrrr [4, 0, 3] [(1, [4, 0, 3]), (0, [3])] = [3, 5, 4, 0] by kernel_rfl), ep16arrlrborlbrrrrl]
  unfold p16arrlrborlbrrrr
  exact (congrArg (p16arrlrborlbrrrrl C L x3 x5 x4 x0 h) (funext fun x3 => funext fun x5 => funext fun x4 => funext fun x0 => funext fun h => (seqK_n _ _ _).trans (ep16arrlrborlbrrrrr C L x3 x5 x4 x0 h K)))
noncomputable def p16arrlrborlbrrr (C : CF) (L : Nat) {β : Type} (x3 x5 x4 x0 : Value) (h : H) (kn : Value → Value → Value → H → Option β) : Option β :=
  p16arrlrborlbrrrl C L x3 x5 x4 x0 h (fun x3 x5 x4 x0 h => p16arrlrborlbrrrr C L x3 x5 x4 x0 h kn)
theorem ep16arrlrborlbrrr (C : CF) (L : Nat) {β : Type} (x3 x5 x4 x0 : Value) (h : H) (K : Ex → T Value → H → Option β) :
    execK Try.prog C L 0 71 [2] c16arrlrborlbrrr [4, 0, 3] [(1, [4, 0, 3]), (0, [3])] (fs [(3, x3), (5, x5), (4, x4), (0, x0)]) h K =
      p16arrlrborlbrrr C L x3 x5 x4 x0 h (fun x4 x0 x3 h => K .normal (fs [(4, x4), (0, x0), (3, x3)]) h) := by
  rw [execK_seq (a := c16arrlrborlbrrrl) (b := c16arrlrborlbrrrr) (by kernel_rfl) (show live [2] c16arrlrborlbrrrr [4, 0, 3] [(1, [4, 0, 3]), (0, [3])] = [3, 5, 4, 0] by kernel_rfl), ep16arrlrborlbrrrl]
  unfold p16arrlrborlbrrr
  exact (congrArg (p16arrlrborlbrrrl C L x3 x5 x4 x0 h) (funext fun x3 => funext fun x5 => funext fun x4 => funext fun x0 => funext fun h => (seqK_n _ _ _).trans (ep16arrlrborlbrrrr C L x3 x5 x4 x0 h K)))
noncomputable def p16arrlrborlbrr (C : CF) (L : Nat) {β : Type} (x3 x5 x4 x0 : Value) (h : H) (kn : Value → Value → Value → H → Option β) : Option β :=
  p16arrlrborlbrrl C L x3 x5 x4 x0 h (fun x3 x5 x4 x0 h => p16arrlrborlbrrr C L x3 x5 x4 x0 h kn)
theorem ep16arrlrborlbrr (C : CF) (L : Nat) {β : Type} (x3 x5 x4 x0 : Value) (h : H) (K : Ex → T Value → H → Option β) :
    execK Try.prog C L 0 71 [2] c16arrlrborlbrr [4, 0, 3] [(1, [4, 0, 3]), (0, [3])] (fs [(3, x3), (5, x5), (4, x4), (0, x0)]) h K =
      p16arrlrborlbrr C L x3 x5 x4 x0 h (fun x4 x0 x3 h => K .normal (fs [(4, x4), (0, x0), (3, x3)]) h) := by
  rw [execK_seq (a := c16arrlrborlbrrl) (b := c16arrlrborlbrrr) (by kernel_rfl) (show live [2] c16arrlrborlbrrr [4, 0, 3] [(1, [4, 0, 3]), (0, [3])] = [3, 5, 4, 0] by kernel_rfl), ep16arrlrborlbrrl]
  unfold p16arrlrborlbrr
  exact (congrArg (p16arrlrborlbrrl C L x3 x5 x4 x0 h) (funext fun x3 => funext fun x5 => funext fun x4 => funext fun x0 => funext fun h => (seqK_n _ _ _).trans (ep16arrlrborlbrrr C L x3 x5 x4 x0 h K)))
noncomputable def p16arrlrborlbr (C : CF) (L : Nat) {β : Type} (x3 x5 x4 x0 : Value) (h : H) (kn : Value → Value → Value → H → Option β) : Option β :=
  p16arrlrborlbrl C L x3 x5 x4 x0 h (fun x3 x5 x4 x0 h => p16arrlrborlbrr C L x3 x5 x4 x0 h kn)
theorem ep16arrlrborlbr (C : CF) (L : Nat) {β : Type} (x3 x5 x4 x0 : Value) (h : H) (K : Ex → T Value → H → Option β) :
    execK Try.prog C L 0 71 [2] c16arrlrborlbr [4, 0, 3] [(1, [4, 0, 3]), (0, [3])] (fs [(3, x3), (5, x5), (4, x4), (0, x0)]) h K =
      p16arrlrborlbr C L x3 x5 x4 x0 h (fun x4 x0 x3 h => K .normal (fs [(4, x4), (0, x0), (3, x3)]) h) := by
  rw [execK_seq (a := c16arrlrborlbrl) (b := c16arrlrborlbrr) (by kernel_rfl) (show live [2] c16arrlrborlbrr [4, 0, 3] [(1, [4, 0, 3]), (0, [3])] = [3, 5, 4, 0] by kernel_rfl), ep16arrlrborlbrl]
  unfold p16arrlrborlbr
  exact (congrArg (p16arrlrborlbrl C L x3 x5 x4 x0 h) (funext fun x3 => funext fun x5 => funext fun x4 => funext fun x0 => funext fun h => (seqK_n _ _ _).trans (ep16arrlrborlbrr C L x3 x5 x4 x0 h K)))
noncomputable def p16arrlrborlb (C : CF) (L : Nat) {β : Type} (x3 x4 x0 : Value) (h : H) (kn : Value → Value → Value → H → Option β) : Option β :=
  p16arrlrborlbl C L x3 x4 x0 h (fun x3 x5 x4 x0 h => p16arrlrborlbr C L x3 x5 x4 x0 h kn)
theorem ep16arrlrborlb (C : CF) (L : Nat) {β : Type} (x3 x4 x0 : Value) (h : H) (K : Ex → T Value → H → Option β) :
    execK Try.prog C L 0 71 [2] c16arrlrborlb [4, 0, 3] [(1, [4, 0, 3]), (0, [3])] (fs [(3, x3), (4, x4), (0, x0)]) h K =
      p16arrlrborlb C L x3 x4 x0 h (fun x4 x0 x3 h => K .normal (fs [(4, x4), (0, x0), (3, x3)]) h) := by
  rw [execK_seq (a := c16arrlrborlbl) (b := c16arrlrborlbr) (by kernel_rfl) (show live [2] c16arrlrborlbr [4, 0, 3] [(1, [4, 0, 3]), (0, [3])] = [3, 5, 4, 0] by kernel_rfl), ep16arrlrborlbl]
  unfold p16arrlrborlb
  exact (congrArg (p16arrlrborlbl C L x3 x4 x0 h) (funext fun x3 => funext fun x5 => funext fun x4 => funext fun x0 => funext fun h => (seqK_n _ _ _).trans (ep16arrlrborlbr C L x3 x5 x4 x0 h K)))
noncomputable def p16arrlrborl (C : CF) (L : Nat) {β : Type} (x3 x4 x0 : Value) (h : H) (kn : Value → Value → Value → H → Option β) : Option β :=
  p16arrlrborlb C L x3 x4 x0 h kn
theorem ep16arrlrborl (C : CF) (L : Nat) {β : Type} (x3 x4 x0 : Value) (h : H) (K : Ex → T Value → H → Option β) :
    execK Try.prog C L 0 71 [2] c16arrlrborl [4, 0, 3] [(0, [3])] (fs [(3, x3), (4, x4), (0, x0)]) h K =
      p16arrlrborl C L x3 x4 x0 h (fun x4 x0 x3 h => K .normal (fs [(4, x4), (0, x0), (3, x3)]) h) := by
  rw [execK_block (b := c16arrlrborlb) (id := 1) (by kernel_rfl), ep16arrlrborlb]
  unfold p16arrlrborl
  rfl
noncomputable def c16arrlrborr : Code := cR c16arrlrbor
noncomputable def p16arrlrborr (C : CF) (L : Nat) {β : Type} (x4 x0 x3 : Value) (h : H) (kn : Value → Value → Value → H → Option β) : Option β :=
  bnd (A.bin Try.prog .add 3 x4 (.int .i64 1)) fun t12 =>
  kn t12 x0 x3 h
theorem ep16arrlrborr (C : CF) (L : Nat) {β : Type} (x4 x0 x3 : Value) (h : H) (K : Ex → T Value → H → Option β) :
    execK Try.prog C L 0 71 [2] c16arrlrborr [4, 0, 3] [(0, [3])] (fs [(4, x4), (0, x0), (3, x3)]) h K =
      p16arrlrborr C L x4 x0 x3 h (fun x4 x0 x3 h => K .normal (fs [(4, x4), (0, x0), (3, x3)]) h) := by
  kernel_rfl
noncomputable def p16arrlrbor (C : CF) (L : Nat) {β : Type} (x3 x4 x0 : Value) (h : H) (kn : Value → Value → Value → H → Option β) : Option β :=
  p16arrlrborl C L x3 x4 x0 h (fun x4 x0 x3 h => p16arrlrborr C L x4 x0 x3 h kn)
theorem ep16arrlrbor (C : CF) (L : Nat) {β : Type} (x3 x4 x0 : Value) (h : H) (K : Ex → T Value → H → Option β) :
    execK Try.prog C L 0 71 [2] c16arrlrbor [4, 0, 3] [(0, [3])] (fs [(3, x3), (4, x4), (0, x0)]) h K =
      p16arrlrbor C L x3 x4 x0 h (fun x4 x0 x3 h => K .normal (fs [(4, x4), (0, x0), (3, x3)]) h) := by
  rw [execK_seq (a := c16arrlrborl) (b := c16arrlrborr) (by kernel_rfl) (show live [2] c16arrlrborr [4, 0, 3] [(0, [3])] = [4, 0, 3] by kernel_rfl), ep16arrlrborl]
  unfold p16arrlrbor
  exact (congrArg (p16arrlrborl C L x3 x4 x0 h) (funext fun x4 => funext fun x0 => funext fun x3 => funext fun h => (seqK_n _ _ _).trans (ep16arrlrborr C L x4 x0 x3 h K)))
noncomputable def p16arrlrbo (C : CF) (L : Nat) {β : Type} (x4 x0 x3 : Value) (h : H) (kn : Value → Value → Value → H → Option β) (kx0 : Value → H → Option β) : Option β :=
  p16arrlrbol C L x4 x0 x3 h (fun x3 x4 x0 h => p16arrlrbor C L x3 x4 x0 h kn) kx0
theorem ep16arrlrbo (C : CF) (L : Nat) {β : Type} (x4 x0 x3 : Value) (h : H) (K : Ex → T Value → H → Option β) :
    execK Try.prog C L 0 71 [2] c16arrlrbo [4, 0, 3] [(0, [3])] (fs [(4, x4), (0, x0), (3, x3)]) h K =
      p16arrlrbo C L x4 x0 x3 h (fun x4 x0 x3 h => K .normal (fs [(4, x4), (0, x0), (3, x3)]) h) (fun x3 h => K (.exit 0) (fs [(3, x3)]) h) := by
  rw [execK_seq (a := c16arrlrbol) (b := c16arrlrbor) (by kernel_rfl) (show live [2] c16arrlrbor [4, 0, 3] [(0, [3])] = [3, 4, 0] by kernel_rfl), ep16arrlrbol]
  unfold p16arrlrbo
  exact (congr (congrArg (p16arrlrbol C L x4 x0 x3 h) (funext fun x3 => funext fun x4 => funext fun x0 => funext fun h => (seqK_n _ _ _).trans (ep16arrlrbor C L x3 x4 x0 h K))) (funext fun x3 => funext fun h => seqK_x _ _ _ _))
noncomputable def p16arrlrbw (C : CF) (L : Nat) {β : Type} (kx0 : Value → H → Option β) : Nat → Value → Value → Value → H → Option β
  | 0, _, _, _, _ => none
  | n + 1, x4, x0, x3, h => p16arrlrbo C L x4 x0 x3 h (fun x4 x0 x3 h => p16arrlrbw C L kx0 n x4 x0 x3 h) kx0
theorem ep16arrlrbw (C : CF) (L : Nat) {β : Type} (K : Ex → T Value → H → Option β) : ∀ (n : Nat) (x4 x0 x3 : Value) (h : H),
    loopK (fun fr h K => execK Try.prog C L 0 71 [2] c16arrlrbo [4, 0, 3] [(0, [3])] fr h K) n (fs [(4, x4), (0, x0), (3, x3)]) h K =
      p16arrlrbw C L (fun x3 h => K (.exit 0) (fs [(3, x3)]) h) n x4 x0 x3 h := by
  intro n
  induction n with
  | zero => intros; rfl
  | succ n ih =>
    intros
    simp only [loopK]
    rw [ep16arrlrbo]
    simp only [seqK_n, seqK_x, seqK_r, ih]
    rfl
noncomputable def p16arrlrb (C : CF) (L : Nat) {β : Type} (x4 x0 x3 : Value) (h : H) (kx0 : Value → H → Option β) : Option β :=
  p16arrlrbw C L kx0 L x4 x0 x3 h
theorem ep16arrlrb (C : CF) (L : Nat) {β : Type} (x4 x0 x3 : Value) (h : H) (K : Ex → T Value → H → Option β) :
    execK Try.prog C L 0 71 [2] c16arrlrb [3] [(0, [3])] (fs [(4, x4), (0, x0), (3, x3)]) h K =
      p16arrlrb C L x4 x0 x3 h (fun x3 h => K (.exit 0) (fs [(3, x3)]) h) := by
  rw [execK_loop (b := c16arrlrbo) (fr1 := (fs [(4, x4), (0, x0), (3, x3)])) (by kernel_rfl) (show live [2] c16arrlrbo [] [(0, [3])] = [4, 0, 3] by kernel_rfl) (by kernel_rfl), ep16arrlrbw]
  unfold p16arrlrb
  rfl
noncomputable def p16arrlr (C : CF) (L : Nat) {β : Type} (x4 x0 x3 : Value) (h : H) (kn : Value → H → Option β) : Option β :=
  p16arrlrb C L x4 x0 x3 h kn
theorem ep16arrlr (C : CF) (L : Nat) {β : Type} (x4 x0 x3 : Value) (h : H) (K : Ex → T Value → H → Option β) :
    execK Try.prog C L 0 71 [2] c16arrlr [3] [] (fs [(4, x4), (0, x0), (3, x3)]) h K =
      p16arrlr C L x4 x0 x3 h (fun x3 h => K .normal (fs [(3, x3)]) h) := by
  rw [execK_block (b := c16arrlrb) (id := 0) (by kernel_rfl), ep16arrlrb]
  unfold p16arrlr
  rfl
noncomputable def p16arrl (C : CF) (L : Nat) {β : Type} (x0 x3 : Value) (h : H) (kn : Value → H → Option β) : Option β :=
  p16arrll C L x0 x3 h (fun x4 x0 x3 h => p16arrlr C L x4 x0 x3 h kn)
theorem ep16arrl (C : CF) (L : Nat) {β : Type} (x0 x3 : Value) (h : H) (K : Ex → T Value → H → Option β) :
    execK Try.prog C L 0 71 [2] c16arrl [3] [] (fs [(0, x0), (3, x3)]) h K =
      p16arrl C L x0 x3 h (fun x3 h => K .normal (fs [(3, x3)]) h) := by
  rw [execK_seq (a := c16arrll) (b := c16arrlr) (by kernel_rfl) (show live [2] c16arrlr [3] [] = [4, 0, 3] by kernel_rfl), ep16arrll]
  unfold p16arrl
  exact (congrArg (p16arrll C L x0 x3 h) (funext fun x4 => funext fun x0 => funext fun x3 => funext fun h => (seqK_n _ _ _).trans (ep16arrlr C L x4 x0 x3 h K)))
noncomputable def c16arrr : Code := cR c16arr
noncomputable def p16arrr (C : CF) (L : Nat) {β : Type} (x3 : Value) (h : H) (kr : Value → H → Option β) : Option β :=
  kr x3 h
theorem ep16arrr (C : CF) (L : Nat) {β : Type} (x3 : Value) (h : H) (K : Ex → T Value → H → Option β) :
    execK Try.prog C L 0 71 [2] c16arrr [2] [] (fs [(3, x3)]) h K =
      p16arrr C L x3 h (fun x2 h => K .ret (fs [(2, x2)]) h) := by
  kernel_rfl
noncomputable def p16arr (C : CF) (L : Nat) {β : Type} (x0 x3 : Value) (h : H) (kr : Value → H → Option β) : Option β :=
  p16arrl C L x0 x3 h (fun x3 h => p16arrr C L x3 h kr)
theorem ep16arr (C : CF) (L : Nat) {β : Type} (x0 x3 : Value) (h : H) (K : Ex → T Value → H → Option β) :
    execK Try.prog C L 0 71 [2] c16arr [2] [] (fs [(0, x0), (3, x3)]) h K =
      p16arr C L x0 x3 h (fun x2 h => K .ret (fs [(2, x2)]) h) := by
  rw [execK_seq (a := c16arrl) (b := c16arrr) (by kernel_rfl) (show live [2] c16arrr [2] [] = [3] by kernel_rfl), ep16arrl]
  unfold p16arr
  exact (congrArg (p16arrl C L x0 x3 h) (funext fun x3 => funext fun h => (seqK_n _ _ _).trans (ep16arrr C L x3 h K)))
noncomputable def p16ar (C : CF) (L : Nat) {β : Type} (x0 : Value) (h : H) (kr : Value → H → Option β) : Option β :=
  p16arl C L x0 h (fun x0 x3 h => p16arr C L x0 x3 h kr)
theorem ep16ar (C : CF) (L : Nat) {β : Type} (x0 : Value) (h : H) (K : Ex → T Value → H → Option β) :
    execK Try.prog C L 0 71 [2] c16ar [2] [] (fs [(0, x0)]) h K =
      p16ar C L x0 h (fun x2 h => K .ret (fs [(2, x2)]) h) := by
  rw [execK_seq (a := c16arl) (b := c16arr) (by kernel_rfl) (show live [2] c16arr [2] [] = [0, 3] by kernel_rfl), ep16arl]
  unfold p16ar
  exact (congrArg (p16arl C L x0 h) (funext fun x0 => funext fun x3 => funext fun h => (seqK_n _ _ _).trans (ep16arr C L x0 x3 h K)))
noncomputable def p16a (C : CF) (L : Nat) {β : Type} (x0 : Value) (h : H) (kr : Value → H → Option β) : Option β :=
  p16al C L x0 h (fun x0 h => p16ar C L x0 h kr)
theorem ep16a (C : CF) (L : Nat) {β : Type} (x0 : Value) (h : H) (K : Ex → T Value → H → Option β) :
    execK Try.prog C L 0 71 [2] c16a [2] [] (fs [(0, x0)]) h K =
      p16a C L x0 h (fun x2 h => K .ret (fs [(2, x2)]) h) := by
  rw [execK_seq (a := c16al) (b := c16ar) (by kernel_rfl) (show live [2] c16ar [2] [] = [0] by kernel_rfl), ep16al]
  unfold p16a
  exact (congrArg (p16al C L x0 h) (funext fun x0 => funext fun h => (seqK_n _ _ _).trans (ep16ar C L x0 h K)))
noncomputable def F16 (C : CF) (L : Nat) (x0 : Value) (h : H) : Option (Value × H) :=
  p16a C L x0 h
    (fun x2 h => some (x2, h))
theorem F16eq (O : List FuncId) (hO : O.any (Nat.beq 16) = false) (n : Nat) (x0 : Value) (h : H) : callB Try.prog 0 O (n + 1) 16 [x0] h = F16 (callB Try.prog 0 O n) n x0 h := by
  rw [callB_eq hO (c := c16a) (nt := 71) (RR := [2]) (fr := (fs [(0, x0)])) Try.func16 (by kernel_rfl) (by kernel_rfl) (by kernel_rfl) (by kernel_rfl) (by kernel_rfl), ep16a]
  kernel_rfl
noncomputable def c19a : Code := (Try.f19.body).getD .skip
noncomputable def c19al : Code := cL c19a
noncomputable def p19al (C : CF) (L : Nat) {β : Type} (x0 x1 : Value) (h : H) (kn : Value → Value → H → Option β) : Option β :=
  kn x1 x0 h
theorem ep19al (C : CF) (L : Nat) {β : Type} (x0 x1 : Value) (h : H) (K : Ex → T Value → H → Option β) :
    execK Try.prog C L 0 27 [4] c19al [1, 0] [] (fs [(0, x0), (1, x1)]) h K =
      p19al C L x0 x1 h (fun x1 x0 h => K .normal (fs [(1, x1), (0, x0)]) h) := by
  kernel_rfl
noncomputable def c19ar : Code := cR c19a
noncomputable def c19arl : Code := cL c19ar
noncomputable def p19arl (C : CF) (L : Nat) {β : Type} (x1 x0 : Value) (h : H) (kr : Value → H → Option β) (kn : Value → Value → H → Option β) : Option β :=
  bnd (A.lenS x0) fun t7 =>
  bnd (A.lenS x1) fun t9 =>
  bnd (A.bin Try.prog .neq 3 t7 t9) fun t10 =>
  toBK t10 fun b =>
  (bif b then
  kr (.bool false) h
  else
  kn x1 x0 h)
theorem ep19arl (C : CF) (L : Nat) {β : Type} (x1 x0 : Value) (h : H) (K : Ex → T Value → H → Option β) :
    execK Try.prog C L 0 27 [4] c19arl [1, 0] [] (fs [(1, x1), (0, x0)]) h K =
      p19arl C L x1 x0 h (fun x4 h => K .ret (fs [(4, x4)]) h) (fun x1 x0 h => K .normal (fs [(1, x1), (0, x0)]) h) := by
  kernel_rfl
noncomputable def c19arr : Code := cR c19ar
noncomputable def c19arrl : Code := cL c19arr
noncomputable def c19arrll : Code := cL c19arrl
noncomputable def p19arrll (C : CF) (L : Nat) {β : Type} (x1 x0 : Value) (h : H) (kn : Value → Value → Value → H → Option β) : Option β :=
  kn (.int .i64 0) x1 x0 h
theorem ep19arrll (C : CF) (L : Nat) {β : Type} (x1 x0 : Value) (h : H) (K : Ex → T Value → H → Option β) :
    execK Try.prog C L 0 27 [4] c19arrll [5, 1, 0] [] (fs [(1, x1), (0, x0)]) h K =
      p19arrll C L x1 x0 h (fun x5 x1 x0 h => K .normal (fs [(5, x5), (1, x1), (0, x0)]) h) := by
  kernel_rfl
noncomputable def c19arrlr : Code := cR c19arrl
noncomputable def c19arrlrb : Code := cL c19arrlr
noncomputable def c19arrlrbo : Code := cL c19arrlrb
noncomputable def p19arrlrbo (C : CF) (L : Nat) {β : Type} (x5 x1 x0 : Value) (h : H) (kr : Value → H → Option β) (kn : Value → Value → Value → H → Option β) (kx0 : H → Option β) : Option β :=
  bnd (A.lenS x0) fun t13 =>
  bnd (A.bin Try.prog .lss 3 x5 t13) fun t14 =>
  toBK t14 fun b =>
  (bif b then
  bnd (A.idxS 38 x0 x5) fun t19 =>
  bnd (A.load true 38 t19 h) fun t20 =>
  bnd (A.idxS 38 x1 x5) fun t23 =>
  bnd (A.load true 38 t23 h) fun t24 =>
  bnd2 (C 38 [t20, t24] h) fun t25 hq1 =>
  toBK t25 fun bq1 =>
  bnd (A.un Try.prog .not (.bool bq1)) fun t26 =>
  toBK t26 fun bq2 =>
  (bif bq2 then
  kr (.bool false) hq1
  else
  bnd (A.bin Try.prog .add 3 x5 (.int .i64 1)) fun t16 =>
  kn t16 x1 x0 hq1)
  else
  kx0 h)
theorem ep19arrlrbo (C : CF) (L : Nat) {β : Type} (x5 x1 x0 : Value) (h : H) (K : Ex → T Value → H → Option β) :
    execK Try.prog C L 0 27 [4] c19arrlrbo [5, 1, 0] [(0, [])] (fs [(5, x5), (1, x1), (0, x0)]) h K =
      p19arrlrbo C L x5 x1 x0 h (fun x4 h => K .ret (fs [(4, x4)]) h) (fun x5 x1 x0 h => K .normal (fs [(5, x5), (1, x1), (0, x0)]) h) (fun h => K (.exit 0) (fs []) h) := by
  kernel_rfl
noncomputable def p19arrlrbw (C : CF) (L : Nat) {β : Type} (kr : Value → H → Option β) (kx0 : H → Option β) : Nat → Value → Value → Value → H → Option β
  | 0, _, _, _, _ => none
  | n + 1, x5, x1, x0, h => p19arrlrbo C L x5 x1 x0 h kr (fun x5 x1 x0 h => p19arrlrbw C L kr kx0 n x5 x1 x0 h) kx0
theorem ep19arrlrbw (C : CF) (L : Nat) {β : Type} (K : Ex → T Value → H → Option β) : ∀ (n : Nat) (x5 x1 x0 : Value) (h : H),
    loopK (fun fr h K => execK Try.prog C L 0 27 [4] c19arrlrbo [5, 1, 0] [(0, [])] fr h K) n (fs [(5, x5), (1, x1), (0, x0)]) h K =
      p19arrlrbw C L (fun x4 h => K .ret (fs [(4, x4)]) h) (fun h => K (.exit 0) (fs []) h) n x5 x1 x0 h := by
  intro n
  induction n with
  | zero => intros; rfl
  | succ n ih =>
    intros
    simp only [loopK]
    rw [ep19arrlrbo]
    simp only [seqK_n, seqK_x, seqK_r, ih]
    rfl
noncomputable def p19arrlrb (C : CF) (L : Nat) {β : Type} (x5 x1 x0 : Value) (h : H) (kr : Value → H → Option β) (kx0 : H → Option β) : Option β :=
  p19arrlrbw C L kr kx0 L x5 x1 x0 h
theorem ep19arrlrb (C : CF) (L : Nat) {β : Type} (x5 x1 x0 : Value) (h : H) (K : Ex → T Value → H → Option β) :
    execK Try.prog C L 0 27 [4] c19arrlrb [] [(0, [])] (fs [(5, x5), (1, x1), (0, x0)]) h K =
      p19arrlrb C L x5 x1 x0 h (fun x4 h => K .ret (fs [(4, x4)]) h) (fun h => K (.exit 0) (fs []) h) := by
  rw [execK_loop (b := c19arrlrbo) (fr1 := (fs [(5, x5), (1, x1), (0, x0)])) (by kernel_rfl) (show live [4] c19arrlrbo [] [(0, [])] = [5, 1, 0] by kernel_rfl) (by kernel_rfl), ep19arrlrbw]
  unfold p19arrlrb
  rfl
noncomputable def p19arrlr (C : CF) (L : Nat) {β : Type} (x5 x1 x0 : Value) (h : H) (kr : Value → H → Option β) (kn : H → Option β) : Option β :=
  p19arrlrb C L x5 x1 x0 h kr kn
theorem ep19arrlr (C : CF) (L : Nat) {β : Type} (x5 x1 x0 : Value) (h : H) (K : Ex → T Value → H → Option β) :
    execK Try.prog C L 0 27 [4] c19arrlr [] [] (fs [(5, x5), (1, x1), (0, x0)]) h K =
      p19arrlr C L x5 x1 x0 h (fun x4 h => K .ret (fs [(4, x4)]) h) (fun h => K .normal (fs []) h) := by
  rw [execK_block (b := c19arrlrb) (id := 0) (by kernel_rfl), ep19arrlrb]
  unfold p19arrlr
  rfl
noncomputable def p19arrl (C : CF) (L : Nat) {β : Type} (x1 x0 : Value) (h : H) (kr : Value → H → Option β) (kn : H → Option β) : Option β :=
  p19arrll C L x1 x0 h (fun x5 x1 x0 h => p19arrlr C L x5 x1 x0 h kr kn)
theorem ep19arrl (C : CF) (L : Nat) {β : Type} (x1 x0 : Value) (h : H) (K : Ex → T Value → H → Option β) :
    execK Try.prog C L 0 27 [4] c19arrl [] [] (fs [(1, x1), (0, x0)]) h K =
      p19arrl C L x1 x0 h (fun x4 h => K .ret (fs [(4, x4)]) h) (fun h => K .normal (fs []) h) := by
  rw [execK_seq (a := c19arrll) (b := c19arrlr) (by kernel_rfl) (show live [4] c19arrlr [] [] = [5, 1, 0] by kernel_rfl), ep19arrll]
  unfold p19arrl
  exact (congrArg (p19arrll C L x1 x0 h) (funext fun x5 => funext fun x1 => funext fun x0 => funext fun h => (seqK_n _ _ _).trans (ep19arrlr C L x5 x1 x0 h K)))
noncomputable def c19arrr : Code := cR c19arr
noncomputable def p19arrr (C : CF) (L : Nat) {β : Type} (h : H) (kr : Value → H → Option β) : Option β :=
  kr (.bool true) h
theorem ep19arrr (C : CF) (L : Nat) {β : Type} (h : H) (K : Ex → T Value → H → Option β) :
    execK Try.prog C L 0 27 [4] c19arrr [4] [] (fs []) h K =
      p19arrr C L h (fun x4 h => K .ret (fs [(4, x4)]) h) := by
  kernel_rfl
noncomputable def p19arr (C : CF) (L : Nat) {β : Type} (x1 x0 : Value) (h : H) (kr : Value → H → Option β) : Option β :=
  p19arrl C L x1 x0 h kr (fun h => p19arrr C L h kr)
theorem ep19arr (C : CF) (L : Nat) {β : Type} (x1 x0 : Value) (h : H) (K : Ex → T Value → H → Option β) :
    execK Try.prog C L 0 27 [4] c19arr [4] [] (fs [(1, x1), (0, x0)]) h K =
      p19arr C L x1 x0 h (fun x4 h => K .ret (fs [(4, x4)]) h) := by
  rw [execK_seq (a := c19arrl) (b := c19arrr) (by kernel_rfl) (show live [4] c19arrr [4] [] = [] by kernel_rfl), ep19arrl]
  unfold p19arr
  exact (congr (congrArg (p19arrl C L x1 x0 h) (funext fun x4 => funext fun h => seqK_r _ _ _)) (funext fun h => (seqK_n _ _ _).trans (ep19arrr C L h K)))
noncomputable def p19ar (C : CF) (L : Nat) {β : Type} (x1 x0 : Value) (h : H) (kr : Value → H → Option β) : Option β :=
  p19arl C L x1 x0 h kr (fun x1 x0 h => p19arr C L x1 x0 h kr)
theorem ep19ar (C : CF) (L : Nat) {β : Type} (x1 x0 : Value) (h : H) (K : Ex → T Value → H → Option β) :
    execK Try.prog C L 0 27 [4] c19ar [4] [] (fs [(1, x1), (0, x0)]) h K =
      p19ar C L x1 x0 h (fun x4 h => K .ret (fs [(4, x4)]) h) := by
  rw [execK_seq (a := c19arl) (b := c19arr) (by kernel_rfl) (show live [4] c19arr [4] [] = [1, 0] by kernel_rfl), ep19arl]
  unfold p19ar
  exact (congr (congrArg (p19arl C L x1 x0 h) (funext fun x4 => funext fun h => seqK_r _ _ _)) (funext fun x1 => funext fun x0 => funext fun h => (seqK_n _ _ _).trans (ep19arr C L x1 x0 h K)))
noncomputable def p19a (C : CF) (L : Nat) {β : Type} (x0 x1 : Value) (h : H) (kr : Value → H → Option β) : Option β :=
  p19al C L x0 x1 h (fun x1 x0 h => p19ar C L x1 x0 h kr)
theorem ep19a (C : CF) (L : Nat) {β : Type} (x0 x1 : Value) (h : H) (K : Ex → T Value → H → Option β) :
    execK Try.prog C L 0 27 [4] c19a [4] [] (fs [(0, x0), (1, x1)]) h K =
      p19a C L x0 x1 h (fun x4 h => K .ret (fs [(4, x4)]) h) := by
  rw [execK_seq (a := c19al) (b := c19ar) (by kernel_rfl) (show live [4] c19ar [4] [] = [1, 0] by kernel_rfl), ep19al]
  unfold p19a
  exact (congrArg (p19al C L x0 x1 h) (funext fun x1 => funext fun x0 => funext fun h => (seqK_n _ _ _).trans (ep19ar C L x1 x0 h K)))
noncomputable def F19 (C : CF) (L : Nat) (x0 x1 : Value) (h : H) : Option (Value × H) :=
  p19a C L x0 x1 h
    (fun x4 h => some (x4, h))
theorem F19eq (O : List FuncId) (hO : O.any (Nat.beq 19) = false) (n : Nat) (x0 x1 : Value) (h : H) : callB Try.prog 0 O (n + 1) 19 [x0, x1] h = F19 (callB Try.prog 0 O n) n x0 x1 h := by
  rw [callB_eq hO (c := c19a) (nt := 27) (RR := [4]) (fr := (fs [(0, x0), (1, x1)])) Try.func19 (by kernel_rfl) (by kernel_rfl) (by kernel_rfl) (by kernel_rfl) (by kernel_rfl), ep19a]
  kernel_rfl
noncomputable def c20a : Code := (Try.f20.body).getD .skip
noncomputable def c20al : Code := cL c20a
noncomputable def p20al (C : CF) (L : Nat) {β : Type} (x0 : Value) (h : H) (kn : Value → Value → H → Option β) : Option β :=
  kn (.int .i64 0) x0 h
theorem ep20al (C : CF) (L : Nat) {β : Type} (x0 : Value) (h : H) (K : Ex → T Value → H → Option β) :
    execK Try.prog C L 0 92 [] c20al [2, 0] [] (fs [(0, x0)]) h K =
      p20al C L x0 h (fun x2 x0 h => K .normal (fs [(2, x2), (0, x0)]) h) := by
  kernel_rfl
noncomputable def c20ar : Code := cR c20a
noncomputable def c20arb : Code := cL c20ar
noncomputable def c20arbo : Code := cL c20arb
noncomputable def c20arbol : Code := cL c20arbo
noncomputable def p20arbol (C : CF) (L : Nat) {β : Type} (x2 x0 : Value) (h : H) (kn : Value → Value → H → Option β) (kx0 : H → Option β) : Option β :=
  bnd (A.lenS x0) fun t11 =>
  bnd (A.bin Try.prog .lss 3 x2 t11) fun t12 =>
  toBK t12 fun b =>
  (bif b then
  kn x2 x0 h
  else
  kx0 h)
theorem ep20arbol (C : CF) (L : Nat) {β : Type} (x2 x0 : Value) (h : H) (K : Ex → T Value → H → Option β) :
    execK Try.prog C L 0 92 [] c20arbol [2, 0] [(0, [])] (fs [(2, x2), (0, x0)]) h K =
      p20arbol C L x2 x0 h (fun x2 x0 h => K .normal (fs [(2, x2), (0, x0)]) h) (fun h => K (.exit 0) (fs []) h) := by
  kernel_rfl
noncomputable def c20arbor : Code := cR c20arbo
noncomputable def c20arborl : Code := cL c20arbor
noncomputable def c20arborlb : Code := cL c20arborl
noncomputable def c20arborlbl : Code := cL c20arborlb
noncomputable def p20arborlbl (C : CF) (L : Nat) {β : Type} (x2 x0 : Value) (h : H) (kn : Value → Value → Value → H → Option β) : Option β :=
  bnd (A.idxS 38 x0 x2) fun t17 =>
  bnd (A.load true 38 t17 h) fun t18 =>
  bnd2 (A.box 38 Z71 h) fun t3 hq1 =>
  bnd (A.store 38 t3 t18 hq1) fun hq2 =>
  kn t3 x2 x0 hq2
theorem ep20arborlbl (C : CF) (L : Nat) {β : Type} (x2 x0 : Value) (h : H) (K : Ex → T Value → H → Option β) :
    execK Try.prog C L 0 92 [] c20arborlbl [3, 2, 0] [(1, [2, 0]), (0, [])] (fs [(2, x2), (0, x0)]) h K =
      p20arborlbl C L x2 x0 h (fun x3 x2 x0 h => K .normal (fs [(3, x3), (2, x2), (0, x0)]) h) := by
  kernel_rfl
noncomputable def c20arborlbr : Code := cR c20arborlb
noncomputable def c20arborlbrl : Code := cL c20arborlbr
noncomputable def c20arborlbrll : Code := cL c20arborlbrl
noncomputable def p20arborlbrll (C : CF) (L : Nat) {β : Type} (x3 x2 x0 : Value) (h : H) (kn : Value → Value → Value → Value → H → Option β) : Option β :=
  kn (.int .i64 0) x3 x2 x0 h
theorem ep20arborlbrll (C : CF) (L : Nat) {β : Type} (x3 x2 x0 : Value) (h : H) (K : Ex → T Value → H → Option β) :
    execK Try.prog C L 0 92 [] c20arborlbrll [4, 3, 2, 0] [(1, [2, 0]), (0, [])] (fs [(3, x3), (2, x2), (0, x0)]) h K =
      p20arborlbrll C L x3 x2 x0 h (fun x4 x3 x2 x0 h => K .normal (fs [(4, x4), (3, x3), (2, x2), (0, x0)]) h) := by
  kernel_rfl
noncomputable def c20arborlbrlr : Code := cR c20arborlbrl
noncomputable def c20arborlbrlrb : Code := cL c20arborlbrlr
noncomputable def c20arborlbrlrbo : Code := cL c20arborlbrlrb
noncomputable def p20arborlbrlrbo (C : CF) (L : Nat) {β : Type} (x4 x3 x2 x0 : Value) (h : H) (kn : Value → Value → Value → Value → H → Option β) (kx2 : Value → Value → Value → H → Option β) : Option β :=
  bnd (A.fieldAddr 33 x3) fun t20 =>
  bnd (A.load false 1 t20 h) fun t21 =>
  bnd (A.lenS t21) fun t22 =>
  bnd (A.bin Try.prog .lss 3 x4 t22) fun t23 =>
  toBK t23 fun b =>
  (bif b then
  bnd (A.fieldAddr 33 x3) fun t26 =>
  bnd (A.load false 1 t26 h) fun t27 =>
  bnd (A.idxS 4 t27 x4) fun t29 =>
  bnd (A.fieldAddr 0 t29) fun t30 =>
  bnd (A.store 1 t30 (.string ⟨⟨[115, 112, 111, 105, 108, 116]⟩⟩) h) fun hq1 =>
  bnd (A.bin Try.prog .add 3 x4 (.int .i64 1)) fun t25 =>
  kn t25 x3 x2 x0 hq1
  else
  kx2 x3 x2 x0 h)
theorem ep20arborlbrlrbo (C : CF) (L : Nat) {β : Type} (x4 x3 x2 x0 : Value) (h : H) (K : Ex → T Value → H → Option β) :
    execK Try.prog C L 0 92 [] c20arborlbrlrbo [4, 3, 2, 0] [(2, [3, 2, 0]), (1, [2, 0]), (0, [])] (fs [(4, x4), (3, x3), (2, x2), (0, x0)]) h K =
      p20arborlbrlrbo C L x4 x3 x2 x0 h (fun x4 x3 x2 x0 h => K .normal (fs [(4, x4), (3, x3), (2, x2), (0, x0)]) h) (fun x3 x2 x0 h => K (.exit 2) (fs [(3, x3), (2, x2), (0, x0)]) h) := by
  kernel_rfl
noncomputable def p20arborlbrlrbw (C : CF) (L : Nat) {β : Type} (kx2 : Value → Value → Value → H → Option β) : Nat → Value → Value → Value → Value → H → Option β
  | 0, _, _, _, _, _ => none
  | n + 1, x4, x3, x2, x0, h => p20arborlbrlrbo C L x4 x3 x2 x0 h (fun x4 x3 x2 x0 h => p20arborlbrlrbw C L kx2 n x4 x3 x2 x0 h) kx2
theorem ep20arborlbrlrbw (C : CF) (L : Nat) {β : Type} (K : Ex → T Value → H → Option β) : ∀ (n : Nat) (x4 x3 x2 x0 : Value) (h : H),
    loopK (fun fr h K => execK Try.prog C L 0 92 [] c20arborlbrlrbo [4, 3, 2, 0] [(2, [3, 2, 0]), (1, [2, 0]), (0, [])] fr h K) n (fs [(4, x4), (3, x3), (2, x2), (0, x0)]) h K =
      p20arborlbrlrbw C L (fun x3 x2 x0 h => K (.exit 2) (fs [(3, x3), (2, x2), (0, x0)]) h) n x4 x3 x2 x0 h := by
  intro n
  induction n with
  | zero => intros; rfl
  | succ n ih =>
    intros
    simp only [loopK]
    rw [ep20arborlbrlrbo]
    simp only [seqK_n, seqK_x, seqK_r, ih]
    rfl
noncomputable def p20arborlbrlrb (C : CF) (L : Nat) {β : Type} (x4 x3 x2 x0 : Value) (h : H) (kx2 : Value → Value → Value → H → Option β) : Option β :=
  p20arborlbrlrbw C L kx2 L x4 x3 x2 x0 h
theorem ep20arborlbrlrb (C : CF) (L : Nat) {β : Type} (x4 x3 x2 x0 : Value) (h : H) (K : Ex → T Value → H → Option β) :
    execK Try.prog C L 0 92 [] c20arborlbrlrb [3, 2, 0] [(2, [3, 2, 0]), (1, [2, 0]), (0, [])] (fs [(4, x4), (3, x3), (2, x2), (0, x0)]) h K =
      p20arborlbrlrb C L x4 x3 x2 x0 h (fun x3 x2 x0 h => K (.exit 2) (fs [(3, x3), (2, x2), (0, x0)]) h) := by
  rw [execK_loop (b := c20arborlbrlrbo) (fr1 := (fs [(4, x4), (3, x3), (2, x2), (0, x0)])) (by kernel_rfl) (show live [] c20arborlbrlrbo [] [(2, [3, 2, 0]), (1, [2, 0]), (0, [])] = [4, 3, 2, 0] by kernel_rfl) (by kernel_rfl), ep20arborlbrlrbw]
  unfold p20arborlbrlrb
  rfl
noncomputable def p20arborlbrlr (C : CF) (L : Nat) {β : Type} (x4 x3 x2 x0 : Value) (h : H) (kn : Value → Value → Value → H → Option β) : Option β :=
  p20arborlbrlrb C L x4 x3 x2 x0 h kn
theorem ep20arborlbrlr (C : CF) (L : Nat) {β : Type} (x4 x3 x2 x0 : Value) (h : H) (K : Ex → T Value → H → Option β) :
    execK Try.prog C L 0 92 [] c20arborlbrlr [3, 2, 0] [(1, [2, 0]), (0, [])] (fs [(4, x4), (3, x3), (2, x2), (0, x0)]) h K =
      p20arborlbrlr C L x4 x3 x2 x0 h (fun x3 x2 x0 h => K .normal (fs [(3, x3), (2, x2), (0, x0)]) h) := by
  rw [execK_block (b := c20arborlbrlrb) (id := 2) (by kernel_rfl), ep20arborlbrlrb]
  unfold p20arborlbrlr
  rfl
noncomputable def p20arborlbrl (C : CF) (L : Nat) {β : Type} (x3 x2 x0 : Value) (h : H) (kn : Value → Value → Value → H → Option β) : Option β :=
  p20arborlbrll C L x3 x2 x0 h (fun x4 x3 x2 x0 h => p20arborlbrlr C L x4 x3 x2 x0 h kn)
theorem ep20arborlbrl (C : CF) (L : Nat) {β : Type} (x3 x2 x0 : Value) (h : H) (K : Ex → T Value → H → Option β) :
    execK Try.prog C L 0 92 [] c20arborlbrl [3, 2, 0] [(1, [2, 0]), (0, [])] (fs [(3, x3), (2, x2), (0, x0)]) h K =
      p20arborlbrl C L x3 x2 x0 h (fun x3 x2 x0 h => K .normal (fs [(3, x3), (2, x2), (0, x0)]) h) := by
  rw [execK_seq (a := c20arborlbrll) (b := c20arborlbrlr) (by kernel_rfl) (show live [] c20arborlbrlr [3, 2, 0] [(1, [2, 0]), (0, [])] = [4, 3, 2, 0] by kernel_rfl), ep20arborlbrll]
  unfold p20arborlbrl
  exact (congrArg (p20arborlbrll C L x3 x2 x0 h) (funext fun x4 => funext fun x3 => funext fun x2 => funext fun x0 => funext fun h => (seqK_n _ _ _).trans (ep20arborlbrlr C L x4 x3 x2 x0 h K)))
noncomputable def c20arborlbrr : Code := cR c20arborlbr
noncomputable def c20arborlbrrl : Code := cL c20arborlbrr
noncomputable def c20arborlbrrll : Code := cL c20arborlbrrl
noncomputable def p20arborlbrrll (C : CF) (L : Nat) {β : Type} (x3 x2 x0 : Value) (h : H) (kn : Value → Value → Value → Value → H → Option β) : Option β :=
  kn (.int .i64 0) x3 x2 x0 h
theorem ep20arborlbrrll (C : CF) (L : Nat) {β : Type} (x3 x2 x0 : Value) (h : H) (K : Ex → T Value → H → Option β) :
    execK Try.prog C L 0 92 [] c20arborlbrrll [5, 3, 2, 0] [(1, [2, 0]), (0, [])] (fs [(3, x3), (2, x2), (0, x0)]) h K =
      p20arborlbrrll C L x3 x2 x0 h (fun x5 x3 x2 x0 h => K .normal (fs [(5, x5), (3, x3), (2, x2), (0, x0)]) h) := by
  kernel_rfl
noncomputable def c20arborlbrrlr : Code := cR c20arborlbrrl
noncomputable def c20arborlbrrlrb : Code := cL c20arborlbrrlr
noncomputable def c20arborlbrrlrbo : Code := cL c20arborlbrrlrb
noncomputable def p20arborlbrrlrbo (C : CF) (L : Nat) {β : Type} (x5 x3 x2 x0 : Value) (h : H) (kn : Value → Value → Value → Value → H → Option β) (kx4 : Value → Value → Value → H → Option β) : Option β :=
  bnd (A.fieldAddr 34 x3) fun t32 =>
  bnd (A.load false 1 t32 h) fun t33 =>
  bnd (A.lenS t33) fun t34 =>
  bnd (A.bin Try.prog .lss 3 x5 t34) fun t35 =>
  toBK t35 fun b =>
  (bif b then
  bnd (A.fieldAddr 34 x3) fun t38 =>
  bnd (A.load false 1 t38 h) fun t39 =>
  bnd (A.idxS 1 t39 x5) fun t41 =>
  bnd (A.store 1 t41 (.string ⟨⟨[115, 112, 111, 105, 108, 116]⟩⟩) h) fun hq1 =>
  bnd (A.bin Try.prog .add 3 x5 (.int .i64 1)) fun t37 =>
  kn t37 x3 x2 x0 hq1
  else
  kx4 x3 x2 x0 h)
theorem ep20arborlbrrlrbo (C : CF) (L : Nat) {β : Type} (x5 x3 x2 x0 : Value) (h : H) (K : Ex → T Value → H → Option β) :
    execK Try.prog C L 0 92 [] c20arborlbrrlrbo [5, 3, 2, 0] [(4, [3, 2, 0]), (1, [2, 0]), (0, [])] (fs [(5, x5), (3, x3), (2, x2), (0, x0)]) h K =
      p20arborlbrrlrbo C L x5 x3 x2 x0 h (fun x5 x3 x2 x0 h => K .normal (fs [(5, x5), (3, x3), (2, x2), (0, x0)]) h) (fun x3 x2 x0 h => K (.exit 4) (fs [(3, x3), (2, x2), (0, x0)]) h) := by
  kernel_rfl
noncomputable def p20arborlbrrlrbw (C : CF) (L : Nat) {β : Type} (kx4 : Value → Value → Value → H → Option β) : Nat → Value → Value → Value → Value → H → Option β
  | 0, _, _, _, _, _ => none
  | n + 1, x5, x3, x2, x0, h => p20arborlbrrlrbo C L x5 x3 x2 x0 h (fun x5 x3 x2 x0 h => p20arborlbrrlrbw C L kx4 n x5 x3 x2 x0 h) kx4
theorem ep20arborlbrrlrbw (C : CF) (L : Nat) {β : Type} (K : Ex → T Value → H → Option β) : ∀ (n : Nat) (x5 x3 x2 x0 : Value) (h : H),
    loopK (fun fr h K => execK Try.prog C L 0 92 [] c20arborlbrrlrbo [5, 3, 2, 0] [(4, [3, 2, 0]), (1, [2, 0]), (0, [])] fr h K) n (fs [(5, x5), (3, x3), (2, x2), (0, x0)]) h K =
      p20arborlbrrlrbw C L (fun x3 x2 x0 h => K (.exit 4) (fs [(3, x3), (2, x2), (0, x0)]) h) n x5 x3 x2 x0 h := by
  intro n
  induction n with
  | zero => intros; rfl
  | succ n ih =>
    intros
    simp only [loopK]
    rw [ep20arborlbrrlrbo]
    simp only [seqK_n, seqK_x, seqK_r, ih]
    rfl
noncomputable def p20arborlbrrlrb (C : CF) (L : Nat) {β : Type} (x5 x3 x2 x0 : Value) (h : H) (kx4 : Value → Value → Value → H → Option β) : Option β :=
  p20arborlbrrlrbw C L kx4 L x5 x3 x2 x0 h
theorem ep20arborlbrrlrb (C : CF) (L : Nat) {β : Type} (x5 x3 x2 x0 : Value) (h : H) (K : Ex → T Value → H → Option β) :
    execK Try.prog C L 0 92 [] c20arborlbrrlrb [3, 2, 0] [(4, [3, 2, 0]), (1, [2, 0]), (0, [])] (fs [(5, x5), (3, x3), (2, x2), (0, x0)]) h K =
      p20arborlbrrlrb C L x5 x3 x2 x0 h (fun x3 x2 x0 h => K (.exit 4) (fs [(3, x3), (2, x2), (0, x0)]) h) := by
  rw [execK_loop (b := c20arborlbrrlrbo) (fr1 := (fs [(5, x5), (3, x3), (2, x2), (0, x0)])) (by kernel_rfl) (show live [] c20arborlbrrlrbo [] [(4, [3, 2, 0]), (1, [2, 0]), (0, [])] = [5, 3, 2, 0] by kernel_rfl) (by kernel_rfl), ep20arborlbrrlrbw]
  unfold p20arborlbrrlrb
  rfl
noncomputable def p20arborlbrrlr (C : CF) (L : Nat) {β : Type} (x5 x3 x2 x0 : Value) (h : H) (kn : Value → Value → Value → H → Option β) : Option β :=
  p20arborlbrrlrb C L x5 x3 x2 x0 h kn
theorem ep20arborlbrrlr (C : CF) (L : Nat) {β : Type} (x5 x3 x2 x0 : Value) (h : H) (K : Ex → T Value → H → Option β) :
    execK Try.prog C L 0 92 [] c20arborlbrrlr [3, 2, 0] [(1, [2, 0]), (0, [])] (fs [(5, x5), (3, x3), (2, x2), (0, x0)]) h K =
      p20arborlbrrlr C L x5 x3 x2 x0 h (fun x3 x2 x0 h => K .normal (fs [(3, x3), (2, x2), (0, x0)]) h) := by
  rw [execK_block (b := c20arborlbrrlrb) (id := 4) (by kernel_rfl), ep20arborlbrrlrb]
  unfold p20arborlbrrlr
  rfl
noncomputable def p20arborlbrrl (C : CF) (L : Nat) {β : Type} (x3 x2 x0 : Value) (h : H) (kn : Value → Value → Value → H → Option β) : Option β :=
  p20arborlbrrll C L x3 x2 x0 h (fun x5 x3 x2 x0 h => p20arborlbrrlr C L x5 x3 x2 x0 h kn)
theorem ep20arborlbrrl (C : CF) (L : Nat) {β : Type} (x3 x2 x0 : Value) (h : H) (K : Ex → T Value → H → Option β) :
    execK Try.prog C L 0 92 [] c20arborlbrrl [3, 2, 0] [(1, [2, 0]), (0, [])] (fs [(3, x3), (2, x2), (0, x0)]) h K =
      p20arborlbrrl C L x3 x2 x0 h (fun x3 x2 x0 h => K .normal (fs [(3, x3), (2, x2), (0, x0)]) h) := by
  rw [execK_seq (a := c20arborlbrrll) (b := c20arborlbrrlr) (by kernel_rfl) (show live [] c20arborlbrrlr [3, 2, 0] [(1, [2, 0]), (0, [])] = [5, 3, 2, 0] by kernel_rfl), ep20arborlbrrll]
  unfold p20arborlbrrl
  exact (congrArg (p20arborlbrrll C L x3 x2 x0 h) (funext fun x5 => funext fun x3 => funext fun x2 => funext fun x0 => funext fun h => (seqK_n _ _ _).trans (ep20arborlbrrlr C L x5 x3 x2 x0 h K)))
noncomputable def c20arborlbrrr : Code := cR c20arborlbrr
noncomputable def c20arborlbrrrl : Code := cL c20arborlbrrr
noncomputable def c20arborlbrrrll : Code := cL c20arborlbrrrl
noncomputable def p20arborlbrrrll (C : CF) (L : Nat) {β : Type} (x3 x2 x0 : Value) (h : H) (kn : Value → Value → Value → Value → H → Option β) : Option β :=
  kn (.int .i64 0) x3 x2 x0 h
theorem ep20arborlbrrrll (C : CF) (L : Nat) {β : Type} (x3 x2 x0 : Value) (h : H) (K : Ex → T Value → H → Option β) :
    execK Try.prog C L 0 92 [] c20arborlbrrrll [6, 3, 2, 0] [(1, [2, 0]), (0, [])] (fs [(3, x3), (2, x2), (0, x0)]) h K =
      p20arborlbrrrll C L x3 x2 x0 h (fun x6 x3 x2 x0 h => K .normal (fs [(6, x6), (3, x3), (2, x2), (0, x0)]) h) := by
  kernel_rfl
noncomputable def c20arborlbrrrlr : Code := cR c20arborlbrrrl
noncomputable def c20arborlbrrrlrb : Code := cL c20arborlbrrrlr
noncomputable def c20arborlbrrrlrbo : Code := cL c20arborlbrrrlrb
noncomputable def c20arborlbrrrlrbol : Code := cL c20arborlbrrrlrbo
noncomputable def p20arborlbrrrlrbol (C : CF) (L : Nat) {β : Type} (x6 x3 x2 x0 : Value) (h : H) (kn : Value → Value → Value → Value → H → Option β) (kx6 : Value → Value → Value → H → Option β) : Option β :=
  bnd (A.fieldAddr 35 x3) fun t43 =>
  bnd (A.load false 1 t43 h) fun t44 =>
  bnd (A.lenS t44) fun t45 =>
  bnd (A.bin Try.prog .lss 3 x6 t45) fun t46 =>
  toBK t46 fun b =>
  (bif b then
  kn x6 x3 x2 x0 h
  else
  kx6 x3 x2 x0 h)
theorem ep20arborlbrrrlrbol (C : CF) (L : Nat) {β : Type} (x6 x3 x2 x0 : Value) (h : H) (K : Ex → T Value → H → Option β) :
    execK Try.prog C L 0 92 [] c20arborlbrrrlrbol [6, 3, 2, 0] [(6, [3, 2, 0]), (1, [2, 0]), (0, [])] (fs [(6, x6), (3, x3), (2, x2), (0, x0)]) h K =
      p20arborlbrrrlrbol C L x6 x3 x2 x0 h (fun x6 x3 x2 x0 h => K .normal (fs [(6, x6), (3, x3), (2, x2), (0, x0)]) h) (fun x3 x2 x0 h => K (.exit 6) (fs [(3, x3), (2, x2), (0, x0)]) h) := by
  kernel_rfl
noncomputable def c20arborlbrrrlrbor : Code := cR c20arborlbrrrlrbo
noncomputable def c20arborlbrrrlrborl : Code := cL c20arborlbrrrlrbor
noncomputable def c20arborlbrrrlrborlb : Code := cL c20arborlbrrrlrborl
noncomputable def c20arborlbrrrlrborlbl : Code := cL c20arborlbrrrlrborlb
noncomputable def c20arborlbrrrlrborlbll : Code := cL c20arborlbrrrlrborlbl
noncomputable def p20arborlbrrrlrborlbll (C : CF) (L : Nat) {β : Type} (x6 x3 x2 x0 : Value) (h : H) (kn : Value → Value → Value → Value → Value → H → Option β) : Option β :=
  kn (.int .i64 0) x6 x3 x2 x0 h
theorem ep20arborlbrrrlrborlbll (C : CF) (L : Nat) {β : Type} (x6 x3 x2 x0 : Value) (h : H) (K : Ex → T Value → H → Option β) :
    execK Try.prog C L 0 92 [] c20arborlbrrrlrborlbll [7, 6, 3, 2, 0] [(7, [6, 3, 2, 0]), (6, [3, 2, 0]), (1, [2, 0]), (0, [])] (fs [(6, x6), (3, x3), (2, x2), (0, x0)]) h K =
      p20arborlbrrrlrborlbll C L x6 x3 x2 x0 h (fun x7 x6 x3 x2 x0 h => K .normal (fs [(7, x7), (6, x6), (3, x3), (2, x2), (0, x0)]) h) := by
  kernel_rfl
noncomputable def c20arborlbrrrlrborlblr : Code := cR c20arborlbrrrlrborlbl
noncomputable def c20arborlbrrrlrborlblrb : Code := cL c20arborlbrrrlrborlblr
noncomputable def c20arborlbrrrlrborlblrbo : Code := cL c20arborlbrrrlrborlblrb
noncomputable def p20arborlbrrrlrborlblrbo (C : CF) (L : Nat) {β : Type} (x7 x6 x3 x2 x0 : Value) (h : H) (kn : Value → Value → Value → Value → Value → H → Option β) (kx8 : Value → Value → Value → Value → H → Option β) : Option β :=
  bnd (A.fieldAddr 35 x3) fun t50 =>
  bnd (A.load false 1 t50 h) fun t51 =>
  bnd (A.idxS 24 t51 x6) fun t53 =>
  bnd (A.fieldAddr 22 t53) fun t54 =>
  bnd (A.load false 1 t54 h) fun t55 =>
  bnd (A.lenS t55) fun t56 =>
  bnd (A.bin Try.prog .lss 3 x7 t56) fun t57 =>
  toBK t57 fun b =>
  (bif b then
  bnd (A.fieldAddr 35 x3) fun t60 =>
  bnd (A.load false 1 t60 h) fun t61 =>
  bnd (A.idxS 24 t61 x6) fun t63 =>
  bnd (A.fieldAddr 22 t63) fun t64 =>
  bnd (A.load false 1 t64 h) fun t65 =>
  bnd (A.idxS 2 t65 x7) fun t67 =>
  bnd (A.fieldAddr 0 t67) fun t68 =>
  bnd (A.store 1 t68 (.string ⟨⟨[115, 112, 111, 105, 108, 116]⟩⟩) h) fun hq1 =>
  bnd (A.bin Try.prog .add 3 x7 (.int .i64 1)) fun t59 =>
  kn t59 x6 x3 x2 x0 hq1
  else
  kx8 x6 x3 x2 x0 h)
theorem ep20arborlbrrrlrborlblrbo (C : CF) (L : Nat) {β : Type} (x7 x6 x3 x2 x0 : Value) (h : H) (K : Ex → T Value → H → Option β) :
    execK Try.prog C L 0 92 [] c20arborlbrrrlrborlblrbo [7, 6, 3, 2, 0] [(8, [6, 3, 2, 0]), (7, [6, 3, 2, 0]), (6, [3, 2, 0]), (1, [2, 0]), (0, [])] (fs [(7, x7), (6, x6), (3, x3), (2, x2), (0, x0)]) h K =
      p20arborlbrrrlrborlblrbo C L x7 x6 x3 x2 x0 h (fun x7 x6 x3 x2 x0 h => K .normal (fs [(7, x7), (6, x6), (3, x3), (2, x2), (0, x0)]) h) (fun x6 x3 x2 x0 h => K (.exit 8) (fs [(6, x6), (3, x3), (2, x2), (0, x0)]) h) := by
  kernel_rfl
noncomputable def p20arborlbrrrlrborlblrbw (C : CF) (L : Nat) {β : Type} (kx8 : Value → Value → Value → Value → H → Option β) : Nat → Value → Value → Value → Value → Value → H → Option β
  | 0, _, _, _, _, _, _ => none
  | n + 1, x7, x6, x3, x2, x0, h => p20arborlbrrrlrborlblrbo C L x7 x6 x3 x2 x0 h (fun x7 x6 x3 x2 x0 h => p20arborlbrrrlrborlblrbw C L kx8 n x7 x6 x3 x2 x0 h) kx8
theorem ep20arborlbrrrlrborlblrbw (C : CF) (L : Nat) {β : Type} (K : Ex → T Value → H → Option β) : ∀ (n : Nat) (x7 x6 x3 x2 x0 : Value) (h : H),
    loopK (fun fr h K => execK Try.prog C L 0 92 [] c20arborlbrrrlrborlblrbo [7, 6, 3, 2, 0] [(8, [6, 3, 2, 0]), (7, [6, 3, 2, 0]), (6, [3, 2, 0]), (1, [2, 0]), (0, [])] fr h K) n (fs [(7, x7), (6, x6), (3, x3), (2, x2), (0, x0)]) h K =
      p20arborlbrrrlrborlblrbw C L (fun x6 x3 x2 x0 h => K (.exit 8) (fs [(6, x6), (3, x3), (2, x2), (0, x0)]) h) n x7 x6 x3 x2 x0 h := by
  intro n
  induction n with
  | zero => intros; rfl
  | succ n ih =>
    intros
    simp only [loopK]
    rw [ep20arborlbrrrlrborlblrbo]
    simp only [seqK_n, seqK_x, seqK_r, ih]
    rfl
noncomputable def p20arborlbrrrlrborlblrb (C : CF) (L : Nat) {β : Type} (x7 x6 x3 x2 x0 : Value) (h : H) (kx8 : Value → Value → Value → Value → H → Option β) : Option β :=
  p20arborlbrrrlrborlblrbw C L kx8 L x7 x6 x3 x2 x0 h
theorem ep20arborlbrrrlrborlblrb (C : CF) (L : Nat) {β : Type} (x7 x6 x3 x2 x0 : Value) (h : H) (K : Ex → T Value → H → Option β) :
    execK Try.prog C L 0 92 [] c20arborlbrrrlrborlblrb [6, 3, 2, 0] [(8, [6, 3, 2, 0]), (7, [6, 3, 2, 0]), (6, [3, 2, 0]), (1, [2, 0]), (0, [])] (fs [(7, x7), (6, x6), (3, x3), (2, x2), (0, x0)]) h K =
      p20arborlbrrrlrborlblrb C L x7 x6 x3 x2 x0 h (fun x6 x3 x2 x0 h => K (.exit 8) (fs [(6, x6), (3, x3), (2, x2), (0, x0)]) h) := by
  rw [execK_loop (b := c20arborlbrrrlrborlblrbo) (fr1 := (fs [(7, x7), (6, x6), (3, x3), (2, x2), (0, x0)])) (by kernel_rfl) (show live [] c20arborlbrrrlrborlblrbo [] [(8, [6, 3, 2, 0]), (7, [6, 3, 2, 0]), (6, [3, 2, 0]), (1, [2, 0]), (0, [])] = [7, 6, 3, 2, 0] by kernel_rfl) (by kernel_rfl), ep20arborlbrrrlrborlblrbw]
  unfold p20arborlbrrrlrborlblrb
  rfl
noncomputable def p20arborlbrrrlrborlblr (C : CF) (L : Nat) {β : Type} (x7 x6 x3 x2 x0 : Value) (h : H) (kn : Value → Value → Value → Value → H → Option β) : Option β :=
  p20arborlbrrrlrborlblrb C L x7 x6 x3 x2 x0 h kn
theorem ep20arborlbrrrlrborlblr (C : CF) (L : Nat) {β : Type} (x7 x6 x3 x2 x0 : Value) (h : H) (K : Ex → T Value → H → Option β) :
    execK Try.prog C L 0 92 [] c20arborlbrrrlrborlblr [6, 3, 2, 0] [(7, [6, 3, 2, 0]), (6, [3, 2, 0]), (1, [2, 0]), (0, [])] (fs [(7, x7), (6, x6), (3, x3), (2, x2), (0, x0)]) h K =
      p20arborlbrrrlrborlblr C L x7 x6 x3 x2 x0 h (fun x6 x3 x2 x0 h => K .normal (fs [(6, x6), (3, x3), (2, x2), (0, x0)]) h) := by
  rw [execK_block (b := c20arborlbrrrlrborlblrb) (id := 8) (by kernel_rfl), ep20arborlbrrrlrborlblrb]
  unfold p20arborlbrrrlrborlblr
  rfl
noncomputable def p20arborlbrrrlrborlbl (C : CF) (L : Nat) {β : Type} (x6 x3 x2 x0 : Value) (h : H) (kn : Value → Value → Value → Value → H → Option β) : Option β :=
  p20arborlbrrrlrborlbll C L x6 x3 x2 x0 h (fun x7 x6 x3 x2 x0 h => p20arborlbrrrlrborlblr C L x7 x6 x3 x2 x0 h kn)
theorem ep20arborlbrrrlrborlbl (C : CF) (L : Nat) {β : Type} (x6 x3 x2 x0 : Value) (h : H) (K : Ex → T Value → H → Option β) :
    execK Try.prog C L 0 92 [] c20arborlbrrrlrborlbl [6, 3, 2, 0] [(7, [6, 3, 2, 0]), (6, [3, 2, 0]), (1, [2, 0]), (0, [])] (fs [(6, x6), (3, x3), (2, x2), (0, x0)]) h K =
      p20arborlbrrrlrborlbl C L x6 x3 x2 x0 h (fun x6 x3 x2 x0 h => K .normal (fs [(6, x6), (3, x3), (2, x2), (0, x0)]) h) := by
  rw [execK_seq (a := c20arborlbrrrlrborlbll) (b := c20arborlbrrrlrborlblr) (by kernel_rfl) (show live [] c20arborlbrrrlrborlblr [6, 3, 2, 0] [(7, [6, 3, 2, 0]), (6, [3, 2, 0]), (1, [2, 0]), (0, [])] = [7, 6, 3, 2, 0] by kernel_rfl), ep20arborlbrrrlrborlbll]
  unfold p20arborlbrrrlrborlbl
  exact (congrArg (p20arborlbrrrlrborlbll C L x6 x3 x2 x0 h) (funext fun x7 => funext fun x6 => funext fun x3 => funext fun x2 => funext fun x0 => funext fun h => (seqK_n _ _ _).trans (ep20arborlbrrrlrborlblr C L x7 x6 x3 x2 x0 h K)))
noncomputable def c20arborlbrrrlrborlbr : Code := cR c20arborlbrrrlrborlb
noncomputable def p20arborlbrrrlrborlbr (C : CF) (L : Nat) {β : Type} (x6 x3 x2 x0 : Value) (h : H) (kn : Value → Value → Value → Value → H → Option β) : Option β :=
  bnd (A.fieldAddr 35 x3) fun t69 =>
  bnd (A.load false 1 t69 h) fun t70 =>
  bnd (A.idxS 24 t70 x6) fun t72 =>
  bnd (A.fieldAddr 4 t72) fun t73 =>
  bnd (A.store 1 t73 (.int .u16 9999) h) fun hq1 =>
  kn x6 x3 x2 x0 hq1
theorem ep20arborlbrrrlrborlbr (C : CF) (L : Nat) {β : Type} (x6 x3 x2 x0 : Value) (h : H) (K : Ex → T Value → H → Option β) :
    execK Try.prog C L 0 92 [] c20arborlbrrrlrborlbr [6, 3, 2, 0] [(7, [6, 3, 2, 0]), (6, [3, 2, 0]), (1, [2, 0]), (0, [])] (fs [(6, x6), (3, x3), (2, x2), (0, x0)]) h K =
      p20arborlbrrrlrborlbr C L x6 x3 x2 x0 h (fun x6 x3 x2 x0 h => K .normal (fs [(6, x6), (3, x3), (2, x2), (0, x0)]) h) := by
  kernel_rfl
noncomputable def p20arborlbrrrlrborlb (C : CF) (L : Nat) {β : Type} (x6 x3 x2 x0 : Value) (h : H) (kn : Value → Value → Value → Value → H → Option β) : Option β :=
  p20arborlbrrrlrborlbl C L x6 x3 x2 x0 h (fun x6 x3 x2 x0 h => p20arborlbrrrlrborlbr C L x6 x3 x2 x0 h kn)
theorem ep20arborlbrrrlrborlb (C : CF) (L : Nat) {β : Type} (x6 x3 x2 x0 : Value) (h : H) (K : Ex → T Value → H → Option β) :
    execK Try.prog C L 0 92 [] c20arborlbrrrlrborlb [6, 3, 2, 0] [(7, [6, 3, 2, 0]), (6, [3, 2, 0]), (1, [2, 0]), (0, [])] (fs [(6, x6), (3, x3), (2, x2), (0, x0)]) h K =
      p20arborlbrrrlrborlb C L x6 x3 x2 x0 h (fun x6 x3 x2 x0 h => K .normal (fs [(6, x6), (3, x3), (2, x2), (0, x0)]) h) := by
  rw [execK_seq (a := c20arborlbrrrlrborlbl) (b := c20arborlbrrrlrborlbr) (by kernel_rfl) (show live [] c20arborlbrrrlrborlbr [6, 3, 2, 0] [(7, [6, 3, 2, 0]), (6, [3, 2, 0]), (1, [2, 0]), (0, [])] = [6, 3, 2, 0] by kernel_rfl), ep20arborlbrrrlrborlbl]
  unfold p20arborlbrrrlrborlb
  exact (congrArg (p20arborlbrrrlrborlbl C L x6 x3 x2 x0 h) (funext fun x6 => funext fun x3 => funext fun x2 => funext fun x0 => funext fun h => (seqK_n _ _ _).trans (ep20arborlbrrrlrborlbr C L x6 x3 x2 x0 h K)))
noncomputable def p20arborlbrrrlrborl (C : CF) (L : Nat) {β : Type} (x6 x3 x2 x0 : Value) (h : H) (kn : Value → Value → Value → Value → H → Option β) : Option β :=
  p20arborlbrrrlrborlb C L x6 x3 x2 x0 h kn
theorem ep20arborlbrrrlrborl (C : CF) (L : Nat) {β : Type} (x6 x3 x2 x0 : Value) (h : H) (K : Ex → T Value → H → Option β) :
    execK Try.prog C L 0 92 [] c20arborlbrrrlrborl [6, 3, 2, 0] [(6, [3, 2, 0]), (1, [2, 0]), (0, [])] (fs [(6, x6), (3, x3), (2, x2), (0, x0)]) h K =
      p20arborlbrrrlrborl C L x6 x3 x2 x0 h (fun x6 x3 x2 x0 h => K .normal (fs [(6, x6), (3, x3), (2, x2), (0, x0)]) h) := by
  rw [execK_block (b := c20arborlbrrrlrborlb) (id := 7) (by kernel_rfl), ep20arborlbrrrlrborlb]
  unfold p20arborlbrrrlrborl
  rfl
noncomputable def c20arborlbrrrlrborr : Code := cR c20arborlbrrrlrbor
noncomputable def p20arborlbrrrlrborr (C : CF) (L : Nat) {β : Type} (x6 x3 x2 x0 : Value) (h : H) (kn : Value → Value → Value → Value → H → Option β) : Option β :=
  bnd (A.bin Try.prog .add 3 x6 (.int .i64 1)) fun t48 =>
  kn t48 x3 x2 x0 h
theorem ep20arborlbrrrlrborr (C : CF) (L : Nat) {β : Type} (x6 x3 x2 x0 : Value) (h : H) (K : Ex → T Value → H → Option β) :
    execK Try.prog C L 0 92 [] c20arborlbrrrlrborr [6, 3, 2, 0] [(6, [3, 2, 0]), (1, [2, 0]), (0, [])] (fs [(6, x6), (3, x3), (2, x2), (0, x0)]) h K =
      p20arborlbrrrlrborr C L x6 x3 x2 x0 h (fun x6 x3 x2 x0 h => K .normal (fs [(6, x6), (3, x3), (2, x2), (0, x0)]) h) := by
  kernel_rfl
noncomputable def p20arborlbrrrlrbor (C : CF) (L : Nat) {β : Type} (x6 x3 x2 x0 : Value) (h : H) (kn : Value → Value → Value → Value → H → Option β) : Option β :=
  p20arborlbrrrlrborl C L x6 x3 x2 x0 h (fun x6 x3 x2 x0 h => p20arborlbrrrlrborr C L x6 x3 x2 x0 h kn)
theorem ep20arborlbrrrlrbor (C : CF) (L : Nat) {β : Type} (x6 x3 x2 x0 : Value) (h : H) (K : Ex → T Value → H → Option β) :
    execK Try.prog C L 0 92 [] c20arborlbrrrlrbor [6, 3, 2, 0] [(6, [3, 2, 0]), (1, [2, 0]), (0, [])] (fs [(6, x6), (3, x3), (2, x2), (0, x0)]) h K =
      p20arborlbrrrlrbor C L x6 x3 x2 x0 h (fun x6 x3 x2 x0 h => K .normal (fs [(6, x6), (3, x3), (2, x2), (0, x0)]) h) := by
  rw [execK_seq (a := c20arborlbrrrlrborl) (b := c20arborlbrrrlrborr) (by kernel_rfl) (show live [] c20arborlbrrrlrborr [6, 3, 2, 0] [(6, [3, 2, 0]), (1, [2, 0]), (0, [])] = [6, 3, 2, 0] by kernel_rfl), ep20arborlbrrrlrborl]
  unfold p20arborlbrrrlrbor
  exact (congrArg (p20arborlbrrrlrborl C L x6 x3 x2 x0 h) (funext fun x6 => funext fun x3 => funext fun x2 => funext fun x0 => funext fun h => (seqK_n _ _ _).trans (ep20arborlbrrrlrborr C L x6 x3 x2 x0 h K)))
noncomputable def p20arborlbrrrlrbo (C : CF) (L : Nat) {β : Type} (x6 x3 x2 x0 : Value) (h : H) (kn : Value → Value → Value → Value → H → Option β) (kx6 : Value → Value → Value → H → Option β) : Option β :=
  p20arborlbrrrlrbol C L x6 x3 x2 x0 h (fun x6 x3 x2 x0 h => p20arborlbrrrlrbor C L x6 x3 x2 x0 h kn) kx6
theorem ep20arborlbrrrlrbo (C : CF) (L : Nat) {β : Type} (x6 x3 x2 x0 : Value) (h : H) (K : Ex → T Value → H → Option β) :
    execK Try.prog C L 0 92 [] c20arborlbrrrlrbo [6, 3, 2, 0] [(6, [3, 2, 0]), (1, [2, 0]), (0, [])] (fs [(6, x6), (3, x3), (2, x2), (0, x0)]) h K =
      p20arborlbrrrlrbo C L x6 x3 x2 x0 h (fun x6 x3 x2 x0 h => K .normal (fs [(6, x6), (3, x3), (2, x2), (0, x0)]) h) (fun x3 x2 x0 h => K (.exit 6) (fs [(3, x3), (2, x2), (0, x0)]) h) := by
  rw [execK_seq (a := c20arborlbrrrlrbol) (b := c20arborlbrrrlrbor) (by kernel_rfl) (show live [] c20arborlbrrrlrbor [6, 3, 2, 0] [(6, [3, 2, 0]), (1, [2, 0]), (0, [])] = [6, 3, 2, 0] by kernel_rfl), ep20arborlbrrrlrbol]
  unfold p20arborlbrrrlrbo
  exact (congr (congrArg (p20arborlbrrrlrbol C L x6 x3 x2 x0 h) (funext fun x6 => funext fun x3 => funext fun x2 => funext fun x0 => funext fun h => (seqK_n _ _ _).trans (ep20arborlbrrrlrbor C L x6 x3 x2 x0 h K))) (funext fun x3 => funext fun x2 => funext fun x0 => funext fun h => seqK_x _ _ _ _))
noncomputable def p20arborlbrrrlrbw (C : CF) (L : Nat) {β : Type} (kx6 : Value → Value → Value → H → Option β) : Nat → Value → Value → Value → Value → H → Option β
  | 0, _, _, _, _, _ => none
  | n + 1, x6, x3, x2, x0, h => p20arborlbrrrlrbo C L x6 x3 x2 x0 h (fun x6 x3 x2 x0 h => p20arborlbrrrlrbw C L kx6 n x6 x3 x2 x0 h) kx6
theorem ep20arborlbrrrlrbw (C : CF) (L : Nat) {β : Type} (K : Ex → T Value → H → Option β) : ∀ (n : Nat) (x6 x3 x2 x0 : Value) (h : H),
    loopK (fun fr h K => execK Try.prog C L 0 92 [] c20arborlbrrrlrbo [6, 3, 2, 0] [(6, [3, 2, 0]), (1, [2, 0]), (0, [])] fr h K) n (fs [(6, x6), (3, x3), (2, x2), (0, x0)]) h K =
      p20arborlbrrrlrbw C L (fun x3 x2 x0 h => K (.exit 6) (fs [(3, x3), (2, x2), (0, x0)]) h) n x6 x3 x2 x0 h := by
  intro n
  induction n with
  | zero => intros; rfl
  | succ n ih =>
    intros
    simp only [loopK]
    rw [ep20arborlbrrrlrbo]
    simp only [seqK_n, seqK_x, seqK_r, ih]
    rfl
noncomputable def p20arborlbrrrlrb (C : CF) (L : Nat) {β : Type} (x6 x3 x2 x0 : Value) (h : H) (kx6 : Value → Value → Value → H → Option β) : Option β :=
  p20arborlbrrrlrbw C L kx6 L x6 x3 x2 x0 h
theorem ep20arborlbrrrlrb (C : CF) (L : Nat) {β : Type} (x6 x3 x2 x0 : Value) (h : H) (K : Ex → T Value → H → Option β) :
    execK Try.prog C L 0 92 [] c20arborlbrrrlrb [3, 2, 0] [(6, [3, 2, 0]), (1, [2, 0]), (0, [])] (fs [(6, x6), (3, x3), (2, x2), (0, x0)]) h K =
      p20arborlbrrrlrb C L x6 x3 x2 x0 h (fun x3 x2 x0 h => K (.exit 6) (fs [(3, x3), (2, x2), (0, x0)]) h) := by
  rw [execK_loop (b := c20arborlbrrrlrbo) (fr1 := (fs [(6, x6), (3, x3), (2, x2), (0, x0)])) (by kernel_rfl) (show live [] c20arborlbrrrlrbo [] [(6, [3, 2, 0]), (1, [2, 0]), (0, [])] = [6, 3, 2, 0] by kernel_rfl) (by kernel_rfl), ep20arborlbrrrlrbw]
  unfold p20arborlbrrrlrb
  rfl
noncomputable def p20arborlbrrrlr (C : CF) (L : Nat) {β : Type} (x6 x3 x2 x0 : Value) (h : H) (kn : Value → Value → Value → H → Option β) : Option β :=
  p20arborlbrrrlrb C L x6 x3 x2 x0 h kn
theorem ep20arborlbrrrlr (C : CF) (L : Nat) {β : Type} (x6 x3 x2 x0 : Value) (h : H) (K : Ex → T Value → H → Option β) :
    execK Try.prog C L 0 92 [] c20arborlbrrrlr [3, 2, 0] [(1, [2, 0]), (0, [])] (fs [(6, x6), (3, x3), (2, x2), (0, x0)]) h K =
      p20arborlbrrrlr C L x6 x3 x2 x0 h (fun x3 x2 x0 h => K .normal (fs [(3, x3), (2, x2), (0, x0)]) h) := by
  rw [execK_block (b := c20arborlbrrrlrb) (id := 6) (by kernel_rfl), ep20arborlbrrrlrb]
  unfold p20arborlbrrrlr
  rfl
noncomputable def p20arborlbrrrl (C : CF) (L : Nat) {β : Type} (x3 x2 x0 : Value) (h : H) (kn : Value → Value → Value → H → Option β) : Option β :=
  p20arborlbrrrll C L x3 x2 x0 h (fun x6 x3 x2 x0 h => p20arborlbrrrlr C L x6 x3 x2 x0 h kn)
theorem ep20arborlbrrrl (C : CF) (L : Nat) {β : Type} (x3 x2 x0 : Value) (h : H) (K : Ex → T Value → H → Option β) :
    execK Try.prog C L 0 92 [] c20arborlbrrrl [3, 2, 0] [(1, [2, 0]), (0, [])] (fs [(3, x3), (2, x2), (0, x0)]) h K =
      p20arborlbrrrl C L x3 x2 x0 h (fun x3 x2 x0 h => K .normal (fs [(3, x3), (2, x2), (0, x0)]) h) := by
  rw [execK_seq (a := c20arborlbrrrll) (b := c20arborlbrrrlr) (by kernel_rfl) (show live [] c20arborlbrrrlr [3, 2, 0] [(1, [2, 0]), (0, [])] = [6, 3, 2, 0] by kernel_rfl), ep20arborlbrrrll]
  unfold p20arborlbrrrl
  exact (congrArg (p20arborlbrrrll C L x3 x2 x0 h) (funext fun x6 => funext fun x3 => funext fun x2 => funext fun x0 => funext fun h => (seqK_n _ _ _).trans (ep20arborlbrrrlr C L x6 x3 x2 x0 h K)))
noncomputable def c20arborlbrrrr : Code := cR c20arborlbrrr
noncomputable def c20arborlbrrrrl : Code := cL c20arborlbrrrr
noncomputable def c20arborlbrrrrll : Code := cL c20arborlbrrrrl
noncomputable def p20arborlbrrrrll (C : CF) (L : Nat) {β : Type} (x3 x2 x0 : Value) (h : H) (kn : Value → Value → Value → Value → H → Option β) : Option β :=
  kn (.int .i64 0) x3 x2 x0 h
theorem ep20arborlbrrrrll (C : CF) (L : Nat) {β : Type} (x3 x2 x0 : Value) (h : H) (K : Ex → T Value → H → Option β) :
    execK Try.prog C L 0 92 [] c20arborlbrrrrll [8, 3, 2, 0] [(1, [2, 0]), (0, [])] (fs [(3, x3), (2, x2), (0, x0)]) h K =
      p20arborlbrrrrll C L x3 x2 x0 h (fun x8 x3 x2 x0 h => K .normal (fs [(8, x8), (3, x3), (2, x2), (0, x0)]) h) := by
  kernel_rfl
noncomputable def c20arborlbrrrrlr : Code := cR c20arborlbrrrrl
noncomputable def c20arborlbrrrrlrb : Code := cL c20arborlbrrrrlr
noncomputable def c20arborlbrrrrlrbo : Code := cL c20arborlbrrrrlrb
noncomputable def p20arborlbrrrrlrbo (C : CF) (L : Nat) {β : Type} (x8 x3 x2 x0 : Value) (h : H) (kn : Value → Value → Value → Value → H → Option β) (kx10 : Value → Value → H → Option β) : Option β :=
  bnd (A.fieldAddr 5 x3) fun t75 =>
  bnd (A.fieldAddr 22 t75) fun t76 =>
  bnd (A.load false 1 t76 h) fun t77 =>
  bnd (A.lenS t77) fun t78 =>
  bnd (A.bin Try.prog .lss 3 x8 t78) fun t79 =>
  toBK t79 fun b =>
  (bif b then
  bnd (A.fieldAddr 5 x3) fun t82 =>
  bnd (A.fieldAddr 22 t82) fun t83 =>
  bnd (A.load false 1 t83 h) fun t84 =>
  bnd (A.idxS 2 t84 x8) fun t86 =>
  bnd (A.fieldAddr 0 t86) fun t87 =>
  bnd (A.store 1 t87 (.string ⟨⟨[115, 112, 111, 105, 108, 116]⟩⟩) h) fun hq1 =>
  bnd (A.bin Try.prog .add 3 x8 (.int .i64 1)) fun t81 =>
  kn t81 x3 x2 x0 hq1
  else
  kx10 x2 x0 h)
theorem ep20arborlbrrrrlrbo (C : CF) (L : Nat) {β : Type} (x8 x3 x2 x0 : Value) (h : H) (K : Ex → T Value → H → Option β) :
    execK Try.prog C L 0 92 [] c20arborlbrrrrlrbo [8, 3, 2, 0] [(10, [2, 0]), (1, [2, 0]), (0, [])] (fs [(8, x8), (3, x3), (2, x2), (0, x0)]) h K =
      p20arborlbrrrrlrbo C L x8 x3 x2 x0 h (fun x8 x3 x2 x0 h => K .normal (fs [(8, x8), (3, x3), (2, x2), (0, x0)]) h) (fun x2 x0 h => K (.exit 10) (fs [(2, x2), (0, x0)]) h) := by
  kernel_rfl
noncomputable def p20arborlbrrrrlrbw (C : CF) (L : Nat) {β : Type} (kx10 : Value → Value → H → Option β) : Nat → Value → Value → Value → Value → H → Option β
  | 0, _, _, _, _, _ => none
  | n + 1, x8, x3, x2, x0, h => p20arborlbrrrrlrbo C L x8 x3 x2 x0 h (fun x8 x3 x2 x0 h => p20arborlbrrrrlrbw C L kx10 n x8 x3 x2 x0 h) kx10
theorem ep20arborlbrrrrlrbw (C : CF) (L : Nat) {β : Type} (K : Ex → T Value → H → Option β) : ∀ (n : Nat) (x8 x3 x2 x0 : Value) (h : H),
    loopK (fun fr h K => execK Try.prog C L 0 92 [] c20arborlbrrrrlrbo [8, 3, 2, 0] [(10, [2, 0]), (1, [2, 0]), (0, [])] fr h K) n (fs [(8, x8), (3, x3), (2, x2), (0, x0)]) h K =
      p20arborlbrrrrlrbw C L (fun x2 x0 h => K (.exit 10) (fs [(2, x2), (0, x0)]) h) n x8 x3 x2 x0 h := by
  intro n
  induction n with
  | zero => intros; rfl
  | succ n ih =>
    intros
    simp only [loopK]
    rw [ep20arborlbrrrrlrbo]
    simp only [seqK_n, seqK_x, seqK_r, ih]
    rfl
noncomputable def p20arborlbrrrrlrb (C : CF) (L : Nat) {β : Type} (x8 x3 x2 x0 : Value) (h : H) (kx10 : Value → Value → H → Option β) : Option β :=
  p20arborlbrrrrlrbw C L kx10 L x8 x3 x2 x0 h
theorem ep20arborlbrrrrlrb (C : CF) (L : Nat) {β : Type} (x8 x3 x2 x0 : Value) (h : H) (K : Ex → T Value → H → Option β) :
    execK Try.prog C L 0 92 [] c20arborlbrrrrlrb [2, 0] [(10, [2, 0]), (1, [2, 0]), (0, [])] (fs [(8, x8), (3, x3), (2, x2), (0, x0)]) h K =
      p20arborlbrrrrlrb C L x8 x3 x2 x0 h (fun x2 x0 h => K (.exit 10) (fs [(2, x2), (0, x0)]) h) := by
  rw [execK_loop (b := c20arborlbrrrrlrbo) (fr1 := (fs [(8, x8), (3, x3), (2, x2), (0, x0)])) (by kernel_rfl) (show live [] c20arborlbrrrrlrbo [] [(10, [2, 0]), (1, [2, 0]), (0, [])] = [8, 3, 2, 0] by kernel_rfl) (by kernel_rfl), ep20arborlbrrrrlrbw]
  unfold p20arborlbrrrrlrb
  rfl
noncomputable def p20arborlbrrrrlr (C : CF) (L : Nat) {β : Type} (x8 x3 x2 x0 : Value) (h : H) (kn : Value → Value → H → Option β) : Option β :=
  p20arborlbrrrrlrb C L x8 x3 x2 x0 h kn
theorem ep20arborlbrrrrlr (C : CF) (L : Nat) {β : Type} (x8 x3 x2 x0 : Value) (h : H) (K : Ex → T Value → H → Option β) :
    execK Try.prog C L 0 92 [] c20arborlbrrrrlr [2, 0] [(1, [2, 0]), (0, [])] (fs [(8, x8), (3, x3), (2, x2), (0, x0)]) h K =
      p20arborlbrrrrlr C L x8 x3 x2 x0 h (fun x2 x0 h => K .normal (fs [(2, x2), (0, x0)]) h) := by
  rw [execK_block (b := c20arborlbrrrrlrb) (id := 10) (by kernel_rfl), ep20arborlbrrrrlrb]
  unfold p20arborlbrrrrlr
  rfl
noncomputable def p20arborlbrrrrl (C : CF) (L : Nat) {β : Type} (x3 x2 x0 : Value) (h : H) (kn : Value → Value → H → Option β) : Option β :=
  p20arborlbrrrrll C L x3 x2 x0 h (fun x8 x3 x2 x0 h => p20arborlbrrrrlr C L x8 x3 x2 x0 h kn)
theorem ep20arborlbrrrrl (C : CF) (L : Nat) {β : Type} (x3 x2 x0 : Value) (h : H) (K : Ex → T Value → H → Option β) :
    execK Try.prog C L 0 92 [] c20arborlbrrrrl [2, 0] [(1, [2, 0]), (0, [])] (fs [(3, x3), (2, x2), (0, x0)]) h K =
      p20arborlbrrrrl C L x3 x2 x0 h (fun x2 x0 h => K .normal (fs [(2, x2), (0, x0)]) h) := by
  rw [execK_seq (a := c20arborlbrrrrll) (b := c20arborlbrrrrlr) (by kernel_rfl) (show live [] c20arborlbrrrrlr [2, 0] [(1, [2, 0]), (0, [])] = [8, 3, 2, 0] by kernel_rfl), ep20arborlbrrrrll]
  unfold p20arborlbrrrrl
  exact (congrArg (p20arborlbrrrrll C L x3 x2 x0 h) (funext fun x8 => funext fun x3 => funext fun x2 => funext fun x0 => funext fun h => (seqK_n _ _ _).trans (ep20arborlbrrrrlr C L x8 x3 x2 x0 h K)))
noncomputable def c20arborlbrrrrr : Code := cR c20arborlbrrrr
noncomputable def p20arborlbrrrrr (C : CF) (L : Nat) {β : Type} (x2 x0 : Value) (h : H) (kn : Value → Value → H → Option β) : Option β :=
  bnd (A.idxS 38 x0 x2) fun t90 =>
  bnd (A.fieldAddr 1 t90) fun t91 =>
  bnd (A.store 1 t91 (.int .i64 (-99)) h) fun hq1 =>
  kn x2 x0 hq1
theorem ep20arborlbrrrrr (C : CF) (L : Nat) {β : Type} (x2 x0 : Value) (h : H) (K : Ex → T Value → H → Option β) :
    execK Try.prog C L 0 92 [] c20arborlbrrrrr [2, 0] [(1, [2, 0]), (0, [])] (fs [(2, x2), (0, x0)]) h K =
      p20arborlbrrrrr C L x2 x0 h (fun x2 x0 h => K .normal (fs [(2, x2), (0, x0)]) h) := by
  kernel_rfl
noncomputable def p20arborlbrrrr (C : CF) (L : Nat) {β : Type} (x3 x2 x0 : Value) (h : H) (kn : Value → Value → H → Option β) : Option β :=
  p20arborlbrrrrl C L x3 x2 x0 h (fun x2 x0 h => p20arborlbrrrrr C L x2 x0 h kn)
theorem ep20arborlbrrrr (C : CF) (L : Nat) {β : Type} (x3 x2 x0 : Value) (h : H) (K : Ex → T Value → H → Option β) :
    execK Try.prog C L 0 92 [] c20arborlbrrrr [2, 0] [(1, [2, 0]), (0, [])] (fs [(3, x3), (2, x2), (0, x0)]) h K =
      p20arborlbrrrr C L x3 x2 x0 h (fun x2 x0 h => K .normal (fs [(2, x2), (0, x0)]) h) := by
  rw [execK_seq (a := c20arborlbrrrrl) (b := c20arborlbrrrrr) (by kernel_rfl) (show live [] c20arborlbrrrrr [2, 0] [(1, [2, 0]), (0, [])] = [2, 0] by kernel_rfl), ep20arborlbrrrrl]
  unfold p20arborlbrrrr
  exact (congrArg (p20arborlbrrrrl C L x3 x2 x0 h) (funext fun x2 => funext fun x0 => funext fun h => (seqK_n _ _ _).trans (ep20arborlbrrrrr C L x2 x0 h K)))
noncomputable def p20arborlbrrr (C : CF) (L : Nat) {β : Type} (x3 x2 x0 : Value) (h : H) (kn : Value → Value → H → Option β) : Option β :=
  p20arborlbrrrl C L x3 x2 x0 h (fun x3 x2 x0 h => p20arborlbrrrr C L x3 x2 x0 h kn)
theorem ep20arborlbrrr (C : CF) (L : Nat) {β : Type} (x3 x2 x0 : Value) (h : H) (K : Ex → T Value → H → Option β) :
    execK Try.prog C L 0 92 [] c20arborlbrrr [2, 0] [(1, [2, 0]), (0, [])] (fs [(3, x3), (2, x2), (0, x0)]) h K =
      p20arborlbrrr C L x3 x2 x0 h (fun x2 x0 h => K .normal (fs [(2, x2), (0, x0)]) h) := by
  rw [execK_seq (a := c20arborlbrrrl) (b := c20arborlbrrrr) (by kernel_rfl) (show live [] c20arborlbrrrr [2, 0] [(1, [2, 0]), (0, [])] = [3, 2, 0] by kernel_rfl), ep20arborlbrrrl]
  unfold p20arborlbrrr
  exact (congrArg (p20arborlbrrrl C L x3 x2 x0 h) (funext fun x3 => funext fun x2 => funext fun x0 => funext fun h => (seqK_n _ _ _).trans (ep20arborlbrrrr C L x3 x2 x0 h K)))
noncomputable def p20arborlbrr (C : CF) (L : Nat) {β : Type} (x3 x2 x0 : Value) (h : H) (kn : Value → Value → H → Option β) : Option β :=
  p20arborlbrrl C L x3 x2 x0 h (fun x3 x2 x0 h => p20arborlbrrr C L x3 x2 x0 h kn)
theorem ep20arborlbrr (C : CF) (L : Nat) {β : Type} (x3 x2 x0 : Value) (h : H) (K : Ex → T Value → H → Option β) :
    execK Try.prog C L 0 92 [] c20arborlbrr [2, 0] [(1, [2, 0]), (0, [])] (fs [(3, x3), (2, x2), (0, x0)]) h K =
      p20arborlbrr C L x3 x2 x0 h (fun x2 x0 h => K .normal (fs [(2, x2), (0, x0)]) h) := by
  rw [execK_seq (a := c20arborlbrrl) (b := c20arborlbrrr) (by kernel_rfl) (show live [] c20arborlbrrr [2, 0] [(1, [2, 0]), (0, [])] = [3, 2, 0] by kernel_rfl), ep20arborlbrrl]
  unfold p20arborlbrr
  exact (congrArg (p20arborlbrrl C L x3 x2 x0 h) (funext fun x3 => funext fun x2 => funext fun x0 => funext fun h => (seqK_n _ _ _).trans (ep20arborlbrrr C L x3 x2 x0 h K)))
noncomputable def p20arborlbr (C : CF) (L : Nat) {β : Type} (x3 x2 x0 : Value) (h : H) (kn : Value → Value → H → Option β) : Option β :=
  p20arborlbrl C L x3 x2 x0 h (fun x3 x2 x0 h => p20arborlbrr C L x3 x2 x0 h kn)
theorem ep20arborlbr (C : CF) (L : Nat) {β : Type} (x3 x2 x0 : Value) (h : H) (K : Ex → T Value → H → Option β) :
    execK Try.prog C L 0 92 [] c20arborlbr [2, 0] [(1, [2, 0]), (0, [])] (fs [(3, x3), (2, x2), (0, x0)]) h K =
      p20arborlbr C L x3 x2 x0 h (fun x2 x0 h => K .normal (fs [(2, x2), (0, x0)]) h) := by
  rw [execK_seq (a := c20arborlbrl) (b := c20arborlbrr) (by kernel_rfl) (show live [] c20arborlbrr [2, 0] [(1, [2, 0]), (0, [])] = [3, 2, 0] by kernel_rfl), ep20arborlbrl]
  unfold p20arborlbr
  exact (congrArg (p20arborlbrl C L x3 x2 x0 h) (funext fun x3 => funext fun x2 => funext fun x0 => funext fun h => (seqK_n _ _ _).trans (ep20arborlbrr C L x3 x2 x0 h K)))
noncomputable def p20arborlb (C : CF) (L : Nat) {β : Type} (x2 x0 : Value) (h : H) (kn : Value → Value → H → Option β) : Option β :=
  p20arborlbl C L x2 x0 h (fun x3 x2 x0 h => p20arborlbr C L x3 x2 x0 h kn)
theorem ep20arborlb (C : CF) (L : Nat) {β : Type} (x2 x0 : Value) (h : H) (K : Ex → T Value → H → Option β) :
    execK Try.prog C L 0 92 [] c20arborlb [2, 0] [(1, [2, 0]), (0, [])] (fs [(2, x2), (0, x0)]) h K =
      p20arborlb C L x2 x0 h (fun x2 x0 h => K .normal (fs [(2, x2), (0, x0)]) h) := by
  rw [execK_seq (a := c20arborlbl) (b := c20arborlbr) (by kernel_rfl) (show live [] c20arborlbr [2, 0] [(1, [2, 0]), (0, [])] = [3, 2, 0] by kernel_rfl), ep20arborlbl]
  unfold p20arborlb
  exact (congrArg (p20arborlbl C L x2 x0 h) (funext fun x3 => funext fun x2 => funext fun x0 => funext fun h => (seqK_n _ _ _).trans (ep20arborlbr C L x3 x2 x0 h K)))
noncomputable def p20arborl (C : CF) (L : Nat) {β : Type} (x2 x0 : Value) (h : H) (kn : Value → Value → H → Option β) : Option β :=
  p20arborlb C L x2 x0 h kn
theorem ep20arborl (C : CF) (L : Nat) {β : Type} (x2 x0 : Value) (h : H) (K : Ex → T Value → H → Option β) :
    execK Try.prog C L 0 92 [] c20arborl [2, 0] [(0, [])] (fs [(2, x2), (0, x0)]) h K =
      p20arborl C L x2 x0 h (fun x2 x0 h => K .normal (fs [(2, x2), (0, x0)]) h) := by
  rw [execK_block (b := c20arborlb) (id := 1) (by kernel_rfl), ep20arborlb]
  unfold p20arborl
  rfl
noncomputable def c20arborr : Code := cR c20arbor
noncomputable def p20arborr (C : CF) (L : Nat) {β : Type} (x2 x0 : Value) (h : H) (kn : Value → Value → H → Option β) : Option β :=
  bnd (A.bin Try.prog .add 3 x2 (.int .i64 1)) fun t14 =>
  kn t14 x0 h
theorem ep20arborr (C : CF) (L : Nat) {β : Type} (x2 x0 : Value) (h : H) (K : Ex → T Value → H → Option β) :
    execK Try.prog C L 0 92 [] c20arborr [2, 0] [(0, [])] (fs [(2, x2), (0, x0)]) h K =
      p20arborr C L x2 x0 h (fun x2 x0 h => K .normal (fs [(2, x2), (0, x0)]) h) := by
  kernel_rfl
noncomputable def p20arbor (C : CF) (L : Nat) {β : Type} (x2 x0 : Value) (h : H) (kn : Value → Value → H → Option β) : Option β :=
  p20arborl C L x2 x0 h (fun x2 x0 h => p20arborr C L x2 x0 h kn)
theorem ep20arbor (C : CF) (L : Nat) {β : Type} (x2 x0 : Value) (h : H) (K : Ex → T Value → H → Option β) :
    execK Try.prog C L 0 92 [] c20arbor [2, 0] [(0, [])] (fs [(2, x2), (0, x0)]) h K =
      p20arbor C L x2 x0 h (fun x2 x0 h => K .normal (fs [(2, x2), (0, x0)]) h) := by
  rw [execK_seq (a := c20arborl) (b := c20arborr) (by kernel_rfl) (show live [] c20arborr [2, 0] [(0, [])] = [2, 0] by kernel_rfl), ep20arborl]
  unfold p20arbor
  exact (congrArg (p20arborl C L x2 x0 h) (funext fun x2 => funext fun x0 => funext fun h => (seqK_n _ _ _).trans (ep20arborr C L x2 x0 h K)))
noncomputable def p20arbo (C : CF) (L : Nat) {β : Type} (x2 x0 : Value) (h : H) (kn : Value → Value → H → Option β) (kx0 : H → Option β) : Option β :=
  p20arbol C L x2 x0 h (fun x2 x0 h => p20arbor C L x2 x0 h kn) kx0
theorem ep20arbo (C : CF) (L : Nat) {β : Type} (x2 x0 : Value) (h : H) (K : Ex → T Value → H → Option β) :
    execK Try.prog C L 0 92 [] c20arbo [2, 0] [(0, [])] (fs [(2, x2), (0, x0)]) h K =
      p20arbo C L x2 x0 h (fun x2 x0 h => K .normal (fs [(2, x2), (0, x0)]) h) (fun h => K (.exit 0) (fs []) h) := by
  rw [execK_seq (a := c20arbol) (b := c20arbor) (by kernel_rfl) (show live [] c20arbor [2, 0] [(0, [])] = [2, 0] by kernel_rfl), ep20arbol]
  unfold p20arbo
  exact (congr (congrArg (p20arbol C L x2 x0 h) (funext fun x2 => funext fun x0 => funext fun h => (seqK_n _ _ _).trans (ep20arbor C L x2 x0 h K))) (funext fun h => seqK_x _ _ _ _))
noncomputable def p20arbw (C : CF) (L : Nat) {β : Type} (kx0 : H → Option β) : Nat → Value → Value → H → Option β
  | 0, _, _, _ => none
  | n + 1, x2, x0, h => p20arbo C L x2 x0 h (fun x2 x0 h => p20arbw C L kx0 n x2 x0 h) kx0
theorem ep20arbw (C : CF) (L : Nat) {β : Type} (K : Ex → T Value → H → Option β) : ∀ (n : Nat) (x2 x0 : Value) (h : H),
    loopK (fun fr h K => execK Try.prog C L 0 92 [] c20arbo [2, 0] [(0, [])] fr h K) n (fs [(2, x2), (0, x0)]) h K =
      p20arbw C L (fun h => K (.exit 0) (fs []) h) n x2 x0 h := by
  intro n
  induction n with
  | zero => intros; rfl
  | succ n ih =>
    intros
    simp only [loopK]
    rw [ep20arbo]
    simp only [seqK_n, seqK_x, seqK_r, ih]
    rfl
noncomputable def p20arb (C : CF) (L : Nat) {β : Type} (x2 x0 : Value) (h : H) (kx0 : H → Option β) : Option β :=
  p20arbw C L kx0 L x2 x0 h
theorem ep20arb (C : CF) (L : Nat) {β : Type} (x2 x0 : Value) (h : H) (K : Ex → T Value → H → Option β) :
    execK Try.prog C L 0 92 [] c20arb [] [(0, [])] (fs [(2, x2), (0, x0)]) h K =
      p20arb C L x2 x0 h (fun h => K (.exit 0) (fs []) h) := by
  rw [execK_loop (b := c20arbo) (fr1 := (fs [(2, x2), (0, x0)])) (by kernel_rfl) (show live [] c20arbo [] [(0, [])] = [2, 0] by kernel_rfl) (by kernel_rfl), ep20arbw]
  unfold p20arb
  rfl
noncomputable def p20ar (C : CF) (L : Nat) {β : Type} (x2 x0 : Value) (h : H) (kn : H → Option β) : Option β :=
  p20arb C L x2 x0 h kn
theorem ep20ar (C : CF) (L : Nat) {β : Type} (x2 x0 : Value) (h : H) (K : Ex → T Value → H → Option β) :
    execK Try.prog C L 0 92 [] c20ar [] [] (fs [(2, x2), (0, x0)]) h K =
      p20ar C L x2 x0 h (fun h => K .normal (fs []) h) := by
  rw [execK_block (b := c20arb) (id := 0) (by kernel_rfl), ep20arb]
  unfold p20ar
  rfl
noncomputable def p20a (C : CF) (L : Nat) {β : Type} (x0 : Value) (h : H) (kn : H → Option β) : Option β :=
  p20al C L x0 h (fun x2 x0 h => p20ar C L x2 x0 h kn)
theorem ep20a (C : CF) (L : Nat) {β : Type} (x0 : Value) (h : H) (K : Ex → T Value → H → Option β) :
    execK Try.prog C L 0 92 [] c20a [] [] (fs [(0, x0)]) h K =
      p20a C L x0 h (fun h => K .normal (fs []) h) := by
  rw [execK_seq (a := c20al) (b := c20ar) (by kernel_rfl) (show live [] c20ar [] [] = [2, 0] by kernel_rfl), ep20al]
  unfold p20a
  exact (congrArg (p20al C L x0 h) (funext fun x2 => funext fun x0 => funext fun h => (seqK_n _ _ _).trans (ep20ar C L x2 x0 h K)))
noncomputable def F20 (C : CF) (L : Nat) (x0 : Value) (h : H) : Option (Value × H) :=
  p20a C L x0 h
    (fun h => some (.tuple ⟨[]⟩, h))
theorem F20eq (O : List FuncId) (hO : O.any (Nat.beq 20) = false) (n : Nat) (x0 : Value) (h : H) : callB Try.prog 0 O (n + 1) 20 [x0] h = F20 (callB Try.prog 0 O n) n x0 h := by
  rw [callB_eq hO (c := c20a) (nt := 92) (RR := []) (fr := (fs [(0, x0)])) Try.func20 (by kernel_rfl) (by kernel_rfl) (by kernel_rfl) (by kernel_rfl) (by kernel_rfl), ep20a]
  kernel_rfl
noncomputable def c37a : Code := (Try.f37.body).getD .skip
noncomputable def p37a (C : CF) (L : Nat) {β : Type} (x0 : Value) (h : H) (kr : Value → H → Option β) : Option β :=
  bnd2 (A.box 24 x0 h) fun t1 hq1 =>
  bnd2 (A.box 24 Z66 hq1) fun t2 hq2 =>
  bnd (A.fieldAddr 22 t1) fun t5 =>
  bnd (A.load false 1 t5 hq2) fun t6 =>
  bnd2 (A.append 2 24 (.slice none 0 0) t6 hq2) fun t7 hq3 =>
  bnd (A.fieldAddr 22 t1) fun t9 =>
  bnd (A.store 1 t9 t7 hq3) fun hq4 =>
  bnd (A.load true 24 t1 hq4) fun t10 =>
  bnd (A.store 24 t2 t10 hq4) fun hq5 =>
  kr t2 hq5
theorem ep37a (C : CF) (L : Nat) {β : Type} (x0 : Value) (h : H) (K : Ex → T Value → H → Option β) :
    execK Try.prog C L 0 11 [2] c37a [2] [] (fs [(0, x0)]) h K =
      p37a C L x0 h (fun x2 h => K .ret (fs [(2, x2)]) h) := by
  kernel_rfl
noncomputable def F37 (C : CF) (L : Nat) (x0 : Value) (h : H) : Option (Value × H) :=
  p37a C L x0 h
    (fun x2 h => bnd (resC (A.load true 24 x2 h) (some [])) fun vs => some (packA vs, h))
theorem F37eq (O : List FuncId) (hO : O.any (Nat.beq 37) = false) (n : Nat) (x0 : Value) (h : H) : callB Try.prog 0 O (n + 1) 37 [x0] h = F37 (callB Try.prog 0 O n) n x0 h := by
  rw [callB_eq hO (c := c37a) (nt := 11) (RR := [2]) (fr := (fs [(0, x0)])) Try.func37 (by kernel_rfl) (by kernel_rfl) (by kernel_rfl) (by kernel_rfl) (by kernel_rfl), ep37a]
  kernel_rfl
noncomputable def c38a : Code := (Try.f38.body).getD .skip
noncomputable def c38al : Code := cL c38a
noncomputable def p38al (C : CF) (L : Nat) {β : Type} (x0 x1 : Value) (h : H) (kn : Value → Value → H → Option β) : Option β :=
  bnd2 (A.box 38 x0 h) fun t2 hq1 =>
  bnd2 (A.box 38 x1 hq1) fun t3 hq2 =>
  kn t2 t3 hq2
theorem ep38al (C : CF) (L : Nat) {β : Type} (x0 x1 : Value) (h : H) (K : Ex → T Value → H → Option β) :
    execK Try.prog C L 0 106 [4] c38al [2, 3] [] (fs [(0, x0), (1, x1)]) h K =
      p38al C L x0 x1 h (fun x2 x3 h => K .normal (fs [(2, x2), (3, x3)]) h) := by
  kernel_rfl
noncomputable def c38ar : Code := cR c38a
noncomputable def c38arl : Code := cL c38ar
noncomputable def c38arll : Code := cL c38arl
noncomputable def p38arll (C : CF) (L : Nat) {β : Type} (x2 x3 : Value) (h : H) (kn : Value → Value → Value → H → Option β) : Option β :=
  bnd (A.fieldAddr 0 x2) fun t6 =>
  bnd (A.load false 1 t6 h) fun t7 =>
  bnd (A.fieldAddr 0 x3) fun t8 =>
  bnd (A.load false 1 t8 h) fun t9 =>
  bnd (A.bin Try.prog .neq 5 t7 t9) fun t10 =>
  toBK t10 fun b =>
  (bif b then
  kn (.bool true) x2 x3 h
  else
  bnd (A.fieldAddr 1 x2) fun t12 =>
  bnd (A.load false 1 t12 h) fun t13 =>
  bnd (A.fieldAddr 1 x3) fun t14 =>
  bnd (A.load false 1 t14 h) fun t15 =>
  bnd (A.bin Try.prog .neq 3 t13 t15) fun t16 =>
  toBK t16 fun bq1 =>
  (bif bq1 then
  kn (.bool true) x2 x3 h
  else
  bnd (A.fieldAddr 2 x2) fun t19 =>
  bnd (A.load false 1 t19 h) fun t20 =>
  bnd (A.fieldAddr 2 x3) fun t21 =>
  bnd (A.load false 1 t21 h) fun t22 =>
  bnd (A.bin Try.prog .neq 3 t20 t22) fun t23 =>
  toBK t23 fun bq2 =>
  (bif bq2 then
  kn (.bool true) x2 x3 h
  else
  bnd (A.fieldAddr 3 x2) fun t26 =>
  bnd (A.load false 1 t26 h) fun t27 =>
  bnd (A.fieldAddr 3 x3) fun t28 =>
  bnd (A.load false 1 t28 h) fun t29 =>
  bnd (A.bin Try.prog .neq 9 t27 t29) fun t30 =>
  toBK t30 fun bq3 =>
  (bif bq3 then
  kn (.bool true) x2 x3 h
  else
  bnd (A.fieldAddr 4 x2) fun t33 =>
  bnd (A.load false 1 t33 h) fun t34 =>
  bnd (A.fieldAddr 4 x3) fun t35 =>
  bnd (A.load false 1 t35 h) fun t36 =>
  bnd (A.bin Try.prog .neq 9 t34 t36) fun t37 =>
  toBK t37 fun bq4 =>
  (bif bq4 then
  kn (.bool true) x2 x3 h
  else
  bnd (A.fieldAddr 29 x2) fun t40 =>
  bnd (A.load true 4 t40 h) fun t41 =>
  bnd (A.fieldAddr 29 x3) fun t42 =>
  bnd (A.load true 4 t42 h) fun t43 =>
  bnd (A.bin Try.prog .neq 63 t41 t43) fun t44 =>
  toBK t44 fun bq5 =>
  (bif bq5 then
  kn (.bool true) x2 x3 h
  else
  bnd (A.fieldAddr 36 x2) fun t47 =>
  bnd (A.load false 1 t47 h) fun t48 =>
  bnd (A.fieldAddr 36 x3) fun t49 =>
  bnd (A.load false 1 t49 h) fun t50 =>
  bnd (A.bin Try.prog .neq 3 t48 t50) fun t51 =>
  toBK t51 fun bq6 =>
  (bif bq6 then
  kn (.bool true) x2 x3 h
  else
  bnd (A.fieldAddr 37 x2) fun t54 =>
  bnd (A.load false 1 t54 h) fun t55 =>
  bnd (A.fieldAddr 37 x3) fun t56 =>
  bnd (A.load false 1 t56 h) fun t57 =>
  bnd (A.bin Try.prog .neq 3 t55 t57) fun t58 =>
  toBK t58 fun bq7 =>
  (bif bq7 then
  kn (.bool true) x2 x3 h
  else
  bnd (A.fieldAddr 34 x2) fun t61 =>
  bnd (A.load false 1 t61 h) fun t62 =>
  bnd (A.lenS t62) fun t63 =>
  bnd (A.fieldAddr 34 x3) fun t64 =>
  bnd (A.load false 1 t64 h) fun t65 =>
  bnd (A.lenS t65) fun t66 =>
  bnd (A.bin Try.prog .neq 3 t63 t66) fun t67 =>
  toBK t67 fun bq8 =>
  kn (.bool bq8) x2 x3 h))))))))
theorem ep38arll (C : CF) (L : Nat) {β : Type} (x2 x3 : Value) (h : H) (K : Ex → T Value → H → Option β) :
    execK Try.prog C L 0 106 [4] c38arll [68, 2, 3] [] (fs [(2, x2), (3, x3)]) h K =
      p38arll C L x2 x3 h (fun x68 x2 x3 h => K .normal (fs [(68, x68), (2, x2), (3, x3)]) h) := by
  kernel_rfl
noncomputable def c38arlr : Code := cR c38arl
noncomputable def p38arlr (C : CF) (L : Nat) {β : Type} (x68 x2 x3 : Value) (h : H) (kr : Value → H → Option β) (kn : Value → Value → H → Option β) : Option β :=
  condV x68 (
  kr (.bool false) h) (
  kn x2 x3 h)
theorem ep38arlr (C : CF) (L : Nat) {β : Type} (x68 x2 x3 : Value) (h : H) (K : Ex → T Value → H → Option β) :
    execK Try.prog C L 0 106 [4] c38arlr [2, 3] [] (fs [(68, x68), (2, x2), (3, x3)]) h K =
      p38arlr C L x68 x2 x3 h (fun x4 h => K .ret (fs [(4, x4)]) h) (fun x2 x3 h => K .normal (fs [(2, x2), (3, x3)]) h) := by
  kernel_rfl
noncomputable def p38arl (C : CF) (L : Nat) {β : Type} (x2 x3 : Value) (h : H) (kr : Value → H → Option β) (kn : Value → Value → H → Option β) : Option β :=
  p38arll C L x2 x3 h (fun x68 x2 x3 h => p38arlr C L x68 x2 x3 h kr kn)
theorem ep38arl (C : CF) (L : Nat) {β : Type} (x2 x3 : Value) (h : H) (K : Ex → T Value → H → Option β) :
    execK Try.prog C L 0 106 [4] c38arl [2, 3] [] (fs [(2, x2), (3, x3)]) h K =
      p38arl C L x2 x3 h (fun x4 h => K .ret (fs [(4, x4)]) h) (fun x2 x3 h => K .normal (fs [(2, x2), (3, x3)]) h) := by
  rw [execK_seq (a := c38arll) (b := c38arlr) (by kernel_rfl) (show live [4] c38arlr [2, 3] [] = [68, 2, 3] by kernel_rfl), ep38arll]
  unfold p38arl
  exact (congrArg (p38arll C L x2 x3 h) (funext fun x68 => funext fun x2 => funext fun x3 => funext fun h => (seqK_n _ _ _).trans (ep38arlr C L x68 x2 x3 h K)))
noncomputable def c38arr : Code := cR c38ar
noncomputable def c38arrl : Code := cL c38arr
noncomputable def c38arrll : Code := cL c38arrl
noncomputable def p38arrll (C : CF) (L : Nat) {β : Type} (x2 x3 : Value) (h : H) (kn : Value → Value → Value → H → Option β) : Option β :=
  kn (.int .i64 0) x2 x3 h
theorem ep38arrll (C : CF) (L : Nat) {β : Type} (x2 x3 : Value) (h : H) (K : Ex → T Value → H → Option β) :
    execK Try.prog C L 0 106 [4] c38arrll [5, 2, 3] [] (fs [(2, x2), (3, x3)]) h K =
      p38arrll C L x2 x3 h (fun x5 x2 x3 h => K .normal (fs [(5, x5), (2, x2), (3, x3)]) h) := by
  kernel_rfl
noncomputable def c38arrlr : Code := cR c38arrl
noncomputable def c38arrlrb : Code := cL c38arrlr
noncomputable def c38arrlrbo : Code := cL c38arrlrb
noncomputable def p38arrlrbo (C : CF) (L : Nat) {β : Type} (x5 x2 x3 : Value) (h : H) (kr : Value → H → Option β) (kn : Value → Value → Value → H → Option β) (kx0 : Value → Value → H → Option β) : Option β :=
  bnd (A.fieldAddr 34 x2) fun t70 =>
  bnd (A.load false 1 t70 h) fun t71 =>
  bnd (A.lenS t71) fun t72 =>
  bnd (A.bin Try.prog .lss 3 x5 t72) fun t73 =>
  toBK t73 fun b =>
  (bif b then
  bnd (A.fieldAddr 34 x2) fun t76 =>
  bnd (A.load false 1 t76 h) fun t77 =>
  bnd (A.idxS 1 t77 x5) fun t79 =>
  bnd (A.load false 1 t79 h) fun t80 =>
  bnd (A.fieldAddr 34 x3) fun t81 =>
  bnd (A.load false 1 t81 h) fun t82 =>
  bnd (A.idxS 1 t82 x5) fun t84 =>
  bnd (A.load false 1 t84 h) fun t85 =>
  bnd (A.bin Try.prog .neq 9 t80 t85) fun t86 =>
  toBK t86 fun bq1 =>
  (bif bq1 then
  kr (.bool false) h
  else
  bnd (A.bin Try.prog .add 3 x5 (.int .i64 1)) fun t75 =>
  kn t75 x2 x3 h)
  else
  kx0 x2 x3 h)
theorem ep38arrlrbo (C : CF) (L : Nat) {β : Type} (x5 x2 x3 : Value) (h : H) (K : Ex → T Value → H → Option β) :
    execK Try.prog C L 0 106 [4] c38arrlrbo [5, 2, 3] [(0, [2, 3])] (fs [(5, x5), (2, x2), (3, x3)]) h K =
      p38arrlrbo C L x5 x2 x3 h (fun x4 h => K .ret (fs [(4, x4)]) h) (fun x5 x2 x3 h => K .normal (fs [(5, x5), (2, x2), (3, x3)]) h) (fun x2 x3 h => K (.exit 0) (fs [(2, x2), (3, x3)]) h) := by
  kernel_rfl
noncomputable def p38arrlrbw (C : CF) (L : Nat) {β : Type} (kr : Value → H → Option β) (kx0 : Value → Value → H → Option β) : Nat → Value → Value → Value → H → Option β
  | 0, _, _, _, _ => none
  | n + 1, x5, x2, x3, h => p38arrlrbo C L x5 x2 x3 h kr (fun x5 x2 x3 h => p38arrlrbw C L kr kx0 n x5 x2 x3 h) kx0
theorem ep38arrlrbw (C : CF) (L : Nat) {β : Type} (K : Ex → T Value → H → Option β) : ∀ (n : Nat) (x5 x2 x3 : Value) (h : H),
    loopK (fun fr h K => execK Try.prog C L 0 106 [4] c38arrlrbo [5, 2, 3] [(0, [2, 3])] fr h K) n (fs [(5, x5), (2, x2), (3, x3)]) h K =
      p38arrlrbw C L (fun x4 h => K .ret (fs [(4, x4)]) h) (fun x2 x3 h => K (.exit 0) (fs [(2, x2), (3, x3)]) h) n x5 x2 x3 h := by
  intro n
  induction n with
  | zero => intros; rfl
  | succ n ih =>
    intros
    simp only [loopK]
    rw [ep38arrlrbo]
    simp only [seqK_n, seqK_x, seqK_r, ih]
    rfl
noncomputable def p38arrlrb (C : CF) (L : Nat) {β : Type} (x5 x2 x3 : Value) (h : H) (kr : Value → H → Option β) (kx0 : Value → Value → H → Option β) : Option β :=
  p38arrlrbw C L kr kx0 L x5 x2 x3 h
theorem ep38arrlrb (C : CF) (L : Nat) {β : Type} (x5 x2 x3 : Value) (h : H) (K : Ex → T Value → H → Option β) :
    execK Try.prog C L 0 106 [4] c38arrlrb [2, 3] [(0, [2, 3])] (fs [(5, x5), (2, x2), (3, x3)]) h K =
      p38arrlrb C L x5 x2 x3 h (fun x4 h => K .ret (fs [(4, x4)]) h) (fun x2 x3 h => K (.exit 0) (fs [(2, x2), (3, x3)]) h) := by
  rw [execK_loop (b := c38arrlrbo) (fr1 := (fs [(5, x5), (2, x2), (3, x3)])) (by kernel_rfl) (show live [4] c38arrlrbo [] [(0, [2, 3])] = [5, 2, 3] by kernel_rfl) (by kernel_rfl), ep38arrlrbw]
  unfold p38arrlrb
  rfl
noncomputable def p38arrlr (C : CF) (L : Nat) {β : Type} (x5 x2 x3 : Value) (h : H) (kr : Value → H → Option β) (kn : Value → Value → H → Option β) : Option β :=
  p38arrlrb C L x5 x2 x3 h kr kn
theorem ep38arrlr (C : CF) (L : Nat) {β : Type} (x5 x2 x3 : Value) (h : H) (K : Ex → T Value → H → Option β) :
    execK Try.prog C L 0 106 [4] c38arrlr [2, 3] [] (fs [(5, x5), (2, x2), (3, x3)]) h K =
      p38arrlr C L x5 x2 x3 h (fun x4 h => K .ret (fs [(4, x4)]) h) (fun x2 x3 h => K .normal (fs [(2, x2), (3, x3)]) h) := by
  rw [execK_block (b := c38arrlrb) (id := 0) (by kernel_rfl), ep38arrlrb]
  unfold p38arrlr
  rfl
noncomputable def p38arrl (C : CF) (L : Nat) {β : Type} (x2 x3 : Value) (h : H) (kr : Value → H → Option β) (kn : Value → Value → H → Option β) : Option β :=
  p38arrll C L x2 x3 h (fun x5 x2 x3 h => p38arrlr C L x5 x2 x3 h kr kn)
theorem ep38arrl (C : CF) (L : Nat) {β : Type} (x2 x3 : Value) (h : H) (K : Ex → T Value → H → Option β) :
    execK Try.prog C L 0 106 [4] c38arrl [2, 3] [] (fs [(2, x2), (3, x3)]) h K =
      p38arrl C L x2 x3 h (fun x4 h => K .ret (fs [(4, x4)]) h) (fun x2 x3 h => K .normal (fs [(2, x2), (3, x3)]) h) := by
  rw [execK_seq (a := c38arrll) (b := c38arrlr) (by kernel_rfl) (show live [4] c38arrlr [2, 3] [] = [5, 2, 3] by kernel_rfl), ep38arrll]
  unfold p38arrl
  exact (congrArg (p38arrll C L x2 x3 h) (funext fun x5 => funext fun x2 => funext fun x3 => funext fun h => (seqK_n _ _ _).trans (ep38arrlr C L x5 x2 x3 h K)))
noncomputable def c38arrr : Code := cR c38arr
noncomputable def p38arrr (C : CF) (L : Nat) {β : Type} (x2 x3 : Value) (h : H) (kr : Value → H → Option β) : Option β :=
  bnd (A.fieldAddr 5 x2) fun t87 =>
  bnd (A.load true 24 t87 h) fun t88 =>
  bnd (A.fieldAddr 5 x3) fun t89 =>
  bnd (A.load true 24 t89 h) fun t90 =>
  bnd2 (C 47 [t88, t90] h) fun t91 hq1 =>
  toBK t91 fun b =>
  (bif b then
  bnd (A.fieldAddr 33 x2) fun t93 =>
  bnd (A.load false 1 t93 hq1) fun t94 =>
  bnd (A.fieldAddr 33 x3) fun t95 =>
  bnd (A.load false 1 t95 hq1) fun t96 =>
  bnd2 (C 48 [t94, t96] hq1) fun t97 hq2 =>
  toBK t97 fun bq1 =>
  (bif bq1 then
  bnd (A.fieldAddr 35 x2) fun t100 =>
  bnd (A.load false 1 t100 hq2) fun t101 =>
  bnd (A.fieldAddr 35 x3) fun t102 =>
  bnd (A.load false 1 t102 hq2) fun t103 =>
  bnd2 (C 49 [t101, t103] hq2) fun t104 hq3 =>
  toBK t104 fun bq2 =>
  kr (.bool bq2) hq3
  else
  kr (.bool false) hq2)
  else
  kr (.bool false) hq1)
theorem ep38arrr (C : CF) (L : Nat) {β : Type} (x2 x3 : Value) (h : H) (K : Ex → T Value → H → Option β) :
    execK Try.prog C L 0 106 [4] c38arrr [4] [] (fs [(2, x2), (3, x3)]) h K =
      p38arrr C L x2 x3 h (fun x4 h => K .ret (fs [(4, x4)]) h) := by
  kernel_rfl
noncomputable def p38arr (C : CF) (L : Nat) {β : Type} (x2 x3 : Value) (h : H) (kr : Value → H → Option β) : Option β :=
  p38arrl C L x2 x3 h kr (fun x2 x3 h => p38arrr C L x2 x3 h kr)
theorem ep38arr (C : CF) (L : Nat) {β : Type} (x2 x3 : Value) (h : H) (K : Ex → T Value → H → Option β) :
    execK Try.prog C L 0 106 [4] c38arr [4] [] (fs [(2, x2), (3, x3)]) h K =
      p38arr C L x2 x3 h (fun x4 h => K .ret (fs [(4, x4)]) h) := by
  rw [execK_seq (a := c38arrl) (b := c38arrr) (by kernel_rfl) (show live [4] c38arrr [4] [] = [2, 3] by kernel_rfl), ep38arrl]
  unfold p38arr
  exact (congr (congrArg (p38arrl C L x2 x3 h) (funext fun x4 => funext fun h => seqK_r _ _ _)) (funext fun x2 => funext fun x3 => funext fun h => (seqK_n _ _ _).trans (ep38arrr C L x2 x3 h K)))
noncomputable def p38ar (C : CF) (L : Nat) {β : Type} (x2 x3 : Value) (h : H) (kr : Value → H → Option β) : Option β :=
  p38arl C L x2 x3 h kr (fun x2 x3 h => p38arr C L x2 x3 h kr)
theorem ep38ar (C : CF) (L : Nat) {β : Type} (x2 x3 : Value) (h : H) (K : Ex → T Value → H → Option β) :
    execK Try.prog C L 0 106 [4] c38ar [4] [] (fs [(2, x2), (3, x3)]) h K =
      p38ar C L x2 x3 h (fun x4 h => K .ret (fs [(4, x4)]) h) := by
  rw [execK_seq (a := c38arl) (b := c38arr) (by kernel_rfl) (show live [4] c38arr [4] [] = [2, 3] by kernel_rfl), ep38arl]
  unfold p38ar
  exact (congr (congrArg (p38arl C L x2 x3 h) (funext fun x4 => funext fun h => seqK_r _ _ _)) (funext fun x2 => funext fun x3 => funext fun h => (seqK_n _ _ _).trans (ep38arr C L x2 x3 h K)))
noncomputable def p38a (C : CF) (L : Nat) {β : Type} (x0 x1 : Value) (h : H) (kr : Value → H → Option β) : Option β :=
  p38al C L x0 x1 h (fun x2 x3 h => p38ar C L x2 x3 h kr)
theorem ep38a (C : CF) (L : Nat) {β : Type} (x0 x1 : Value) (h : H) (K : Ex → T Value → H → Option β) :
    execK Try.prog C L 0 106 [4] c38a [4] [] (fs [(0, x0), (1, x1)]) h K =
      p38a C L x0 x1 h (fun x4 h => K .ret (fs [(4, x4)]) h) := by
  rw [execK_seq (a := c38al) (b := c38ar) (by kernel_rfl) (show live [4] c38ar [4] [] = [2, 3] by kernel_rfl), ep38al]
  unfold p38a
  exact (congrArg (p38al C L x0 x1 h) (funext fun x2 => funext fun x3 => funext fun h => (seqK_n _ _ _).trans (ep38ar C L x2 x3 h K)))
noncomputable def F38 (C : CF) (L : Nat) (x0 x1 : Value) (h : H) : Option (Value × H) :=
  p38a C L x0 x1 h
    (fun x4 h => some (x4, h))
theorem F38eq (O : List FuncId) (hO : O.any (Nat.beq 38) = false) (n : Nat) (x0 x1 : Value) (h : H) : callB Try.prog 0 O (n + 1) 38 [x0, x1] h = F38 (callB Try.prog 0 O n) n x0 x1 h := by
  rw [callB_eq hO (c := c38a) (nt := 106) (RR := [4]) (fr := (fs [(0, x0), (1, x1)])) Try.func38 (by kernel_rfl) (by kernel_rfl) (by kernel_rfl) (by kernel_rfl) (by kernel_rfl), ep38a]
  kernel_rfl
noncomputable def c47a : Code := (Try.f47.body).getD .skip
noncomputable def c47al : Code := cL c47a
noncomputable def p47al (C : CF) (L : Nat) {β : Type} (x0 x1 : Value) (h : H) (kn : Value → Value → H → Option β) : Option β :=
  bnd2 (A.box 24 x0 h) fun t2 hq1 =>
  bnd2 (A.box 24 x1 hq1) fun t3 hq2 =>
  kn t3 t2 hq2
theorem ep47al (C : CF) (L : Nat) {β : Type} (x0 x1 : Value) (h : H) (K : Ex → T Value → H → Option β) :
    execK Try.prog C L 0 169 [4] c47al [3, 2] [] (fs [(0, x0), (1, x1)]) h K =
      p47al C L x0 x1 h (fun x3 x2 h => K .normal (fs [(3, x3), (2, x2)]) h) := by
  kernel_rfl
noncomputable def c47ar : Code := cR c47a
noncomputable def c47arl : Code := cL c47ar
noncomputable def c47arll : Code := cL c47arl
noncomputable def p47arll (C : CF) (L : Nat) {β : Type} (x3 x2 : Value) (h : H) (kn : Value → Value → Value → H → Option β) : Option β :=
  bnd (A.fieldAddr 0 x2) fun t6 =>
  bnd (A.load false 1 t6 h) fun t7 =>
  bnd (A.fieldAddr 0 x3) fun t8 =>
  bnd (A.load false 1 t8 h) fun t9 =>
  bnd (A.bin Try.prog .neq 5 t7 t9) fun t10 =>
  toBK t10 fun b =>
  (bif b then
  kn (.bool true) x3 x2 h
  else
  bnd (A.fieldAddr 1 x2) fun t12 =>
  bnd (A.load false 1 t12 h) fun t13 =>
  toBK t13 fun bq1 =>
  bnd (A.fieldAddr 1 x3) fun t14 =>
  bnd (A.load false 1 t14 h) fun t15 =>
  toBK t15 fun bq2 =>
  bnd (A.bin Try.prog .neq 4 (.bool bq1) (.bool bq2)) fun t16 =>
  toBK t16 fun bq3 =>
  (bif bq3 then
  kn (.bool true) x3 x2 h
  else
  bnd (A.fieldAddr 2 x2) fun t19 =>
  bnd (A.load false 1 t19 h) fun t20 =>
  bnd (A.fieldAddr 2 x3) fun t21 =>
  bnd (A.load false 1 t21 h) fun t22 =>
  bnd (A.bin Try.prog .neq 5 t20 t22) fun t23 =>
  toBK t23 fun bq4 =>
  (bif bq4 then
  kn (.bool true) x3 x2 h
  else
  bnd (A.fieldAddr 3 x2) fun t26 =>
  bnd (A.load false 1 t26 h) fun t27 =>
  toBK t27 fun bq5 =>
  bnd (A.fieldAddr 3 x3) fun t28 =>
  bnd (A.load false 1 t28 h) fun t29 =>
  toBK t29 fun bq6 =>
  bnd (A.bin Try.prog .neq 4 (.bool bq5) (.bool bq6)) fun t30 =>
  toBK t30 fun bq7 =>
  (bif bq7 then
  kn (.bool true) x3 x2 h
  else
  bnd (A.fieldAddr 4 x2) fun t33 =>
  bnd (A.load false 1 t33 h) fun t34 =>
  bnd (A.fieldAddr 4 x3) fun t35 =>
  bnd (A.load false 1 t35 h) fun t36 =>
  bnd (A.bin Try.prog .neq 61 t34 t36) fun t37 =>
  toBK t37 fun bq8 =>
  (bif bq8 then
  kn (.bool true) x3 x2 h
  else
  bnd (A.fieldAddr 5 x2) fun t40 =>
  bnd (A.load false 1 t40 h) fun t41 =>
  bnd (A.fieldAddr 5 x3) fun t42 =>
  bnd (A.load false 1 t42 h) fun t43 =>
  bnd (A.bin Try.prog .neq 9 t41 t43) fun t44 =>
  toBK t44 fun bq9 =>
  (bif bq9 then
  kn (.bool true) x3 x2 h
  else
  bnd (A.fieldAddr 6 x2) fun t47 =>
  bnd (A.load false 1 t47 h) fun t48 =>
  bnd (A.fieldAddr 6 x3) fun t49 =>
  bnd (A.load false 1 t49 h) fun t50 =>
  bnd (A.bin Try.prog .neq 9 t48 t50) fun t51 =>
  toBK t51 fun bq10 =>
  (bif bq10 then
  kn (.bool true) x3 x2 h
  else
  bnd (A.fieldAddr 7 x2) fun t54 =>
  bnd (A.load false 1 t54 h) fun t55 =>
  bnd (A.fieldAddr 7 x3) fun t56 =>
  bnd (A.load false 1 t56 h) fun t57 =>
  bnd (A.bin Try.prog .neq 5 t55 t57) fun t58 =>
  toBK t58 fun bq11 =>
  (bif bq11 then
  kn (.bool true) x3 x2 h
  else
  bnd (A.fieldAddr 8 x2) fun t61 =>
  bnd (A.load false 1 t61 h) fun t62 =>
  toBK t62 fun bq12 =>
  bnd (A.fieldAddr 8 x3) fun t63 =>
  bnd (A.load false 1 t63 h) fun t64 =>
  toBK t64 fun bq13 =>
  bnd (A.bin Try.prog .neq 4 (.bool bq12) (.bool bq13)) fun t65 =>
  toBK t65 fun bq14 =>
  (bif bq14 then
  kn (.bool true) x3 x2 h
  else
  bnd (A.fieldAddr 9 x2) fun t68 =>
  bnd (A.load false 1 t68 h) fun t69 =>
  bnd (A.fieldAddr 9 x3) fun t70 =>
  bnd (A.load false 1 t70 h) fun t71 =>
  bnd (A.bin Try.prog .neq 61 t69 t71) fun t72 =>
  toBK t72 fun bq15 =>
  (bif bq15 then
  kn (.bool true) x3 x2 h
  else
  bnd (A.fieldAddr 10 x2) fun t75 =>
  bnd (A.load false 1 t75 h) fun t76 =>
  bnd (A.fieldAddr 10 x3) fun t77 =>
  bnd (A.load false 1 t77 h) fun t78 =>
  bnd (A.bin Try.prog .neq 9 t76 t78) fun t79 =>
  toBK t79 fun bq16 =>
  kn (.bool bq16) x3 x2 h))))))))))
theorem ep47arll (C : CF) (L : Nat) {β : Type} (x3 x2 : Value) (h : H) (K : Ex → T Value → H → Option β) :
    execK Try.prog C L 0 169 [4] c47arll [80, 3, 2] [] (fs [(3, x3), (2, x2)]) h K =
      p47arll C L x3 x2 h (fun x80 x3 x2 h => K .normal (fs [(80, x80), (3, x3), (2, x2)]) h) := by
  kernel_rfl
noncomputable def c47arlr : Code := cR c47arl
noncomputable def p47arlr (C : CF) (L : Nat) {β : Type} (x80 x3 x2 : Value) (h : H) (kr : Value → H → Option β) (kn : Value → Value → H → Option β) : Option β :=
  condV x80 (
  kr (.bool false) h) (
  kn x3 x2 h)
theorem ep47arlr (C : CF) (L : Nat) {β : Type} (x80 x3 x2 : Value) (h : H) (K : Ex → T Value → H → Option β) :
    execK Try.prog C L 0 169 [4] c47arlr [3, 2] [] (fs [(80, x80), (3, x3), (2, x2)]) h K =
      p47arlr C L x80 x3 x2 h (fun x4 h => K .ret (fs [(4, x4)]) h) (fun x3 x2 h => K .normal (fs [(3, x3), (2, x2)]) h) := by
  kernel_rfl
noncomputable def p47arl (C : CF) (L : Nat) {β : Type} (x3 x2 : Value) (h : H) (kr : Value → H → Option β) (kn : Value → Value → H → Option β) : Option β :=
  p47arll C L x3 x2 h (fun x80 x3 x2 h => p47arlr C L x80 x3 x2 h kr kn)
theorem ep47arl (C : CF) (L : Nat) {β : Type} (x3 x2 : Value) (h : H) (K : Ex → T Value → H → Option β) :
    execK Try.prog C L 0 169 [4] c47arl [3, 2] [] (fs [(3, x3), (2, x2)]) h K =
      p47arl C L x3 x2 h (fun x4 h => K .ret (fs [(4, x4)]) h) (fun x3 x2 h => K .normal (fs [(3, x3), (2, x2)]) h) := by
  rw [execK_seq (a := c47arll) (b := c47arlr) (by kernel_rfl) (show live [4] c47arlr [3, 2] [] = [80, 3, 2] by kernel_rfl), ep47arll]
  unfold p47arl
  exact (congrArg (p47arll C L x3 x2 h) (funext fun x80 => funext fun x3 => funext fun x2 => funext fun h => (seqK_n _ _ _).trans (ep47arlr C L x80 x3 x2 h K)))
noncomputable def c47arr : Code := cR c47ar
noncomputable def c47arrl : Code := cL c47arr
noncomputable def c47arrll : Code := cL c47arrl
noncomputable def p47arrll (C : CF) (L : Nat) {β : Type} (x3 x2 : Value) (h : H) (kn : Value → Value → Value → H → Option β) : Option β :=
  bnd (A.fieldAddr 11 x2) fun t81 =>
  bnd (A.load false 1 t81 h) fun t82 =>
  toBK t82 fun b =>
  bnd (A.fieldAddr 11 x3) fun t83 =>
  bnd (A.load false 1 t83 h) fun t84 =>
  toBK t84 fun bq1 =>
  bnd (A.bin Try.prog .neq 4 (.bool b) (.bool bq1)) fun t85 =>
  toBK t85 fun bq2 =>
  (bif bq2 then
  kn (.bool true) x3 x2 h
  else
  bnd (A.fieldAddr 12 x2) fun t87 =>
  bnd (A.load true 4 t87 h) fun t88 =>
  bnd (A.fieldAddr 12 x3) fun t89 =>
  bnd (A.load true 4 t89 h) fun t90 =>
  bnd (A.bin Try.prog .neq 63 t88 t90) fun t91 =>
  toBK t91 fun bq3 =>
  (bif bq3 then
  kn (.bool true) x3 x2 h
  else
  bnd (A.fieldAddr 16 x2) fun t94 =>
  bnd (A.load false 1 t94 h) fun t95 =>
  toBK t95 fun bq4 =>
  bnd (A.fieldAddr 16 x3) fun t96 =>
  bnd (A.load false 1 t96 h) fun t97 =>
  toBK t97 fun bq5 =>
  bnd (A.bin Try.prog .neq 4 (.bool bq4) (.bool bq5)) fun t98 =>
  toBK t98 fun bq6 =>
  (bif bq6 then
  kn (.bool true) x3 x2 h
  else
  bnd (A.fieldAddr 17 x2) fun t101 =>
  bnd (A.load false 1 t101 h) fun t102 =>
  toBK t102 fun bq7 =>
  bnd (A.fieldAddr 17 x3) fun t103 =>
  bnd (A.load false 1 t103 h) fun t104 =>
  toBK t104 fun bq8 =>
  bnd (A.bin Try.prog .neq 4 (.bool bq7) (.bool bq8)) fun t105 =>
  toBK t105 fun bq9 =>
  (bif bq9 then
  kn (.bool true) x3 x2 h
  else
  bnd (A.fieldAddr 18 x2) fun t108 =>
  bnd (A.load false 1 t108 h) fun t109 =>
  bnd (A.fieldAddr 18 x3) fun t110 =>
  bnd (A.load false 1 t110 h) fun t111 =>
  bnd (A.bin Try.prog .neq 9 t109 t111) fun t112 =>
  toBK t112 fun bq10 =>
  (bif bq10 then
  kn (.bool true) x3 x2 h
  else
  bnd (A.fieldAddr 19 x2) fun t115 =>
  bnd (A.load false 1 t115 h) fun t116 =>
  bnd (A.fieldAddr 19 x3) fun t117 =>
  bnd (A.load false 1 t117 h) fun t118 =>
  bnd (A.bin Try.prog .neq 9 t116 t118) fun t119 =>
  toBK t119 fun bq11 =>
  (bif bq11 then
  kn (.bool true) x3 x2 h
  else
  bnd (A.fieldAddr 20 x2) fun t122 =>
  bnd (A.load false 1 t122 h) fun t123 =>
  toBK t123 fun bq12 =>
  bnd (A.fieldAddr 20 x3) fun t124 =>
  bnd (A.load false 1 t124 h) fun t125 =>
  toBK t125 fun bq13 =>
  bnd (A.bin Try.prog .neq 4 (.bool bq12) (.bool bq13)) fun t126 =>
  toBK t126 fun bq14 =>
  (bif bq14 then
  kn (.bool true) x3 x2 h
  else
  bnd (A.fieldAddr 21 x2) fun t129 =>
  bnd (A.load false 1 t129 h) fun t130 =>
  bnd (A.fieldAddr 21 x3) fun t131 =>
  bnd (A.load false 1 t131 h) fun t132 =>
  bnd (A.bin Try.prog .neq 5 t130 t132) fun t133 =>
  toBK t133 fun bq15 =>
  (bif bq15 then
  kn (.bool true) x3 x2 h
  else
  bnd (A.fieldAddr 23 x2) fun t136 =>
  bnd (A.load false 1 t136 h) fun t137 =>
  bnd (A.fieldAddr 23 x3) fun t138 =>
  bnd (A.load false 1 t138 h) fun t139 =>
  bnd (A.bin Try.prog .neq 9 t137 t139) fun t140 =>
  toBK t140 fun bq16 =>
  (bif bq16 then
  kn (.bool true) x3 x2 h
  else
  bnd (A.fieldAddr 22 x2) fun t143 =>
  bnd (A.load false 1 t143 h) fun t144 =>
  bnd (A.lenS t144) fun t145 =>
  bnd (A.fieldAddr 22 x3) fun t146 =>
  bnd (A.load false 1 t146 h) fun t147 =>
  bnd (A.lenS t147) fun t148 =>
  bnd (A.bin Try.prog .neq 3 t145 t148) fun t149 =>
  toBK t149 fun bq17 =>
  kn (.bool bq17) x3 x2 h)))))))))
theorem ep47arrll (C : CF) (L : Nat) {β : Type} (x3 x2 : Value) (h : H) (K : Ex → T Value → H → Option β) :
    execK Try.prog C L 0 169 [4] c47arrll [150, 3, 2] [] (fs [(3, x3), (2, x2)]) h K =
      p47arrll C L x3 x2 h (fun x150 x3 x2 h => K .normal (fs [(150, x150), (3, x3), (2, x2)]) h) := by
  kernel_rfl
noncomputable def c47arrlr : Code := cR c47arrl
noncomputable def p47arrlr (C : CF) (L : Nat) {β : Type} (x150 x3 x2 : Value) (h : H) (kr : Value → H → Option β) (kn : Value → Value → H → Option β) : Option β :=
  condV x150 (
  kr (.bool false) h) (
  kn x3 x2 h)
theorem ep47arrlr (C : CF) (L : Nat) {β : Type} (x150 x3 x2 : Value) (h : H) (K : Ex → T Value → H → Option β) :
    execK Try.prog C L 0 169 [4] c47arrlr [3, 2] [] (fs [(150, x150), (3, x3), (2, x2)]) h K =
      p47arrlr C L x150 x3 x2 h (fun x4 h => K .ret (fs [(4, x4)]) h) (fun x3 x2 h => K .normal (fs [(3, x3), (2, x2)]) h) := by
  kernel_rfl
noncomputable def p47arrl (C : CF) (L : Nat) {β : Type} (x3 x2 : Value) (h : H) (kr : Value → H → Option β) (kn : Value → Value → H → Option β) : Option β :=
  p47arrll C L x3 x2 h (fun x150 x3 x2 h => p47arrlr C L x150 x3 x2 h kr kn)
theorem ep47arrl (C : CF) (L : Nat) {β : Type} (x3 x2 : Value) (h : H) (K : Ex → T Value → H → Option β) :
    execK Try.prog C L 0 169 [4] c47arrl [3, 2] [] (fs [(3, x3), (2, x2)]) h K =
      p47arrl C L x3 x2 h (fun x4 h => K .ret (fs [(4, x4)]) h) (fun x3 x2 h => K .normal (fs [(3, x3), (2, x2)]) h) := by
  rw [execK_seq (a := c47arrll) (b := c47arrlr) (by kernel_rfl) (show live [4] c47arrlr [3, 2] [] = [150, 3, 2] by kernel_rfl), ep47arrll]
  unfold p47arrl
  exact (congrArg (p47arrll C L x3 x2 h) (funext fun x150 => funext fun x3 => funext fun x2 => funext fun h => (seqK_n _ _ _).trans (ep47arrlr C L x150 x3 x2 h K)))
noncomputable def c47arrr : Code := cR c47arr
noncomputable def c47arrrl : Code := cL c47arrr
noncomputable def c47arrrll : Code := cL c47arrrl
noncomputable def p47arrrll (C : CF) (L : Nat) {β : Type} (x3 x2 : Value) (h : H) (kn : Value → Value → Value → H → Option β) : Option β :=
  kn (.int .i64 0) x3 x2 h
theorem ep47arrrll (C : CF) (L : Nat) {β : Type} (x3 x2 : Value) (h : H) (K : Ex → T Value → H → Option β) :
    execK Try.prog C L 0 169 [4] c47arrrll [5, 3, 2] [] (fs [(3, x3), (2, x2)]) h K =
      p47arrrll C L x3 x2 h (fun x5 x3 x2 h => K .normal (fs [(5, x5), (3, x3), (2, x2)]) h) := by
  kernel_rfl
noncomputable def c47arrrlr : Code := cR c47arrrl
noncomputable def c47arrrlrb : Code := cL c47arrrlr
noncomputable def c47arrrlrbo : Code := cL c47arrrlrb
noncomputable def p47arrrlrbo (C : CF) (L : Nat) {β : Type} (x5 x3 x2 : Value) (h : H) (kr : Value → H → Option β) (kn : Value → Value → Value → H → Option β) (kx0 : H → Option β) : Option β :=
  bnd (A.fieldAddr 22 x2) fun t152 =>
  bnd (A.load false 1 t152 h) fun t153 =>
  bnd (A.lenS t153) fun t154 =>
  bnd (A.bin Try.prog .lss 3 x5 t154) fun t155 =>
  toBK t155 fun b =>
  (bif b then
  bnd (A.fieldAddr 22 x2) fun t158 =>
  bnd (A.load false 1 t158 h) fun t159 =>
  bnd (A.idxS 2 t159 x5) fun t161 =>
  bnd (A.load true 2 t161 h) fun t162 =>
  bnd (A.fieldAddr 22 x3) fun t163 =>
  bnd (A.load false 1 t163 h) fun t164 =>
  bnd (A.idxS 2 t164 x5) fun t166 =>
  bnd (A.load true 2 t166 h) fun t167 =>
  bnd (A.bin Try.prog .neq 75 t162 t167) fun t168 =>
  toBK t168 fun bq1 =>
  (bif bq1 then
  kr (.bool false) h
  else
  bnd (A.bin Try.prog .add 3 x5 (.int .i64 1)) fun t157 =>
  kn t157 x3 x2 h)
  else
  kx0 h)
theorem ep47arrrlrbo (C : CF) (L : Nat) {β : Type} (x5 x3 x2 : Value) (h : H) (K : Ex → T Value → H → Option β) :
    execK Try.prog C L 0 169 [4] c47arrrlrbo [5, 3, 2] [(0, [])] (fs [(5, x5), (3, x3), (2, x2)]) h K =
      p47arrrlrbo C L x5 x3 x2 h (fun x4 h => K .ret (fs [(4, x4)]) h) (fun x5 x3 x2 h => K .normal (fs [(5, x5), (3, x3), (2, x2)]) h) (fun h => K (.exit 0) (fs []) h) := by
  kernel_rfl
noncomputable def p47arrrlrbw (C : CF) (L : Nat) {β : Type} (kr : Value → H → Option β) (kx0 : H → Option β) : Nat → Value → Value → Value → H → Option β
  | 0, _, _, _, _ => none
  | n + 1, x5, x3, x2, h => p47arrrlrbo C L x5 x3 x2 h kr (fun x5 x3 x2 h => p47arrrlrbw C L kr kx0 n x5 x3 x2 h) kx0
theorem ep47arrrlrbw (C : CF) (L : Nat) {β : Type} (K : Ex → T Value → H → Option β) : ∀ (n : Nat) (x5 x3 x2 : Value) (h : H),
    loopK (fun fr h K => execK Try.prog C L 0 169 [4] c47arrrlrbo [5, 3, 2] [(0, [])] fr h K) n (fs [(5, x5), (3, x3), (2, x2)]) h K =
      p47arrrlrbw C L (fun x4 h => K .ret (fs [(4, x4)]) h) (fun h => K (.exit 0) (fs []) h) n x5 x3 x2 h := by
  intro n
  induction n with
  | zero => intros; rfl
  | succ n ih =>
    intros
    simp only [loopK]
    rw [ep47arrrlrbo]
    simp only [seqK_n, seqK_x, seqK_r, ih]
    rfl
noncomputable def p47arrrlrb (C : CF) (L : Nat) {β : Type} (x5 x3 x2 : Value) (h : H) (kr : Value → H → Option β) (kx0 : H → Option β) : Option β :=
  p47arrrlrbw C L kr kx0 L x5 x3 x2 h
theorem ep47arrrlrb (C : CF) (L : Nat) {β : Type} (x5 x3 x2 : Value) (h : H) (K : Ex → T Value → H → Option β) :
    execK Try.prog C L 0 169 [4] c47arrrlrb [] [(0, [])] (fs [(5, x5), (3, x3), (2, x2)]) h K =
      p47arrrlrb C L x5 x3 x2 h (fun x4 h => K .ret (fs [(4, x4)]) h) (fun h => K (.exit 0) (fs []) h) := by
  rw [execK_loop (b := c47arrrlrbo) (fr1 := (fs [(5, x5), (3, x3), (2, x2)])) (by kernel_rfl) (show live [4] c47arrrlrbo [] [(0, [])] = [5, 3, 2] by kernel_rfl) (by kernel_rfl), ep47arrrlrbw]
  unfold p47arrrlrb
  rfl
noncomputable def p47arrrlr (C : CF) (L : Nat) {β : Type} (x5 x3 x2 : Value) (h : H) (kr : Value → H → Option β) (kn : H → Option β) : Option β :=
  p47arrrlrb C L x5 x3 x2 h kr kn
theorem ep47arrrlr (C : CF) (L : Nat) {β : Type} (x5 x3 x2 : Value) (h : H) (K : Ex → T Value → H → Option β) :
    execK Try.prog C L 0 169 [4] c47arrrlr [] [] (fs [(5, x5), (3, x3), (2, x2)]) h K =
      p47arrrlr C L x5 x3 x2 h (fun x4 h => K .ret (fs [(4, x4)]) h) (fun h => K .normal (fs []) h) := by
  rw [execK_block (b := c47arrrlrb) (id := 0) (by kernel_rfl), ep47arrrlrb]
  unfold p47arrrlr
  rfl
noncomputable def p47arrrl (C : CF) (L : Nat) {β : Type} (x3 x2 : Value) (h : H) (kr : Value → H → Option β) (kn : H → Option β) : Option β :=
  p47arrrll C L x3 x2 h (fun x5 x3 x2 h => p47arrrlr C L x5 x3 x2 h kr kn)
theorem ep47arrrl (C : CF) (L : Nat) {β : Type} (x3 x2 : Value) (h : H) (K : Ex → T Value → H → Option β) :
    execK Try.prog C L 0 169 [4] c47arrrl [] [] (fs [(3, x3), (2, x2)]) h K =
      p47arrrl C L x3 x2 h (fun x4 h => K .ret (fs [(4, x4)]) h) (fun h => K .normal (fs []) h) := by
  rw [execK_seq (a := c47arrrll) (b := c47arrrlr) (by kernel_rfl) (show live [4] c47arrrlr [] [] = [5, 3, 2] by kernel_rfl), ep47arrrll]
  unfold p47arrrl
  exact (congrArg (p47arrrll C L x3 x2 h) (funext fun x5 => funext fun x3 => funext fun x2 => funext fun h => (seqK_n _ _ _).trans (ep47arrrlr C L x5 x3 x2 h K)))
noncomputable def c47arrrr : Code := cR c47arrr
noncomputable def p47arrrr (C : CF) (L : Nat) {β : Type} (h : H) (kr : Value → H → Option β) : Option β :=
  kr (.bool true) h
theorem ep47arrrr (C : CF) (L : Nat) {β : Type} (h : H) (K : Ex → T Value → H → Option β) :
    execK Try.prog C L 0 169 [4] c47arrrr [4] [] (fs []) h K =
      p47arrrr C L h (fun x4 h => K .ret (fs [(4, x4)]) h) := by
  kernel_rfl
noncomputable def p47arrr (C : CF) (L : Nat) {β : Type} (x3 x2 : Value) (h : H) (kr : Value → H → Option β) : Option β :=
  p47arrrl C L x3 x2 h kr (fun h => p47arrrr C L h kr)
theorem ep47arrr (C : CF) (L : Nat) {β : Type} (x3 x2 : Value) (h : H) (K : Ex → T Value → H → Option β) :
    execK Try.prog C L 0 169 [4] c47arrr [4] [] (fs [(3, x3), (2, x2)]) h K =
      p47arrr C L x3 x2 h (fun x4 h => K .ret (fs [(4, x4)]) h) := by
  rw [execK_seq (a := c47arrrl) (b := c47arrrr) (by kernel_rfl) (show live [4] c47arrrr [4] [] = [] by kernel_rfl), ep47arrrl]
  unfold p47arrr
  exact (congr (congrArg (p47arrrl C L x3 x2 h) (funext fun x4 => funext fun h => seqK_r _ _ _)) (funext fun h => (seqK_n _ _ _).trans (ep47arrrr C L h K)))
noncomputable def p47arr (C : CF) (L : Nat) {β : Type} (x3 x2 : Value) (h : H) (kr : Value → H → Option β) : Option β :=
  p47arrl C L x3 x2 h kr (fun x3 x2 h => p47arrr C L x3 x2 h kr)
theorem ep47arr (C : CF) (L : Nat) {β : Type} (x3 x2 : Value) (h : H) (K : Ex → T Value → H → Option β) :
    execK Try.prog C L 0 169 [4] c47arr [4] [] (fs [(3, x3), (2, x2)]) h K =
      p47arr C L x3 x2 h (fun x4 h => K .ret (fs [(4, x4)]) h) := by
  rw [execK_seq (a := c47arrl) (b := c47arrr) (by kernel_rfl) (show live [4] c47arrr [4] [] = [3, 2] by kernel_rfl), ep47arrl]
  unfold p47arr
  exact (congr (congrArg (p47arrl C L x3 x2 h) (funext fun x4 => funext fun h => seqK_r _ _ _)) (funext fun x3 => funext fun x2 => funext fun h => (seqK_n _ _ _).trans (ep47arrr C L x3 x2 h K)))
noncomputable def p47ar (C : CF) (L : Nat) {β : Type} (x3 x2 : Value) (h : H) (kr : Value → H → Option β) : Option β :=
  p47arl C L x3 x2 h kr (fun x3 x2 h => p47arr C L x3 x2 h kr)
theorem ep47ar (C : CF) (L : Nat) {β : Type} (x3 x2 : Value) (h : H) (K : Ex → T Value → H → Option β) :
    execK Try.prog C L 0 169 [4] c47ar [4] [] (fs [(3, x3), (2, x2)]) h K =
      p47ar C L x3 x2 h (fun x4 h => K .ret (fs [(4, x4)]) h) := by
  rw [execK_seq (a := c47arl) (b := c47arr) (by kernel_rfl) (show live [4] c47arr [4] [] = [3, 2] by kernel_rfl), ep47arl]
  unfold p47ar
  exact (congr (congrArg (p47arl C L x3 x2 h) (funext fun x4 => funext fun h => seqK_r _ _ _)) (funext fun x3 => funext fun x2 => funext fun h => (seqK_n _ _ _).trans (ep47arr C L x3 x2 h K)))
noncomputable def p47a (C : CF) (L : Nat) {β : Type} (x0 x1 : Value) (h : H) (kr : Value → H → Option β) : Option β :=
  p47al C L x0 x1 h (fun x3 x2 h => p47ar C L x3 x2 h kr)
theorem ep47a (C : CF) (L : Nat) {β : Type} (x0 x1 : Value) (h : H) (K : Ex → T Value → H → Option β) :
    execK Try.prog C L 0 169 [4] c47a [4] [] (fs [(0, x0), (1, x1)]) h K =
      p47a C L x0 x1 h (fun x4 h => K .ret (fs [(4, x4)]) h) := by
  rw [execK_seq (a := c47al) (b := c47ar) (by kernel_rfl) (show live [4] c47ar [4] [] = [3, 2] by kernel_rfl), ep47al]
  unfold p47a
  exact (congrArg (p47al C L x0 x1 h) (funext fun x3 => funext fun x2 => funext fun h => (seqK_n _ _ _).trans (ep47ar C L x3 x2 h K)))
noncomputable def F47 (C : CF) (L : Nat) (x0 x1 : Value) (h : H) : Option (Value × H) :=
  p47a C L x0 x1 h
    (fun x4 h => some (x4, h))
theorem F47eq (O : List FuncId) (hO : O.any (Nat.beq 47) = false) (n : Nat) (x0 x1 : Value) (h : H) : callB Try.prog 0 O (n + 1) 47 [x0, x1] h = F47 (callB Try.prog 0 O n) n x0 x1 h := by
  rw [callB_eq hO (c := c47a) (nt := 169) (RR := [4]) (fr := (fs [(0, x0), (1, x1)])) Try.func47 (by kernel_rfl) (by kernel_rfl) (by kernel_rfl) (by kernel_rfl) (by kernel_rfl), ep47a]
  kernel_rfl
noncomputable def c48a : Code := (Try.f48.body).getD .skip
noncomputable def c48al : Code := cL c48a
noncomputable def p48al (C : CF) (L : Nat) {β : Type} (x0 x1 : Value) (h : H) (kn : Value → Value → H → Option β) : Option β :=
  kn x1 x0 h
theorem ep48al (C : CF) (L : Nat) {β : Type} (x0 x1 : Value) (h : H) (K : Ex → T Value → H → Option β) :
    execK Try.prog C L 0 26 [4] c48al [1, 0] [] (fs [(0, x0), (1, x1)]) h K =
      p48al C L x0 x1 h (fun x1 x0 h => K .normal (fs [(1, x1), (0, x0)]) h) := by
  kernel_rfl
noncomputable def c48ar : Code := cR c48a
noncomputable def c48arl : Code := cL c48ar
noncomputable def p48arl (C : CF) (L : Nat) {β : Type} (x1 x0 : Value) (h : H) (kr : Value → H → Option β) (kn : Value → Value → H → Option β) : Option β :=
  bnd (A.lenS x0) fun t7 =>
  bnd (A.lenS x1) fun t9 =>
  bnd (A.bin Try.prog .neq 3 t7 t9) fun t10 =>
  toBK t10 fun b =>
  (bif b then
  kr (.bool false) h
  else
  kn x1 x0 h)
theorem ep48arl (C : CF) (L : Nat) {β : Type} (x1 x0 : Value) (h : H) (K : Ex → T Value → H → Option β) :
    execK Try.prog C L 0 26 [4] c48arl [1, 0] [] (fs [(1, x1), (0, x0)]) h K =
      p48arl C L x1 x0 h (fun x4 h => K .ret (fs [(4, x4)]) h) (fun x1 x0 h => K .normal (fs [(1, x1), (0, x0)]) h) := by
  kernel_rfl
noncomputable def c48arr : Code := cR c48ar
noncomputable def c48arrl : Code := cL c48arr
noncomputable def c48arrll : Code := cL c48arrl
noncomputable def p48arrll (C : CF) (L : Nat) {β : Type} (x1 x0 : Value) (h : H) (kn : Value → Value → Value → H → Option β) : Option β :=
  kn (.int .i64 0) x1 x0 h
theorem ep48arrll (C : CF) (L : Nat) {β : Type} (x1 x0 : Value) (h : H) (K : Ex → T Value → H → Option β) :
    execK Try.prog C L 0 26 [4] c48arrll [5, 1, 0] [] (fs [(1, x1), (0, x0)]) h K =
      p48arrll C L x1 x0 h (fun x5 x1 x0 h => K .normal (fs [(5, x5), (1, x1), (0, x0)]) h) := by
  kernel_rfl
noncomputable def c48arrlr : Code := cR c48arrl
noncomputable def c48arrlrb : Code := cL c48arrlr
noncomputable def c48arrlrbo : Code := cL c48arrlrb
noncomputable def p48arrlrbo (C : CF) (L : Nat) {β : Type} (x5 x1 x0 : Value) (h : H) (kr : Value → H → Option β) (kn : Value → Value → Value → H → Option β) (kx0 : H → Option β) : Option β :=
  bnd (A.lenS x0) fun t13 =>
  bnd (A.bin Try.prog .lss 3 x5 t13) fun t14 =>
  toBK t14 fun b =>
  (bif b then
  bnd (A.idxS 4 x0 x5) fun t19 =>
  bnd (A.load true 4 t19 h) fun t20 =>
  bnd (A.idxS 4 x1 x5) fun t23 =>
  bnd (A.load true 4 t23 h) fun t24 =>
  bnd (A.bin Try.prog .neq 63 t20 t24) fun t25 =>
  toBK t25 fun bq1 =>
  (bif bq1 then
  kr (.bool false) h
  else
  bnd (A.bin Try.prog .add 3 x5 (.int .i64 1)) fun t16 =>
  kn t16 x1 x0 h)
  else
  kx0 h)
theorem ep48arrlrbo (C : CF) (L : Nat) {β : Type} (x5 x1 x0 : Value) (h : H) (K : Ex → T Value → H → Option β) :
    execK Try.prog C L 0 26 [4] c48arrlrbo [5, 1, 0] [(0, [])] (fs [(5, x5), (1, x1), (0, x0)]) h K =
      p48arrlrbo C L x5 x1 x0 h (fun x4 h => K .ret (fs [(4, x4)]) h) (fun x5 x1 x0 h => K .normal (fs [(5, x5), (1, x1), (0, x0)]) h) (fun h => K (.exit 0) (fs []) h) := by
  kernel_rfl
noncomputable def p48arrlrbw (C : CF) (L : Nat) {β : Type} (kr : Value → H → Option β) (kx0 : H → Option β) : Nat → Value → Value → Value → H → Option β
  | 0, _, _, _, _ => none
  | n + 1, x5, x1, x0, h => p48arrlrbo C L x5 x1 x0 h kr (fun x5 x1 x0 h => p48arrlrbw C L kr kx0 n x5 x1 x0 h) kx0
theorem ep48arrlrbw (C : CF) (L : Nat) {β : Type} (K : Ex → T Value → H → Option β) : ∀ (n : Nat) (x5 x1 x0 : Value) (h : H),
    loopK (fun fr h K => execK Try.prog C L 0 26 [4] c48arrlrbo [5, 1, 0] [(0, [])] fr h K) n (fs [(5, x5), (1, x1), (0, x0)]) h K =
      p48arrlrbw C L (fun x4 h => K .ret (fs [(4, x4)]) h) (fun h => K (.exit 0) (fs []) h) n x5 x1 x0 h := by
  intro n
  induction n with
  | zero => intros; rfl
  | succ n ih =>
    intros
    simp only [loopK]
    rw [ep48arrlrbo]
    simp only [seqK_n, seqK_x, seqK_r, ih]
    rfl
noncomputable def p48arrlrb (C : CF) (L : Nat) {β : Type} (x5 x1 x0 : Value) (h : H) (kr : Value → H → Option β) (kx0 : H → Option β) : Option β :=
  p48arrlrbw C L kr kx0 L x5 x1 x0 h
theorem ep48arrlrb (C : CF) (L : Nat) {β : Type} (x5 x1 x0 : Value) (h : H) (K : Ex → T Value → H → Option β) :
    execK Try.prog C L 0 26 [4] c48arrlrb [] [(0, [])] (fs [(5, x5), (1, x1), (0, x0)]) h K =
      p48arrlrb C L x5 x1 x0 h (fun x4 h => K .ret (fs [(4, x4)]) h) (fun h => K (.exit 0) (fs []) h) := by
  rw [execK_loop (b := c48arrlrbo) (fr1 := (fs [(5, x5), (1, x1), (0, x0)])) (by kernel_rfl) (show live [4] c48arrlrbo [] [(0, [])] = [5, 1, 0] by kernel_rfl) (by kernel_rfl), ep48arrlrbw]
  unfold p48arrlrb
  rfl
noncomputable def p48arrlr (C : CF) (L : Nat) {β : Type} (x5 x1 x0 : Value) (h : H) (kr : Value → H → Option β) (kn : H → Option β) : Option β :=
  p48arrlrb C L x5 x1 x0 h kr kn
theorem ep48arrlr (C : CF) (L : Nat) {β : Type} (x5 x1 x0 : Value) (h : H) (K : Ex → T Value → H → Option β) :
    execK Try.prog C L 0 26 [4] c48arrlr [] [] (fs [(5, x5), (1, x1), (0, x0)]) h K =
      p48arrlr C L x5 x1 x0 h (fun x4 h => K .ret (fs [(4, x4)]) h) (fun h => K .normal (fs []) h) := by
  rw [execK_block (b := c48arrlrb) (id := 0) (by kernel_rfl), ep48arrlrb]
  unfold p48arrlr
  rfl
noncomputable def p48arrl (C : CF) (L : Nat) {β : Type} (x1 x0 : Value) (h : H) (kr : Value → H → Option β) (kn : H → Option β) : Option β :=
  p48arrll C L x1 x0 h (fun x5 x1 x0 h => p48arrlr C L x5 x1 x0 h kr kn)
theorem ep48arrl (C : CF) (L : Nat) {β : Type} (x1 x0 : Value) (h : H) (K : Ex → T Value → H → Option β) :
    execK Try.prog C L 0 26 [4] c48arrl [] [] (fs [(1, x1), (0, x0)]) h K =
      p48arrl C L x1 x0 h (fun x4 h => K .ret (fs [(4, x4)]) h) (fun h => K .normal (fs []) h) := by
  rw [execK_seq (a := c48arrll) (b := c48arrlr) (by kernel_rfl) (show live [4] c48arrlr [] [] = [5, 1, 0] by kernel_rfl), ep48arrll]
  unfold p48arrl
  exact (congrArg (p48arrll C L x1 x0 h) (funext fun x5 => funext fun x1 => funext fun x0 => funext fun h => (seqK_n _ _ _).trans (ep48arrlr C L x5 x1 x0 h K)))
noncomputable def c48arrr : Code := cR c48arr
noncomputable def p48arrr (C : CF) (L : Nat) {β : Type} (h : H) (kr : Value → H → Option β) : Option β :=
  kr (.bool true) h
theorem ep48arrr (C : CF) (L : Nat) {β : Type} (h : H) (K : Ex → T Value → H → Option β) :
    execK Try.prog C L 0 26 [4] c48arrr [4] [] (fs []) h K =
      p48arrr C L h (fun x4 h => K .ret (fs [(4, x4)]) h) := by
  kernel_rfl
noncomputable def p48arr (C : CF) (L : Nat) {β : Type} (x1 x0 : Value) (h : H) (kr : Value → H → Option β) : Option β :=
  p48arrl C L x1 x0 h kr (fun h => p48arrr C L h kr)
theorem ep48arr (C : CF) (L : Nat) {β : Type} (x1 x0 : Value) (h : H) (K : Ex → T Value → H → Option β) :
    execK Try.prog C L 0 26 [4] c48arr [4] [] (fs [(1, x1), (0, x0)]) h K =
      p48arr C L x1 x0 h (fun x4 h => K .ret (fs [(4, x4)]) h) := by
  rw [execK_seq (a := c48arrl) (b := c48arrr) (by kernel_rfl) (show live [4] c48arrr [4] [] = [] by kernel_rfl), ep48arrl]
  unfold p48arr
  exact (congr (congrArg (p48arrl C L x1 x0 h) (funext fun x4 => funext fun h => seqK_r _ _ _)) (funext fun h => (seqK_n _ _ _).trans (ep48arrr C L h K)))
noncomputable def p48ar (C : CF) (L : Nat) {β : Type} (x1 x0 : Value) (h : H) (kr : Value → H → Option β) : Option β :=
  p48arl C L x1 x0 h kr (fun x1 x0 h => p48arr C L x1 x0 h kr)
theorem ep48ar (C : CF) (L : Nat) {β : Type} (x1 x0 : Value) (h : H) (K : Ex → T Value → H → Option β) :
    execK Try.prog C L 0 26 [4] c48ar [4] [] (fs [(1, x1), (0, x0)]) h K =
      p48ar C L x1 x0 h (fun x4 h => K .ret (fs [(4, x4)]) h) := by
  rw [execK_seq (a := c48arl) (b := c48arr) (by kernel_rfl) (show live [4] c48arr [4] [] = [1, 0] by kernel_rfl), ep48arl]
  unfold p48ar
  exact (congr (congrArg (p48arl C L x1 x0 h) (funext fun x4 => funext fun h => seqK_r _ _ _)) (funext fun x1 => funext fun x0 => funext fun h => (seqK_n _ _ _).trans (ep48arr C L x1 x0 h K)))
noncomputable def p48a (C : CF) (L : Nat) {β : Type} (x0 x1 : Value) (h : H) (kr : Value → H → Option β) : Option β :=
  p48al C L x0 x1 h (fun x1 x0 h => p48ar C L x1 x0 h kr)
theorem ep48a (C : CF) (L : Nat) {β : Type} (x0 x1 : Value) (h : H) (K : Ex → T Value → H → Option β) :
    execK Try.prog C L 0 26 [4] c48a [4] [] (fs [(0, x0), (1, x1)]) h K =
      p48a C L x0 x1 h (fun x4 h => K .ret (fs [(4, x4)]) h) := by
  rw [execK_seq (a := c48al) (b := c48ar) (by kernel_rfl) (show live [4] c48ar [4] [] = [1, 0] by kernel_rfl), ep48al]
  unfold p48a
  exact (congrArg (p48al C L x0 x1 h) (funext fun x1 => funext fun x0 => funext fun h => (seqK_n _ _ _).trans (ep48ar C L x1 x0 h K)))
noncomputable def F48 (C : CF) (L : Nat) (x0 x1 : Value) (h : H) : Option (Value × H) :=
  p48a C L x0 x1 h
    (fun x4 h => some (x4, h))
theorem F48eq (O : List FuncId) (hO : O.any (Nat.beq 48) = false) (n : Nat) (x0 x1 : Value) (h : H) : callB Try.prog 0 O (n + 1) 48 [x0, x1] h = F48 (callB Try.prog 0 O n) n x0 x1 h := by
  rw [callB_eq hO (c := c48a) (nt := 26) (RR := [4]) (fr := (fs [(0, x0), (1, x1)])) Try.func48 (by kernel_rfl) (by kernel_rfl) (by kernel_rfl) (by kernel_rfl) (by kernel_rfl), ep48a]
  kernel_rfl
noncomputable def c49a : Code := (Try.f49.body).getD .skip
noncomputable def c49al : Code := cL c49a
noncomputable def p49al (C : CF) (L : Nat) {β : Type} (x0 x1 : Value) (h : H) (kn : Value → Value → H → Option β) : Option β :=
  kn x1 x0 h
theorem ep49al (C : CF) (L : Nat) {β : Type} (x0 x1 : Value) (h : H) (K : Ex → T Value → H → Option β) :
    execK Try.prog C L 0 27 [4] c49al [1, 0] [] (fs [(0, x0), (1, x1)]) h K =
      p49al C L x0 x1 h (fun x1 x0 h => K .normal (fs [(1, x1), (0, x0)]) h) := by
  kernel_rfl
noncomputable def c49ar : Code := cR c49a
noncomputable def c49arl : Code := cL c49ar
noncomputable def p49arl (C : CF) (L : Nat) {β : Type} (x1 x0 : Value) (h : H) (kr : Value → H → Option β) (kn : Value → Value → H → Option β) : Option β :=
  bnd (A.lenS x0) fun t7 =>
  bnd (A.lenS x1) fun t9 =>
  bnd (A.bin Try.prog .neq 3 t7 t9) fun t10 =>
  toBK t10 fun b =>
  (bif b then
  kr (.bool false) h
  else
  kn x1 x0 h)
theorem ep49arl (C : CF) (L : Nat) {β : Type} (x1 x0 : Value) (h : H) (K : Ex → T Value → H → Option β) :
    execK Try.prog C L 0 27 [4] c49arl [1, 0] [] (fs [(1, x1), (0, x0)]) h K =
      p49arl C L x1 x0 h (fun x4 h => K .ret (fs [(4, x4)]) h) (fun x1 x0 h => K .normal (fs [(1, x1), (0, x0)]) h) := by
  kernel_rfl
noncomputable def c49arr : Code := cR c49ar
noncomputable def c49arrl : Code := cL c49arr
noncomputable def c49arrll : Code := cL c49arrl
noncomputable def p49arrll (C : CF) (L : Nat) {β : Type} (x1 x0 : Value) (h : H) (kn : Value → Value → Value → H → Option β) : Option β :=
  kn (.int .i64 0) x1 x0 h
theorem ep49arrll (C : CF) (L : Nat) {β : Type} (x1 x0 : Value) (h : H) (K : Ex → T Value → H → Option β) :
    execK Try.prog C L 0 27 [4] c49arrll [5, 1, 0] [] (fs [(1, x1), (0, x0)]) h K =
      p49arrll C L x1 x0 h (fun x5 x1 x0 h => K .normal (fs [(5, x5), (1, x1), (0, x0)]) h) := by
  kernel_rfl
noncomputable def c49arrlr : Code := cR c49arrl
noncomputable def c49arrlrb : Code := cL c49arrlr
noncomputable def c49arrlrbo : Code := cL c49arrlrb
noncomputable def p49arrlrbo (C : CF) (L : Nat) {β : Type} (x5 x1 x0 : Value) (h : H) (kr : Value → H → Option β) (kn : Value → Value → Value → H → Option β) (kx0 : H → Option β) : Option β :=
  bnd (A.lenS x0) fun t13 =>
  bnd (A.bin Try.prog .lss 3 x5 t13) fun t14 =>
  toBK t14 fun b =>
  (bif b then
  bnd (A.idxS 24 x0 x5) fun t19 =>
  bnd (A.load true 24 t19 h) fun t20 =>
  bnd (A.idxS 24 x1 x5) fun t23 =>
  bnd (A.load true 24 t23 h) fun t24 =>
  bnd2 (C 47 [t20, t24] h) fun t25 hq1 =>
  toBK t25 fun bq1 =>
  bnd (A.un Try.prog .not (.bool bq1)) fun t26 =>
  toBK t26 fun bq2 =>
  (bif bq2 then
  kr (.bool false) hq1
  else
  bnd (A.bin Try.prog .add 3 x5 (.int .i64 1)) fun t16 =>
  kn t16 x1 x0 hq1)
  else
  kx0 h)
theorem ep49arrlrbo (C : CF) (L : Nat) {β : Type} (x5 x1 x0 : Value) (h : H) (K : Ex → T Value → H → Option β) :
    execK Try.prog C L 0 27 [4] c49arrlrbo [5, 1, 0] [(0, [])] (fs [(5, x5), (1, x1), (0, x0)]) h K =
      p49arrlrbo C L x5 x1 x0 h (fun x4 h => K .ret (fs [(4, x4)]) h) (fun x5 x1 x0 h => K .normal (fs [(5, x5), (1, x1), (0, x0)]) h) (fun h => K (.exit 0) (fs []) h) := by
  kernel_rfl
noncomputable def p49arrlrbw (C : CF) (L : Nat) {β : Type} (kr : Value → H → Option β) (kx0 : H → Option β) : Nat → Value → Value → Value → H → Option β
  | 0, _, _, _, _ => none
  | n + 1, x5, x1, x0, h => p49arrlrbo C L x5 x1 x0 h kr (fun x5 x1 x0 h => p49arrlrbw C L kr kx0 n x5 x1 x0 h) kx0
theorem ep49arrlrbw (C : CF) (L : Nat) {β : Type} (K : Ex → T Value → H → Option β) : ∀ (n : Nat) (x5 x1 x0 : Value) (h : H),
    loopK (fun fr h K => execK Try.prog C L 0 27 [4] c49arrlrbo [5, 1, 0] [(0, [])] fr h K) n (fs [(5, x5), (1, x1), (0, x0)]) h K =
      p49arrlrbw C L (fun x4 h => K .ret (fs [(4, x4)]) h) (fun h => K (.exit 0) (fs []) h) n x5 x1 x0 h := by
  intro n
  induction n with
  | zero => intros; rfl
  | succ n ih =>
    intros
    simp only [loopK]
    rw [ep49arrlrbo]
    simp only [seqK_n, seqK_x, seqK_r, ih]
    rfl
noncomputable def p49arrlrb (C : CF) (L : Nat) {β : Type} (x5 x1 x0 : Value) (h : H) (kr : Value → H → Option β) (kx0 : H → Option β) : Option β :=
  p49arrlrbw C L kr kx0 L x5 x1 x0 h
theorem ep49arrlrb (C : CF) (L : Nat) {β : Type} (x5 x1 x0 : Value) (h : H) (K : Ex → T Value → H → Option β) :
    execK Try.prog C L 0 27 [4] c49arrlrb [] [(0, [])] (fs [(5, x5), (1, x1), (0, x0)]) h K =
      p49arrlrb C L x5 x1 x0 h (fun x4 h => K .ret (fs [(4, x4)]) h) (fun h => K (.exit 0) (fs []) h) := by
  rw [execK_loop (b := c49arrlrbo) (fr1 := (fs [(5, x5), (1, x1), (0, x0)])) (by kernel_rfl) (show live [4] c49arrlrbo [] [(0, [])] = [5, 1, 0] by kernel_rfl) (by kernel_rfl), ep49arrlrbw]
  unfold p49arrlrb
  rfl
noncomputable def p49arrlr (C : CF) (L : Nat) {β : Type} (x5 x1 x0 : Value) (h : H) (kr : Value → H → Option β) (kn : H → Option β) : Option β :=
  p49arrlrb C L x5 x1 x0 h kr kn
theorem ep49arrlr (C : CF) (L : Nat) {β : Type} (x5 x1 x0 : Value) (h : H) (K : Ex → T Value → H → Option β) :
    execK Try.prog C L 0 27 [4] c49arrlr [] [] (fs [(5, x5), (1, x1), (0, x0)]) h K =
      p49arrlr C L x5 x1 x0 h (fun x4 h => K .ret (fs [(4, x4)]) h) (fun h => K .normal (fs []) h) := by
  rw [execK_block (b := c49arrlrb) (id := 0) (by kernel_rfl), ep49arrlrb]
  unfold p49arrlr
  rfl
noncomputable def p49arrl (C : CF) (L : Nat) {β : Type} (x1 x0 : Value) (h : H) (kr : Value → H → Option β) (kn : H → Option β) : Option β :=
  p49arrll C L x1 x0 h (fun x5 x1 x0 h => p49arrlr C L x5 x1 x0 h kr kn)
theorem ep49arrl (C : CF) (L : Nat) {β : Type} (x1 x0 : Value) (h : H) (K : Ex → T Value → H → Option β) :
    execK Try.prog C L 0 27 [4] c49arrl [] [] (fs [(1, x1), (0, x0)]) h K =
      p49arrl C L x1 x0 h (fun x4 h => K .ret (fs [(4, x4)]) h) (fun h => K .normal (fs []) h) := by
  rw [execK_seq (a := c49arrll) (b := c49arrlr) (by kernel_rfl) (show live [4] c49arrlr [] [] = [5, 1, 0] by kernel_rfl), ep49arrll]
  unfold p49arrl
  exact (congrArg (p49arrll C L x1 x0 h) (funext fun x5 => funext fun x1 => funext fun x0 => funext fun h => (seqK_n _ _ _).trans (ep49arrlr C L x5 x1 x0 h K)))
noncomputable def c49arrr : Code := cR c49arr
noncomputable def p49arrr (C : CF) (L : Nat) {β : Type} (h : H) (kr : Value → H → Option β) : Option β :=
  kr (.bool true) h
theorem ep49arrr (C : CF) (L : Nat) {β : Type} (h : H) (K : Ex → T Value → H → Option β) :
    execK Try.prog C L 0 27 [4] c49arrr [4] [] (fs []) h K =
      p49arrr C L h (fun x4 h => K .ret (fs [(4, x4)]) h) := by
  kernel_rfl
noncomputable def p49arr (C : CF) (L : Nat) {β : Type} (x1 x0 : Value) (h : H) (kr : Value → H → Option β) : Option β :=
  p49arrl C L x1 x0 h kr (fun h => p49arrr C L h kr)
theorem ep49arr (C : CF) (L : Nat) {β : Type} (x1 x0 : Value) (h : H) (K : Ex → T Value → H → Option β) :
    execK Try.prog C L 0 27 [4] c49arr [4] [] (fs [(1, x1), (0, x0)]) h K =
      p49arr C L x1 x0 h (fun x4 h => K .ret (fs [(4, x4)]) h) := by
  rw [execK_seq (a := c49arrl) (b := c49arrr) (by kernel_rfl) (show live [4] c49arrr [4] [] = [] by kernel_rfl), ep49arrl]
  unfold p49arr
  exact (congr (congrArg (p49arrl C L x1 x0 h) (funext fun x4 => funext fun h => seqK_r _ _ _)) (funext fun h => (seqK_n _ _ _).trans (ep49arrr C L h K)))
noncomputable def p49ar (C : CF) (L : Nat) {β : Type} (x1 x0 : Value) (h : H) (kr : Value → H → Option β) : Option β :=
  p49arl C L x1 x0 h kr (fun x1 x0 h => p49arr C L x1 x0 h kr)
theorem ep49ar (C : CF) (L : Nat) {β : Type} (x1 x0 : Value) (h : H) (K : Ex → T Value → H → Option β) :
    execK Try.prog C L 0 27 [4] c49ar [4] [] (fs [(1, x1), (0, x0)]) h K =
      p49ar C L x1 x0 h (fun x4 h => K .ret (fs [(4, x4)]) h) := by
  rw [execK_seq (a := c49arl) (b := c49arr) (by kernel_rfl) (show live [4] c49arr [4] [] = [1, 0] by kernel_rfl), ep49arl]
  unfold p49ar
  exact (congr (congrArg (p49arl C L x1 x0 h) (funext fun x4 => funext fun h => seqK_r _ _ _)) (funext fun x1 => funext fun x0 => funext fun h => (seqK_n _ _ _).trans (ep49arr C L x1 x0 h K)))
noncomputable def p49a (C : CF) (L : Nat) {β : Type} (x0 x1 : Value) (h : H) (kr : Value → H → Option β) : Option β :=
  p49al C L x0 x1 h (fun x1 x0 h => p49ar C L x1 x0 h kr)
theorem ep49a (C : CF) (L : Nat) {β : Type} (x0 x1 : Value) (h : H) (K : Ex → T Value → H → Option β) :
    execK Try.prog C L 0 27 [4] c49a [4] [] (fs [(0, x0), (1, x1)]) h K =
      p49a C L x0 x1 h (fun x4 h => K .ret (fs [(4, x4)]) h) := by
  rw [execK_seq (a := c49al) (b := c49ar) (by kernel_rfl) (show live [4] c49ar [4] [] = [1, 0] by kernel_rfl), ep49al]
  unfold p49a
  exact (congrArg (p49al C L x0 x1 h) (funext fun x1 => funext fun x0 => funext fun h => (seqK_n _ _ _).trans (ep49ar C L x1 x0 h K)))
noncomputable def F49 (C : CF) (L : Nat) (x0 x1 : Value) (h : H) : Option (Value × H) :=
  p49a C L x0 x1 h
    (fun x4 h => some (x4, h))
theorem F49eq (O : List FuncId) (hO : O.any (Nat.beq 49) = false) (n : Nat) (x0 x1 : Value) (h : H) : callB Try.prog 0 O (n + 1) 49 [x0, x1] h = F49 (callB Try.prog 0 O n) n x0 x1 h := by
  rw [callB_eq hO (c := c49a) (nt := 27) (RR := [4]) (fr := (fs [(0, x0), (1, x1)])) Try.func49 (by kernel_rfl) (by kernel_rfl) (by kernel_rfl) (by kernel_rfl) (by kernel_rfl), ep49a]
  kernel_rfl
end Go.Proofs.Ytdjhkdogpbiglaa.MailD7
