import Derived.Test.YtdjhkdogpbiglaaProg
import Derived.Test.YtdjhkdogpbiglaaAmDec
set_option linter.unusedVariables false
set_option maxRecDepth 100000
namespace Go.Proofs.Ytdjhkdogpbiglaa.MailD
open Go Go.AM
noncomputable def Z55L : List Value := [(.slice none 0 0)]
noncomputable def Z3L : List Value := [(.int .i64 0)]
noncomputable def Z48L : List Value := [(.int .i64 0), (.int .i64 0), (.slice none 0 0), (.slice none 0 0), (.int .i64 0)]
noncomputable def Z29L : List Value := [(.slice none 0 0)]
noncomputable def Z71 : Value := (.agg ⟨[(.int .u8 0), (.int .i64 0), (.int .i64 0), (.string ⟨⟨[]⟩⟩), (.string ⟨⟨[]⟩⟩), (.int .u8 0), (.bool false), (.int .u8 0), (.bool false), (.int .u16 0), (.string ⟨⟨[]⟩⟩), (.string ⟨⟨[]⟩⟩), (.int .u8 0), (.bool false), (.int .u16 0), (.string ⟨⟨[]⟩⟩), (.bool false), (.string ⟨⟨[]⟩⟩), (.string ⟨⟨[]⟩⟩), (.int .u8 0), (.bool false), (.bool false), (.bool false), (.string ⟨⟨[]⟩⟩), (.string ⟨⟨[]⟩⟩), (.bool false), (.int .u8 0), (.slice none 0 0), (.string ⟨⟨[]⟩⟩), (.string ⟨⟨[]⟩⟩), (.string ⟨⟨[]⟩⟩), (.int .u8 0), (.bool false), (.slice none 0 0), (.slice none 0 0), (.slice none 0 0), (.int .i64 0), (.int .i64 0)]⟩)
noncomputable def Z71L : List Value := [(.int .u8 0), (.int .i64 0), (.int .i64 0), (.string ⟨⟨[]⟩⟩), (.string ⟨⟨[]⟩⟩), (.int .u8 0), (.bool false), (.int .u8 0), (.bool false), (.int .u16 0), (.string ⟨⟨[]⟩⟩), (.string ⟨⟨[]⟩⟩), (.int .u8 0), (.bool false), (.int .u16 0), (.string ⟨⟨[]⟩⟩), (.bool false), (.string ⟨⟨[]⟩⟩), (.string ⟨⟨[]⟩⟩), (.int .u8 0), (.bool false), (.bool false), (.bool false), (.string ⟨⟨[]⟩⟩), (.string ⟨⟨[]⟩⟩), (.bool false), (.int .u8 0), (.slice none 0 0), (.string ⟨⟨[]⟩⟩), (.string ⟨⟨[]⟩⟩), (.string ⟨⟨[]⟩⟩), (.int .u8 0), (.bool false), (.slice none 0 0), (.slice none 0 0), (.slice none 0 0), (.int .i64 0), (.int .i64 0)]
noncomputable def Z66 : Value := (.agg ⟨[(.int .u8 0), (.bool false), (.int .u8 0), (.bool false), (.int .u16 0), (.string ⟨⟨[]⟩⟩), (.string ⟨⟨[]⟩⟩), (.int .u8 0), (.bool false), (.int .u16 0), (.string ⟨⟨[]⟩⟩), (.bool false), (.string ⟨⟨[]⟩⟩), (.string ⟨⟨[]⟩⟩), (.int .u8 0), (.bool false), (.bool false), (.bool false), (.string ⟨⟨[]⟩⟩), (.string ⟨⟨[]⟩⟩), (.bool false), (.int .u8 0), (.slice none 0 0), (.string ⟨⟨[]⟩⟩)]⟩)
noncomputable def Z66L : List Value := [(.int .u8 0), (.bool false), (.int .u8 0), (.bool false), (.int .u16 0), (.string ⟨⟨[]⟩⟩), (.string ⟨⟨[]⟩⟩), (.int .u8 0), (.bool false), (.int .u16 0), (.string ⟨⟨[]⟩⟩), (.bool false), (.string ⟨⟨[]⟩⟩), (.string ⟨⟨[]⟩⟩), (.int .u8 0), (.bool false), (.bool false), (.bool false), (.string ⟨⟨[]⟩⟩), (.string ⟨⟨[]⟩⟩), (.bool false), (.int .u8 0), (.slice none 0 0), (.string ⟨⟨[]⟩⟩)]
noncomputable def Z63L : List Value := [(.string ⟨⟨[]⟩⟩), (.string ⟨⟨[]⟩⟩), (.int .u8 0), (.bool false)]
noncomputable def Z9L : List Value := [(.string ⟨⟨[]⟩⟩)]
noncomputable def c8a : Code := (Try.f8.body).getD .skip
noncomputable def c8al : Code := cL c8a
noncomputable def p8al (C : CF) (L : Nat) {β : Type} (x0 : Value) (h : H) (kn : Value → H → Option β) : Option β :=
  kn x0 h
theorem ep8al (C : CF) (L : Nat) {β : Type} (x0 : Value) (h : H) (K : Ex → T Value → H → Option β) :
    execK Try.prog C L 0 19 [2] c8al [0] [] (fs [(0, x0)]) h K =
      p8al C L x0 h (fun x0 h => K .normal (fs [(0, x0)]) h) := by
  kernel_rfl
noncomputable def c8ar : Code := cR c8a
noncomputable def c8arl : Code := cL c8ar
noncomputable def p8arl (C : CF) (L : Nat) {β : Type} (x0 : Value) (h : H) (kr : Value → H → Option β) (kn : Value → H → Option β) : Option β :=
  bnd (A.lenS x0) fun t5 =>
  bnd (A.bin Try.prog .gtr 3 t5 (.int .i64 300)) fun t6 =>
  toBK t6 fun b =>
  (bif b then
  kr (.bool true) h
  else
  kn x0 h)
theorem ep8arl (C : CF) (L : Nat) {β : Type} (x0 : Value) (h : H) (K : Ex → T Value → H → Option β) :
    execK Try.prog C L 0 19 [2] c8arl [0] [] (fs [(0, x0)]) h K =
      p8arl C L x0 h (fun x2 h => K .ret (fs [(2, x2)]) h) (fun x0 h => K .normal (fs [(0, x0)]) h) := by
  kernel_rfl
noncomputable def c8arr : Code := cR c8ar
noncomputable def c8arrl : Code := cL c8arr
noncomputable def c8arrll : Code := cL c8arrl
noncomputable def p8arrll (C : CF) (L : Nat) {β : Type} (x0 : Value) (h : H) (kn : Value → Value → H → Option β) : Option β :=
  kn (.int .i64 0) x0 h
theorem ep8arrll (C : CF) (L : Nat) {β : Type} (x0 : Value) (h : H) (K : Ex → T Value → H → Option β) :
    execK Try.prog C L 0 19 [2] c8arrll [3, 0] [] (fs [(0, x0)]) h K =
      p8arrll C L x0 h (fun x3 x0 h => K .normal (fs [(3, x3), (0, x0)]) h) := by
  kernel_rfl
noncomputable def c8arrlr : Code := cR c8arrl
noncomputable def c8arrlrb : Code := cL c8arrlr
noncomputable def c8arrlrbo : Code := cL c8arrlrb
noncomputable def p8arrlrbo (C : CF) (L : Nat) {β : Type} (x3 x0 : Value) (h : H) (kr : Value → H → Option β) (kn : Value → Value → H → Option β) (kx0 : H → Option β) : Option β :=
  bnd (A.lenS x0) fun t9 =>
  bnd (A.bin Try.prog .lss 3 x3 t9) fun t10 =>
  toBK t10 fun b =>
  (bif b then
  bnd (A.idxS 5 x0 x3) fun t15 =>
  bnd (A.fieldAddr 4 t15) fun t16 =>
  bnd (A.load false 1 t16 h) fun t17 =>
  bnd2 (C 33 [t17] h) fun t18 hq1 =>
  toBK t18 fun bq1 =>
  (bif bq1 then
  kr (.bool true) hq1
  else
  bnd (A.bin Try.prog .add 3 x3 (.int .i64 1)) fun t12 =>
  kn t12 x0 hq1)
  else
  kx0 h)
theorem ep8arrlrbo (C : CF) (L : Nat) {β : Type} (x3 x0 : Value) (h : H) (K : Ex → T Value → H → Option β) :
    execK Try.prog C L 0 19 [2] c8arrlrbo [3, 0] [(0, [])] (fs [(3, x3), (0, x0)]) h K =
      p8arrlrbo C L x3 x0 h (fun x2 h => K .ret (fs [(2, x2)]) h) (fun x3 x0 h => K .normal (fs [(3, x3), (0, x0)]) h) (fun h => K (.exit 0) (fs []) h) := by
  kernel_rfl
noncomputable def p8arrlrbw (C : CF) (L : Nat) {β : Type} (kr : Value → H → Option β) (kx0 : H → Option β) : Nat → Value → Value → H → Option β
  | 0, _, _, _ => none
  | n + 1, x3, x0, h => p8arrlrbo C L x3 x0 h kr (fun x3 x0 h => p8arrlrbw C L kr kx0 n x3 x0 h) kx0
theorem ep8arrlrbw (C : CF) (L : Nat) {β : Type} (K : Ex → T Value → H → Option β) : ∀ (n : Nat) (x3 x0 : Value) (h : H),
    loopK (fun fr h K => execK Try.prog C L 0 19 [2] c8arrlrbo [3, 0] [(0, [])] fr h K) n (fs [(3, x3), (0, x0)]) h K =
      p8arrlrbw C L (fun x2 h => K .ret (fs [(2, x2)]) h) (fun h => K (.exit 0) (fs []) h) n x3 x0 h := by
  intro n
  induction n with
  | zero => intros; rfl
  | succ n ih =>
    intros
    simp only [loopK]
    rw [ep8arrlrbo]
    simp only [seqK_n, seqK_x, seqK_r, ih]
    rfl
noncomputable def p8arrlrb (C : CF) (L : Nat) {β : Type} (x3 x0 : Value) (h : H) (kr : Value → H → Option β) (kx0 : H → Option β) : Option β :=
  p8arrlrbw C L kr kx0 L x3 x0 h
theorem ep8arrlrb (C : CF) (L : Nat) {β : Type} (x3 x0 : Value) (h : H) (K : Ex → T Value → H → Option β) :
    execK Try.prog C L 0 19 [2] c8arrlrb [] [(0, [])] (fs [(3, x3), (0, x0)]) h K =
      p8arrlrb C L x3 x0 h (fun x2 h => K .ret (fs [(2, x2)]) h) (fun h => K (.exit 0) (fs []) h) := by
  rw [execK_loop (b := c8arrlrbo) (fr1 := (fs [(3, x3), (0, x0)])) (by kernel_rfl) (show live [2] c8arrlrbo [] [(0, [])] = [3, 0] by kernel_rfl) (by kernel_rfl), ep8arrlrbw]
  unfold p8arrlrb
  rfl
noncomputable def p8arrlr (C : CF) (L : Nat) {β : Type} (x3 x0 : Value) (h : H) (kr : Value → H → Option β) (kn : H → Option β) : Option β :=
  p8arrlrb C L x3 x0 h kr kn
theorem ep8arrlr (C : CF) (L : Nat) {β : Type} (x3 x0 : Value) (h : H) (K : Ex → T Value → H → Option β) :
    execK Try.prog C L 0 19 [2] c8arrlr [] [] (fs [(3, x3), (0, x0)]) h K =
      p8arrlr C L x3 x0 h (fun x2 h => K .ret (fs [(2, x2)]) h) (fun h => K .normal (fs []) h) := by
  rw [execK_block (b := c8arrlrb) (id := 0) (by kernel_rfl), ep8arrlrb]
  unfold p8arrlr
  rfl
noncomputable def p8arrl (C : CF) (L : Nat) {β : Type} (x0 : Value) (h : H) (kr : Value → H → Option β) (kn : H → Option β) : Option β :=
  p8arrll C L x0 h (fun x3 x0 h => p8arrlr C L x3 x0 h kr kn)
theorem ep8arrl (C : CF) (L : Nat) {β : Type} (x0 : Value) (h : H) (K : Ex → T Value → H → Option β) :
    execK Try.prog C L 0 19 [2] c8arrl [] [] (fs [(0, x0)]) h K =
      p8arrl C L x0 h (fun x2 h => K .ret (fs [(2, x2)]) h) (fun h => K .normal (fs []) h) := by
  rw [execK_seq (a := c8arrll) (b := c8arrlr) (by kernel_rfl) (show live [2] c8arrlr [] [] = [3, 0] by kernel_rfl), ep8arrll]
  unfold p8arrl
  exact (congrArg (p8arrll C L x0 h) (funext fun x3 => funext fun x0 => funext fun h => (seqK_n _ _ _).trans (ep8arrlr C L x3 x0 h K)))
noncomputable def c8arrr : Code := cR c8arr
noncomputable def p8arrr (C : CF) (L : Nat) {β : Type} (h : H) (kr : Value → H → Option β) : Option β :=
  kr (.bool false) h
theorem ep8arrr (C : CF) (L : Nat) {β : Type} (h : H) (K : Ex → T Value → H → Option β) :
    execK Try.prog C L 0 19 [2] c8arrr [2] [] (fs []) h K =
      p8arrr C L h (fun x2 h => K .ret (fs [(2, x2)]) h) := by
  kernel_rfl
noncomputable def p8arr (C : CF) (L : Nat) {β : Type} (x0 : Value) (h : H) (kr : Value → H → Option β) : Option β :=
  p8arrl C L x0 h kr (fun h => p8arrr C L h kr)
theorem ep8arr (C : CF) (L : Nat) {β : Type} (x0 : Value) (h : H) (K : Ex → T Value → H → Option β) :
    execK Try.prog C L 0 19 [2] c8arr [2] [] (fs [(0, x0)]) h K =
      p8arr C L x0 h (fun x2 h => K .ret (fs [(2, x2)]) h) := by
  rw [execK_seq (a := c8arrl) (b := c8arrr) (by kernel_rfl) (show live [2] c8arrr [2] [] = [] by kernel_rfl), ep8arrl]
  unfold p8arr
  exact (congr (congrArg (p8arrl C L x0 h) (funext fun x2 => funext fun h => seqK_r _ _ _)) (funext fun h => (seqK_n _ _ _).trans (ep8arrr C L h K)))
noncomputable def p8ar (C : CF) (L : Nat) {β : Type} (x0 : Value) (h : H) (kr : Value → H → Option β) : Option β :=
  p8arl C L x0 h kr (fun x0 h => p8arr C L x0 h kr)
theorem ep8ar (C : CF) (L : Nat) {β : Type} (x0 : Value) (h : H) (K : Ex → T Value → H → Option β) :
    execK Try.prog C L 0 19 [2] c8ar [2] [] (fs [(0, x0)]) h K =
      p8ar C L x0 h (fun x2 h => K .ret (fs [(2, x2)]) h) := by
  rw [execK_seq (a := c8arl) (b := c8arr) (by kernel_rfl) (show live [2] c8arr [2] [] = [0] by kernel_rfl), ep8arl]
  unfold p8ar
  exact (congr (congrArg (p8arl C L x0 h) (funext fun x2 => funext fun h => seqK_r _ _ _)) (funext fun x0 => funext fun h => (seqK_n _ _ _).trans (ep8arr C L x0 h K)))
noncomputable def p8a (C : CF) (L : Nat) {β : Type} (x0 : Value) (h : H) (kr : Value → H → Option β) : Option β :=
  p8al C L x0 h (fun x0 h => p8ar C L x0 h kr)
theorem ep8a (C : CF) (L : Nat) {β : Type} (x0 : Value) (h : H) (K : Ex → T Value → H → Option β) :
    execK Try.prog C L 0 19 [2] c8a [2] [] (fs [(0, x0)]) h K =
      p8a C L x0 h (fun x2 h => K .ret (fs [(2, x2)]) h) := by
  rw [execK_seq (a := c8al) (b := c8ar) (by kernel_rfl) (show live [2] c8ar [2] [] = [0] by kernel_rfl), ep8al]
  unfold p8a
  exact (congrArg (p8al C L x0 h) (funext fun x0 => funext fun h => (seqK_n _ _ _).trans (ep8ar C L x0 h K)))
noncomputable def F8 (C : CF) (L : Nat) (x0 : Value) (h : H) : Option (Value × H) :=
  p8a C L x0 h
    (fun x2 h => some (x2, h))
theorem F8eq (O : List FuncId) (hO : O.any (Nat.beq 8) = false) (n : Nat) (x0 : Value) (h : H) : callB Try.prog 0 O (n + 1) 8 [x0] h = F8 (callB Try.prog 0 O n) n x0 h := by
  rw [callB_eq hO (c := c8a) (nt := 19) (RR := [2]) (fr := (fs [(0, x0)])) Try.func8 (by kernel_rfl) (by kernel_rfl) (by kernel_rfl) (by kernel_rfl) (by kernel_rfl), ep8a]
  kernel_rfl
noncomputable def c10a : Code := (Try.f10.body).getD .skip
noncomputable def c10al : Code := cL c10a
noncomputable def p10al (C : CF) (L : Nat) {β : Type} (x0 x1 : Value) (h : H) (kn : Value → Value → H → Option β) : Option β :=
  kn x1 x0 h
theorem ep10al (C : CF) (L : Nat) {β : Type} (x0 x1 : Value) (h : H) (K : Ex → T Value → H → Option β) :
    execK Try.prog C L 0 31 [4] c10al [1, 0] [] (fs [(0, x0), (1, x1)]) h K =
      p10al C L x0 x1 h (fun x1 x0 h => K .normal (fs [(1, x1), (0, x0)]) h) := by
  kernel_rfl
noncomputable def c10ar : Code := cR c10a
noncomputable def c10arl : Code := cL c10ar
noncomputable def c10arll : Code := cL c10arl
noncomputable def p10arll (C : CF) (L : Nat) {β : Type} (x1 x0 : Value) (h : H) (kn : Value → Value → Value → H → Option β) : Option β :=
  bnd (A.bin Try.prog .lss 3 x0 (.int .i64 1)) fun t6 =>
  toBK t6 fun b =>
  (bif b then
  kn (.bool true) x1 x0 h
  else
  bnd (A.bin Try.prog .gtr 3 x0 (.int .i64 64)) fun t9 =>
  toBK t9 fun bq1 =>
  (bif bq1 then
  kn (.bool true) x1 x0 h
  else
  bnd (A.bin Try.prog .lss 3 x1 (.int .i64 1)) fun t13 =>
  toBK t13 fun bq2 =>
  (bif bq2 then
  kn (.bool true) x1 x0 h
  else
  bnd (A.bin Try.prog .gtr 3 x1 (.int .i64 64)) fun t17 =>
  toBK t17 fun bq3 =>
  kn (.bool bq3) x1 x0 h)))
theorem ep10arll (C : CF) (L : Nat) {β : Type} (x1 x0 : Value) (h : H) (K : Ex → T Value → H → Option β) :
    execK Try.prog C L 0 31 [4] c10arll [18, 1, 0] [] (fs [(1, x1), (0, x0)]) h K =
      p10arll C L x1 x0 h (fun x18 x1 x0 h => K .normal (fs [(18, x18), (1, x1), (0, x0)]) h) := by
  kernel_rfl
noncomputable def c10arlr : Code := cR c10arl
noncomputable def p10arlr (C : CF) (L : Nat) {β : Type} (x18 x1 x0 : Value) (h : H) (kr : Value → H → Option β) (kn : Value → Value → H → Option β) : Option β :=
  condV x18 (
  kr (.pointer none) h) (
  kn x1 x0 h)
theorem ep10arlr (C : CF) (L : Nat) {β : Type} (x18 x1 x0 : Value) (h : H) (K : Ex → T Value → H → Option β) :
    execK Try.prog C L 0 31 [4] c10arlr [1, 0] [] (fs [(18, x18), (1, x1), (0, x0)]) h K =
      p10arlr C L x18 x1 x0 h (fun x4 h => K .ret (fs [(4, x4)]) h) (fun x1 x0 h => K .normal (fs [(1, x1), (0, x0)]) h) := by
  kernel_rfl
noncomputable def p10arl (C : CF) (L : Nat) {β : Type} (x1 x0 : Value) (h : H) (kr : Value → H → Option β) (kn : Value → Value → H → Option β) : Option β :=
  p10arll C L x1 x0 h (fun x18 x1 x0 h => p10arlr C L x18 x1 x0 h kr kn)
theorem ep10arl (C : CF) (L : Nat) {β : Type} (x1 x0 : Value) (h : H) (K : Ex → T Value → H → Option β) :
    execK Try.prog C L 0 31 [4] c10arl [1, 0] [] (fs [(1, x1), (0, x0)]) h K =
      p10arl C L x1 x0 h (fun x4 h => K .ret (fs [(4, x4)]) h) (fun x1 x0 h => K .normal (fs [(1, x1), (0, x0)]) h) := by
  rw [execK_seq (a := c10arll) (b := c10arlr) (by kernel_rfl) (show live [4] c10arlr [1, 0] [] = [18, 1, 0] by kernel_rfl), ep10arll]
  unfold p10arl
  exact (congrArg (p10arll C L x1 x0 h) (funext fun x18 => funext fun x1 => funext fun x0 => funext fun h => (seqK_n _ _ _).trans (ep10arlr C L x18 x1 x0 h K)))
noncomputable def c10arr : Code := cR c10ar
noncomputable def p10arr (C : CF) (L : Nat) {β : Type} (x1 x0 : Value) (h : H) (kr : Value → H → Option β) : Option β :=
  bnd (A.bin Try.prog .mul 3 x0 x0) fun t23 =>
  bnd (A.bin Try.prog .mul 3 t23 (.int .i64 7)) fun t24 =>
  bnd2 (A.makeSlice 1 24 Z55L t24 t24 h) fun t25 hq1 =>
  bnd (A.bin Try.prog .mul 3 x0 (.int .i64 7)) fun t27 =>
  bnd2 (A.makeSlice 1 8 Z3L t27 t27 hq1) fun t28 hq2 =>
  bnd (A.build Z48L [(0, 1, x0), (1, 1, x1), (2, 1, t25), (3, 1, t28)]) fun t29 =>
  bnd2 (A.box 5 t29 hq2) fun t30 hq3 =>
  kr t30 hq3
theorem ep10arr (C : CF) (L : Nat) {β : Type} (x1 x0 : Value) (h : H) (K : Ex → T Value → H → Option β) :
    execK Try.prog C L 0 31 [4] c10arr [4] [] (fs [(1, x1), (0, x0)]) h K =
      p10arr C L x1 x0 h (fun x4 h => K .ret (fs [(4, x4)]) h) := by
  kernel_rfl
noncomputable def p10ar (C : CF) (L : Nat) {β : Type} (x1 x0 : Value) (h : H) (kr : Value → H → Option β) : Option β :=
  p10arl C L x1 x0 h kr (fun x1 x0 h => p10arr C L x1 x0 h kr)
theorem ep10ar (C : CF) (L : Nat) {β : Type} (x1 x0 : Value) (h : H) (K : Ex → T Value → H → Option β) :
    execK Try.prog C L 0 31 [4] c10ar [4] [] (fs [(1, x1), (0, x0)]) h K =
      p10ar C L x1 x0 h (fun x4 h => K .ret (fs [(4, x4)]) h) := by
  rw [execK_seq (a := c10arl) (b := c10arr) (by kernel_rfl) (show live [4] c10arr [4] [] = [1, 0] by kernel_rfl), ep10arl]
  unfold p10ar
  exact (congr (congrArg (p10arl C L x1 x0 h) (funext fun x4 => funext fun h => seqK_r _ _ _)) (funext fun x1 => funext fun x0 => funext fun h => (seqK_n _ _ _).trans (ep10arr C L x1 x0 h K)))
noncomputable def p10a (C : CF) (L : Nat) {β : Type} (x0 x1 : Value) (h : H) (kr : Value → H → Option β) : Option β :=
  p10al C L x0 x1 h (fun x1 x0 h => p10ar C L x1 x0 h kr)
theorem ep10a (C : CF) (L : Nat) {β : Type} (x0 x1 : Value) (h : H) (K : Ex → T Value → H → Option β) :
    execK Try.prog C L 0 31 [4] c10a [4] [] (fs [(0, x0), (1, x1)]) h K =
      p10a C L x0 x1 h (fun x4 h => K .ret (fs [(4, x4)]) h) := by
  rw [execK_seq (a := c10al) (b := c10ar) (by kernel_rfl) (show live [4] c10ar [4] [] = [1, 0] by kernel_rfl), ep10al]
  unfold p10a
  exact (congrArg (p10al C L x0 x1 h) (funext fun x1 => funext fun x0 => funext fun h => (seqK_n _ _ _).trans (ep10ar C L x1 x0 h K)))
noncomputable def F10 (C : CF) (L : Nat) (x0 x1 : Value) (h : H) : Option (Value × H) :=
  p10a C L x0 x1 h
    (fun x4 h => some (x4, h))
theorem F10eq (O : List FuncId) (hO : O.any (Nat.beq 10) = false) (n : Nat) (x0 x1 : Value) (h : H) : callB Try.prog 0 O (n + 1) 10 [x0, x1] h = F10 (callB Try.prog 0 O n) n x0 x1 h := by
  rw [callB_eq hO (c := c10a) (nt := 31) (RR := [4]) (fr := (fs [(0, x0), (1, x1)])) Try.func10 (by kernel_rfl) (by kernel_rfl) (by kernel_rfl) (by kernel_rfl) (by kernel_rfl), ep10a]
  kernel_rfl
noncomputable def c12a : Code := (Try.f12.body).getD .skip
noncomputable def c12al : Code := cL c12a
noncomputable def p12al (C : CF) (L : Nat) {β : Type} (x0 x1 x2 x3 : Value) (h : H) (kn : Value → Value → Value → Value → H → Option β) : Option β :=
  kn x2 x3 x1 x0 h
theorem ep12al (C : CF) (L : Nat) {β : Type} (x0 x1 x2 x3 : Value) (h : H) (K : Ex → T Value → H → Option β) :
    execK Try.prog C L 0 87 [8, 9] c12al [2, 3, 1, 0] [] (fs [(0, x0), (1, x1), (2, x2), (3, x3)]) h K =
      p12al C L x0 x1 x2 x3 h (fun x2 x3 x1 x0 h => K .normal (fs [(2, x2), (3, x3), (1, x1), (0, x0)]) h) := by
  kernel_rfl
noncomputable def c12ar : Code := cR c12a
noncomputable def c12arl : Code := cL c12ar
noncomputable def p12arl (C : CF) (L : Nat) {β : Type} (x2 x3 x1 x0 : Value) (h : H) (kn : Value → Value → Value → Value → H → Option β) : Option β :=
  bnd2 (C 34 [x0, x1, x2, x3] h) fun t16 hq1 =>
  kn x3 x1 t16 x0 hq1
theorem ep12arl (C : CF) (L : Nat) {β : Type} (x2 x3 x1 x0 : Value) (h : H) (K : Ex → T Value → H → Option β) :
    execK Try.prog C L 0 87 [8, 9] c12arl [3, 1, 10, 0] [] (fs [(2, x2), (3, x3), (1, x1), (0, x0)]) h K =
      p12arl C L x2 x3 x1 x0 h (fun x3 x1 x10 x0 h => K .normal (fs [(3, x3), (1, x1), (10, x10), (0, x0)]) h) := by
  kernel_rfl
noncomputable def c12arr : Code := cR c12ar
noncomputable def c12arrl : Code := cL c12arr
noncomputable def p12arrl (C : CF) (L : Nat) {β : Type} (x3 x1 x10 x0 : Value) (h : H) (kr : Value → Value → H → Option β) (kn : Value → Value → Value → Value → H → Option β) : Option β :=
  bnd (A.bin Try.prog .lss 3 x10 (.int .i64 0)) fun t18 =>
  toBK t18 fun b =>
  (bif b then
  kr (.slice none 0 0) (.bool false) h
  else
  bnd (A.nilCheck x0) fun t21 =>
  bnd (A.fieldAddr 2 t21) fun t22 =>
  bnd (A.load false 1 t22 h) fun t23 =>
  bnd (A.idxS 1 t23 x10) fun t25 =>
  bnd (A.load false 1 t25 h) fun t26 =>
  bnd (A.lenS t26) fun t27 =>
  bnd (A.bin Try.prog .eql 3 t27 (.int .i64 0)) fun t28 =>
  toBK t28 fun bq1 =>
  (bif bq1 then
  kr (.slice none 0 0) (.bool false) h
  else
  kn x3 x1 x10 x0 h))
theorem ep12arrl (C : CF) (L : Nat) {β : Type} (x3 x1 x10 x0 : Value) (h : H) (K : Ex → T Value → H → Option β) :
    execK Try.prog C L 0 87 [8, 9] c12arrl [3, 1, 10, 0] [] (fs [(3, x3), (1, x1), (10, x10), (0, x0)]) h K =
      p12arrl C L x3 x1 x10 x0 h (fun x8 x9 h => K .ret (fs [(8, x8), (9, x9)]) h) (fun x3 x1 x10 x0 h => K .normal (fs [(3, x3), (1, x1), (10, x10), (0, x0)]) h) := by
  kernel_rfl
noncomputable def c12arrr : Code := cR c12arr
noncomputable def c12arrrl : Code := cL c12arrr
noncomputable def p12arrrl (C : CF) (L : Nat) {β : Type} (x3 x1 x10 x0 : Value) (h : H) (kn : Value → Value → Value → Value → Value → H → Option β) : Option β :=
  bnd (A.nilCheck x0) fun t31 =>
  bnd (A.fieldAddr 2 t31) fun t32 =>
  bnd (A.load false 1 t32 h) fun t33 =>
  bnd (A.idxS 1 t33 x10) fun t35 =>
  bnd (A.load false 1 t35 h) fun t36 =>
  bnd (A.idxS 1 t36 (.int .i64 0)) fun t37 =>
  bnd (A.load false 1 t37 h) fun t38 =>
  kn x3 x1 x10 x0 t38 h
theorem ep12arrrl (C : CF) (L : Nat) {β : Type} (x3 x1 x10 x0 : Value) (h : H) (K : Ex → T Value → H → Option β) :
    execK Try.prog C L 0 87 [8, 9] c12arrrl [3, 1, 10, 0, 11] [] (fs [(3, x3), (1, x1), (10, x10), (0, x0)]) h K =
      p12arrrl C L x3 x1 x10 x0 h (fun x3 x1 x10 x0 x11 h => K .normal (fs [(3, x3), (1, x1), (10, x10), (0, x0), (11, x11)]) h) := by
  kernel_rfl
noncomputable def c12arrrr : Code := cR c12arrr
noncomputable def c12arrrrl : Code := cL c12arrrr
noncomputable def c12arrrrll : Code := cL c12arrrrl
noncomputable def p12arrrrll (C : CF) (L : Nat) {β : Type} (x3 x1 x10 x0 x11 : Value) (h : H) (kn : Value → Value → Value → Value → Value → Value → H → Option β) : Option β :=
  bnd (A.nilCheck x0) fun t40 =>
  bnd (A.fieldAddr 2 t40) fun t41 =>
  bnd (A.load false 1 t41 h) fun t42 =>
  bnd (A.idxS 1 t42 x10) fun t44 =>
  bnd (A.load false 1 t44 h) fun t45 =>
  bnd (A.lenS t45) fun t46 =>
  bnd (A.nilCheck x0) fun t48 =>
  bnd (A.fieldAddr 1 t48) fun t49 =>
  bnd (A.load false 1 t49 h) fun t50 =>
  bnd (A.bin Try.prog .eql 3 t46 t50) fun t51 =>
  toBK t51 fun b =>
  kn (.bool b) x3 x1 x10 x0 x11 h
theorem ep12arrrrll (C : CF) (L : Nat) {β : Type} (x3 x1 x10 x0 x11 : Value) (h : H) (K : Ex → T Value → H → Option β) :
    execK Try.prog C L 0 87 [8, 9] c12arrrrll [51, 3, 1, 10, 0, 11] [] (fs [(3, x3), (1, x1), (10, x10), (0, x0), (11, x11)]) h K =
      p12arrrrll C L x3 x1 x10 x0 x11 h (fun x51 x3 x1 x10 x0 x11 h => K .normal (fs [(51, x51), (3, x3), (1, x1), (10, x10), (0, x0), (11, x11)]) h) := by
  kernel_rfl
noncomputable def c12arrrrlr : Code := cR c12arrrrl
noncomputable def p12arrrrlr (C : CF) (L : Nat) {β : Type} (x51 x3 x1 x10 x0 x11 : Value) (h : H) (kn : Value → Value → Value → H → Option β) : Option β :=
  condV x51 (
  bnd (A.nilCheck x0) fun t53 =>
  bnd (A.fieldAddr 3 t53) fun t54 =>
  bnd (A.load false 1 t54 h) fun t55 =>
  bnd (A.bin Try.prog .mul 3 x1 (.int .i64 7)) fun t57 =>
  bnd (A.bin Try.prog .add 3 t57 x3) fun t59 =>
  bnd (A.bin Try.prog .sub 3 t59 (.int .i64 1)) fun t60 =>
  bnd (A.idxS 1 t55 t60) fun t61 =>
  bnd (A.load false 1 t61 h) fun t62 =>
  bnd (A.bin Try.prog .sub 3 t62 (.int .i64 1)) fun t63 =>
  bnd (A.idxS 1 t55 t60) fun t64 =>
  bnd (A.store 1 t64 t63 h) fun hq1 =>
  kn x10 x0 x11 hq1) (
  kn x10 x0 x11 h)
theorem ep12arrrrlr (C : CF) (L : Nat) {β : Type} (x51 x3 x1 x10 x0 x11 : Value) (h : H) (K : Ex → T Value → H → Option β) :
    execK Try.prog C L 0 87 [8, 9] c12arrrrlr [10, 0, 11] [] (fs [(51, x51), (3, x3), (1, x1), (10, x10), (0, x0), (11, x11)]) h K =
      p12arrrrlr C L x51 x3 x1 x10 x0 x11 h (fun x10 x0 x11 h => K .normal (fs [(10, x10), (0, x0), (11, x11)]) h) := by
  kernel_rfl
noncomputable def p12arrrrl (C : CF) (L : Nat) {β : Type} (x3 x1 x10 x0 x11 : Value) (h : H) (kn : Value → Value → Value → H → Option β) : Option β :=
  p12arrrrll C L x3 x1 x10 x0 x11 h (fun x51 x3 x1 x10 x0 x11 h => p12arrrrlr C L x51 x3 x1 x10 x0 x11 h kn)
theorem ep12arrrrl (C : CF) (L : Nat) {β : Type} (x3 x1 x10 x0 x11 : Value) (h : H) (K : Ex → T Value → H → Option β) :
    execK Try.prog C L 0 87 [8, 9] c12arrrrl [10, 0, 11] [] (fs [(3, x3), (1, x1), (10, x10), (0, x0), (11, x11)]) h K =
      p12arrrrl C L x3 x1 x10 x0 x11 h (fun x10 x0 x11 h => K .normal (fs [(10, x10), (0, x0), (11, x11)]) h) := by
  rw [execK_seq (a := c12arrrrll) (b := c12arrrrlr) (by kernel_rfl) (show live [8, 9] c12arrrrlr [10, 0, 11] [] = [51, 3, 1, 10, 0, 11] by kernel_rfl), ep12arrrrll]
  unfold p12arrrrl
  exact (congrArg (p12arrrrll C L x3 x1 x10 x0 x11 h) (funext fun x51 => funext fun x3 => funext fun x1 => funext fun x10 => funext fun x0 => funext fun x11 => funext fun h => (seqK_n _ _ _).trans (ep12arrrrlr C L x51 x3 x1 x10 x0 x11 h K)))
noncomputable def c12arrrrr : Code := cR c12arrrr
noncomputable def c12arrrrrl : Code := cL c12arrrrr
noncomputable def p12arrrrrl (C : CF) (L : Nat) {β : Type} (x10 x0 x11 : Value) (h : H) (kn : Value → Value → H → Option β) : Option β :=
  bnd (A.nilCheck x0) fun t66 =>
  bnd (A.fieldAddr 2 t66) fun t67 =>
  bnd (A.load false 1 t67 h) fun t68 =>
  bnd (A.nilCheck x0) fun t71 =>
  bnd (A.fieldAddr 2 t71) fun t72 =>
  bnd (A.load false 1 t72 h) fun t73 =>
  bnd (A.idxS 1 t73 x10) fun t75 =>
  bnd (A.load false 1 t75 h) fun t76 =>
  bnd2 (C 35 [t76, (.int .i64 0), (.int .i64 1)] h) fun t77 hq1 =>
  bif (chk (bnd (A.load false 1 t67 hq1) fun v => some v) t68 && true) then
  bnd (A.idxS 1 t68 x10) fun t78 =>
  bnd (A.store 1 t78 t77 hq1) fun hq2 =>
  kn x0 x11 hq2
  else none
theorem ep12arrrrrl (C : CF) (L : Nat) {β : Type} (x10 x0 x11 : Value) (h : H) (K : Ex → T Value → H → Option β) :
    execK Try.prog C L 0 87 [8, 9] c12arrrrrl [0, 11] [] (fs [(10, x10), (0, x0), (11, x11)]) h K =
      p12arrrrrl C L x10 x0 x11 h (fun x0 x11 h => K .normal (fs [(0, x0), (11, x11)]) h) := by
  kernel_rfl
noncomputable def c12arrrrrr : Code := cR c12arrrrr
noncomputable def p12arrrrrr (C : CF) (L : Nat) {β : Type} (x0 x11 : Value) (h : H) (kr : Value → Value → H → Option β) : Option β :=
  bnd (A.nilCheck x0) fun t80 =>
  bnd (A.fieldAddr 4 t80) fun t81 =>
  bnd (A.load false 1 t81 h) fun t82 =>
  bnd (A.bin Try.prog .sub 3 t82 (.int .i64 1)) fun t83 =>
  bnd (A.nilCheck x0) fun t84 =>
  bnd (A.fieldAddr 4 t84) fun t85 =>
  bnd (A.store 1 t85 t83 h) fun hq1 =>
  kr x11 (.bool true) hq1
theorem ep12arrrrrr (C : CF) (L : Nat) {β : Type} (x0 x11 : Value) (h : H) (K : Ex → T Value → H → Option β) :
    execK Try.prog C L 0 87 [8, 9] c12arrrrrr [8, 9] [] (fs [(0, x0), (11, x11)]) h K =
      p12arrrrrr C L x0 x11 h (fun x8 x9 h => K .ret (fs [(8, x8), (9, x9)]) h) := by
  kernel_rfl
noncomputable def p12arrrrr (C : CF) (L : Nat) {β : Type} (x10 x0 x11 : Value) (h : H) (kr : Value → Value → H → Option β) : Option β :=
  p12arrrrrl C L x10 x0 x11 h (fun x0 x11 h => p12arrrrrr C L x0 x11 h kr)
theorem ep12arrrrr (C : CF) (L : Nat) {β : Type} (x10 x0 x11 : Value) (h : H) (K : Ex → T Value → H → Option β) :
    execK Try.prog C L 0 87 [8, 9] c12arrrrr [8, 9] [] (fs [(10, x10), (0, x0), (11, x11)]) h K =
      p12arrrrr C L x10 x0 x11 h (fun x8 x9 h => K .ret (fs [(8, x8), (9, x9)]) h) := by
  rw [execK_seq (a := c12arrrrrl) (b := c12arrrrrr) (by kernel_rfl) (show live [8, 9] c12arrrrrr [8, 9] [] = [0, 11] by kernel_rfl), ep12arrrrrl]
  unfold p12arrrrr
  exact (congrArg (p12arrrrrl C L x10 x0 x11 h) (funext fun x0 => funext fun x11 => funext fun h => (seqK_n _ _ _).trans (ep12arrrrrr C L x0 x11 h K)))
noncomputable def p12arrrr (C : CF) (L : Nat) {β : Type} (x3 x1 x10 x0 x11 : Value) (h : H) (kr : Value → Value → H → Option β) : Option β :=
  p12arrrrl C L x3 x1 x10 x0 x11 h (fun x10 x0 x11 h => p12arrrrr C L x10 x0 x11 h kr)
theorem ep12arrrr (C : CF) (L : Nat) {β : Type} (x3 x1 x10 x0 x11 : Value) (h : H) (K : Ex → T Value → H → Option β) :
    execK Try.prog C L 0 87 [8, 9] c12arrrr [8, 9] [] (fs [(3, x3), (1, x1), (10, x10), (0, x0), (11, x11)]) h K =
      p12arrrr C L x3 x1 x10 x0 x11 h (fun x8 x9 h => K .ret (fs [(8, x8), (9, x9)]) h) := by
  rw [execK_seq (a := c12arrrrl) (b := c12arrrrr) (by kernel_rfl) (show live [8, 9] c12arrrrr [8, 9] [] = [10, 0, 11] by kernel_rfl), ep12arrrrl]
  unfold p12arrrr
  exact (congrArg (p12arrrrl C L x3 x1 x10 x0 x11 h) (funext fun x10 => funext fun x0 => funext fun x11 => funext fun h => (seqK_n _ _ _).trans (ep12arrrrr C L x10 x0 x11 h K)))
noncomputable def p12arrr (C : CF) (L : Nat) {β : Type} (x3 x1 x10 x0 : Value) (h : H) (kr : Value → Value → H → Option β) : Option β :=
  p12arrrl C L x3 x1 x10 x0 h (fun x3 x1 x10 x0 x11 h => p12arrrr C L x3 x1 x10 x0 x11 h kr)
theorem ep12arrr (C : CF) (L : Nat) {β : Type} (x3 x1 x10 x0 : Value) (h : H) (K : Ex → T Value → H → Option β) :
    execK Try.prog C L 0 87 [8, 9] c12arrr [8, 9] [] (fs [(3, x3), (1, x1), (10, x10), (0, x0)]) h K =
      p12arrr C L x3 x1 x10 x0 h (fun x8 x9 h => K .ret (fs [(8, x8), (9, x9)]) h) := by
  rw [execK_seq (a := c12arrrl) (b := c12arrrr) (by kernel_rfl) (show live [8, 9] c12arrrr [8, 9] [] = [3, 1, 10, 0, 11] by kernel_rfl), ep12arrrl]
  unfold p12arrr
  exact (congrArg (p12arrrl C L x3 x1 x10 x0 h) (funext fun x3 => funext fun x1 => funext fun x10 => funext fun x0 => funext fun x11 => funext fun h => (seqK_n _ _ _).trans (ep12arrrr C L x3 x1 x10 x0 x11 h K)))
noncomputable def p12arr (C : CF) (L : Nat) {β : Type} (x3 x1 x10 x0 : Value) (h : H) (kr : Value → Value → H → Option β) : Option β :=
  p12arrl C L x3 x1 x10 x0 h kr (fun x3 x1 x10 x0 h => p12arrr C L x3 x1 x10 x0 h kr)
theorem ep12arr (C : CF) (L : Nat) {β : Type} (x3 x1 x10 x0 : Value) (h : H) (K : Ex → T Value → H → Option β) :
    execK Try.prog C L 0 87 [8, 9] c12arr [8, 9] [] (fs [(3, x3), (1, x1), (10, x10), (0, x0)]) h K =
      p12arr C L x3 x1 x10 x0 h (fun x8 x9 h => K .ret (fs [(8, x8), (9, x9)]) h) := by
  rw [execK_seq (a := c12arrl) (b := c12arrr) (by kernel_rfl) (show live [8, 9] c12arrr [8, 9] [] = [3, 1, 10, 0] by kernel_rfl), ep12arrl]
  unfold p12arr
  exact (congr (congrArg (p12arrl C L x3 x1 x10 x0 h) (funext fun x8 => funext fun x9 => funext fun h => seqK_r _ _ _)) (funext fun x3 => funext fun x1 => funext fun x10 => funext fun x0 => funext fun h => (seqK_n _ _ _).trans (ep12arrr C L x3 x1 x10 x0 h K)))
noncomputable def p12ar (C : CF) (L : Nat) {β : Type} (x2 x3 x1 x0 : Value) (h : H) (kr : Value → Value → H → Option β) : Option β :=
  p12arl C L x2 x3 x1 x0 h (fun x3 x1 x10 x0 h => p12arr C L x3 x1 x10 x0 h kr)
theorem ep12ar (C : CF) (L : Nat) {β : Type} (x2 x3 x1 x0 : Value) (h : H) (K : Ex → T Value → H → Option β) :
    execK Try.prog C L 0 87 [8, 9] c12ar [8, 9] [] (fs [(2, x2), (3, x3), (1, x1), (0, x0)]) h K =
      p12ar C L x2 x3 x1 x0 h (fun x8 x9 h => K .ret (fs [(8, x8), (9, x9)]) h) := by
  rw [execK_seq (a := c12arl) (b := c12arr) (by kernel_rfl) (show live [8, 9] c12arr [8, 9] [] = [3, 1, 10, 0] by kernel_rfl), ep12arl]
  unfold p12ar
  exact (congrArg (p12arl C L x2 x3 x1 x0 h) (funext fun x3 => funext fun x1 => funext fun x10 => funext fun x0 => funext fun h => (seqK_n _ _ _).trans (ep12arr C L x3 x1 x10 x0 h K)))
noncomputable def p12a (C : CF) (L : Nat) {β : Type} (x0 x1 x2 x3 : Value) (h : H) (kr : Value → Value → H → Option β) : Option β :=
  p12al C L x0 x1 x2 x3 h (fun x2 x3 x1 x0 h => p12ar C L x2 x3 x1 x0 h kr)
theorem ep12a (C : CF) (L : Nat) {β : Type} (x0 x1 x2 x3 : Value) (h : H) (K : Ex → T Value → H → Option β) :
    execK Try.prog C L 0 87 [8, 9] c12a [8, 9] [] (fs [(0, x0), (1, x1), (2, x2), (3, x3)]) h K =
      p12a C L x0 x1 x2 x3 h (fun x8 x9 h => K .ret (fs [(8, x8), (9, x9)]) h) := by
  rw [execK_seq (a := c12al) (b := c12ar) (by kernel_rfl) (show live [8, 9] c12ar [8, 9] [] = [2, 3, 1, 0] by kernel_rfl), ep12al]
  unfold p12a
  exact (congrArg (p12al C L x0 x1 x2 x3 h) (funext fun x2 => funext fun x3 => funext fun x1 => funext fun x0 => funext fun h => (seqK_n _ _ _).trans (ep12ar C L x2 x3 x1 x0 h K)))
noncomputable def F12 (C : CF) (L : Nat) (x0 x1 x2 x3 : Value) (h : H) : Option (Value × H) :=
  p12a C L x0 x1 x2 x3 h
    (fun x8 x9 h => some (.tuple ⟨[x8, x9]⟩, h))
theorem F12eq (O : List FuncId) (hO : O.any (Nat.beq 12) = false) (n : Nat) (x0 x1 x2 x3 : Value) (h : H) : callB Try.prog 0 O (n + 1) 12 [x0, x1, x2, x3] h = F12 (callB Try.prog 0 O n) n x0 x1 x2 x3 h := by
  rw [callB_eq hO (c := c12a) (nt := 87) (RR := [8, 9]) (fr := (fs [(0, x0), (1, x1), (2, x2), (3, x3)])) Try.func12 (by kernel_rfl) (by kernel_rfl) (by kernel_rfl) (by kernel_rfl) (by kernel_rfl), ep12a]
  kernel_rfl
noncomputable def c14a : Code := (Try.f14.body).getD .skip
noncomputable def p14a (C : CF) (L : Nat) {β : Type} (x0 x1 x2 x3 : Value) (h : H) (kr : Value → Value → H → Option β) : Option β :=
  bnd2 (C 34 [x0, x1, x2, x3] h) fun t15 hq1 =>
  bnd (A.bin Try.prog .lss 3 t15 (.int .i64 0)) fun t17 =>
  toBK t17 fun b =>
  (bif b then
  kr (.slice none 0 0) (.bool false) hq1
  else
  bnd (A.nilCheck x0) fun t20 =>
  bnd (A.fieldAddr 2 t20) fun t21 =>
  bnd (A.load false 1 t21 hq1) fun t22 =>
  bnd (A.idxS 1 t22 t15) fun t24 =>
  bnd (A.load false 1 t24 hq1) fun t25 =>
  bnd (A.lenS t25) fun t26 =>
  bnd (A.bin Try.prog .eql 3 t26 (.int .i64 0)) fun t27 =>
  toBK t27 fun bq1 =>
  (bif bq1 then
  kr (.slice none 0 0) (.bool false) hq1
  else
  bnd (A.nilCheck x0) fun t30 =>
  bnd (A.fieldAddr 2 t30) fun t31 =>
  bnd (A.load false 1 t31 hq1) fun t32 =>
  bnd (A.idxS 1 t32 t15) fun t34 =>
  bnd (A.load false 1 t34 hq1) fun t35 =>
  bnd (A.idxS 1 t35 (.int .i64 0)) fun t36 =>
  bnd (A.load false 1 t36 hq1) fun t37 =>
  bnd2 (C 32 [t37] hq1) fun t38 hq2 =>
  kr t38 (.bool true) hq2))
theorem ep14a (C : CF) (L : Nat) {β : Type} (x0 x1 x2 x3 : Value) (h : H) (K : Ex → T Value → H → Option β) :
    execK Try.prog C L 0 39 [8, 9] c14a [8, 9] [] (fs [(0, x0), (1, x1), (2, x2), (3, x3)]) h K =
      p14a C L x0 x1 x2 x3 h (fun x8 x9 h => K .ret (fs [(8, x8), (9, x9)]) h) := by
  kernel_rfl
noncomputable def F14 (C : CF) (L : Nat) (x0 x1 x2 x3 : Value) (h : H) : Option (Value × H) :=
  p14a C L x0 x1 x2 x3 h
    (fun x8 x9 h => some (.tuple ⟨[x8, x9]⟩, h))
theorem F14eq (O : List FuncId) (hO : O.any (Nat.beq 14) = false) (n : Nat) (x0 x1 x2 x3 : Value) (h : H) : callB Try.prog 0 O (n + 1) 14 [x0, x1, x2, x3] h = F14 (callB Try.prog 0 O n) n x0 x1 x2 x3 h := by
  rw [callB_eq hO (c := c14a) (nt := 39) (RR := [8, 9]) (fr := (fs [(0, x0), (1, x1), (2, x2), (3, x3)])) Try.func14 (by kernel_rfl) (by kernel_rfl) (by kernel_rfl) (by kernel_rfl) (by kernel_rfl), ep14a]
  kernel_rfl
noncomputable def c17a : Code := (Try.f17.body).getD .skip
noncomputable def c17al : Code := cL c17a
noncomputable def p17al (C : CF) (L : Nat) {β : Type} (x0 x1 x2 x3 x4 : Value) (h : H) (kn : Value → Value → Value → Value → Value → H → Option β) : Option β :=
  kn x2 x4 x3 x1 x0 h
theorem ep17al (C : CF) (L : Nat) {β : Type} (x0 x1 x2 x3 x4 : Value) (h : H) (K : Ex → T Value → H → Option β) :
    execK Try.prog C L 0 89 [10] c17al [2, 4, 3, 1, 0] [] (fs [(0, x0), (1, x1), (2, x2), (3, x3), (4, x4)]) h K =
      p17al C L x0 x1 x2 x3 x4 h (fun x2 x4 x3 x1 x0 h => K .normal (fs [(2, x2), (4, x4), (3, x3), (1, x1), (0, x0)]) h) := by
  kernel_rfl
noncomputable def c17ar : Code := cR c17a
noncomputable def c17arl : Code := cL c17ar
noncomputable def p17arl (C : CF) (L : Nat) {β : Type} (x2 x4 x3 x1 x0 : Value) (h : H) (kn : Value → Value → Value → Value → Value → H → Option β) : Option β :=
  bnd2 (C 34 [x0, x1, x2, x3] h) fun t16 hq1 =>
  kn x4 t16 x3 x1 x0 hq1
theorem ep17arl (C : CF) (L : Nat) {β : Type} (x2 x4 x3 x1 x0 : Value) (h : H) (K : Ex → T Value → H → Option β) :
    execK Try.prog C L 0 89 [10] c17arl [4, 11, 3, 1, 0] [] (fs [(2, x2), (4, x4), (3, x3), (1, x1), (0, x0)]) h K =
      p17arl C L x2 x4 x3 x1 x0 h (fun x4 x11 x3 x1 x0 h => K .normal (fs [(4, x4), (11, x11), (3, x3), (1, x1), (0, x0)]) h) := by
  kernel_rfl
noncomputable def c17arr : Code := cR c17ar
noncomputable def c17arrl : Code := cL c17arr
noncomputable def c17arrll : Code := cL c17arrl
noncomputable def p17arrll (C : CF) (L : Nat) {β : Type} (x4 x11 x3 x1 x0 : Value) (h : H) (kn : Value → Value → Value → Value → Value → Value → H → Option β) : Option β :=
  bnd (A.bin Try.prog .lss 3 x11 (.int .i64 0)) fun t18 =>
  toBK t18 fun b =>
  (bif b then
  kn (.bool true) x4 x11 x3 x1 x0 h
  else
  bnd (A.lenS x4) fun t21 =>
  bnd (A.bin Try.prog .eql 3 t21 (.int .i64 0)) fun t22 =>
  toBK t22 fun bq1 =>
  (bif bq1 then
  kn (.bool true) x4 x11 x3 x1 x0 h
  else
  bnd (A.nilCheck x0) fun t26 =>
  bnd (A.fieldAddr 2 t26) fun t27 =>
  bnd (A.load false 1 t27 h) fun t28 =>
  bnd (A.idxS 1 t28 x11) fun t30 =>
  bnd (A.load false 1 t30 h) fun t31 =>
  bnd (A.lenS t31) fun t32 =>
  bnd (A.nilCheck x0) fun t34 =>
  bnd (A.fieldAddr 1 t34) fun t35 =>
  bnd (A.load false 1 t35 h) fun t36 =>
  bnd (A.bin Try.prog .eql 3 t32 t36) fun t37 =>
  toBK t37 fun bq2 =>
  kn (.bool bq2) x4 x11 x3 x1 x0 h))
theorem ep17arrll (C : CF) (L : Nat) {β : Type} (x4 x11 x3 x1 x0 : Value) (h : H) (K : Ex → T Value → H → Option β) :
    execK Try.prog C L 0 89 [10] c17arrll [38, 4, 11, 3, 1, 0] [] (fs [(4, x4), (11, x11), (3, x3), (1, x1), (0, x0)]) h K =
      p17arrll C L x4 x11 x3 x1 x0 h (fun x38 x4 x11 x3 x1 x0 h => K .normal (fs [(38, x38), (4, x4), (11, x11), (3, x3), (1, x1), (0, x0)]) h) := by
  kernel_rfl
noncomputable def c17arrlr : Code := cR c17arrl
noncomputable def p17arrlr (C : CF) (L : Nat) {β : Type} (x38 x4 x11 x3 x1 x0 : Value) (h : H) (kr : Value → H → Option β) (kn : Value → Value → Value → Value → Value → H → Option β) : Option β :=
  condV x38 (
  kr (.bool false) h) (
  kn x4 x11 x3 x1 x0 h)
theorem ep17arrlr (C : CF) (L : Nat) {β : Type} (x38 x4 x11 x3 x1 x0 : Value) (h : H) (K : Ex → T Value → H → Option β) :
    execK Try.prog C L 0 89 [10] c17arrlr [4, 11, 3, 1, 0] [] (fs [(38, x38), (4, x4), (11, x11), (3, x3), (1, x1), (0, x0)]) h K =
      p17arrlr C L x38 x4 x11 x3 x1 x0 h (fun x10 h => K .ret (fs [(10, x10)]) h) (fun x4 x11 x3 x1 x0 h => K .normal (fs [(4, x4), (11, x11), (3, x3), (1, x1), (0, x0)]) h) := by
  kernel_rfl
noncomputable def p17arrl (C : CF) (L : Nat) {β : Type} (x4 x11 x3 x1 x0 : Value) (h : H) (kr : Value → H → Option β) (kn : Value → Value → Value → Value → Value → H → Option β) : Option β :=
  p17arrll C L x4 x11 x3 x1 x0 h (fun x38 x4 x11 x3 x1 x0 h => p17arrlr C L x38 x4 x11 x3 x1 x0 h kr kn)
theorem ep17arrl (C : CF) (L : Nat) {β : Type} (x4 x11 x3 x1 x0 : Value) (h : H) (K : Ex → T Value → H → Option β) :
    execK Try.prog C L 0 89 [10] c17arrl [4, 11, 3, 1, 0] [] (fs [(4, x4), (11, x11), (3, x3), (1, x1), (0, x0)]) h K =
      p17arrl C L x4 x11 x3 x1 x0 h (fun x10 h => K .ret (fs [(10, x10)]) h) (fun x4 x11 x3 x1 x0 h => K .normal (fs [(4, x4), (11, x11), (3, x3), (1, x1), (0, x0)]) h) := by
  rw [execK_seq (a := c17arrll) (b := c17arrlr) (by kernel_rfl) (show live [10] c17arrlr [4, 11, 3, 1, 0] [] = [38, 4, 11, 3, 1, 0] by kernel_rfl), ep17arrll]
  unfold p17arrl
  exact (congrArg (p17arrll C L x4 x11 x3 x1 x0 h) (funext fun x38 => funext fun x4 => funext fun x11 => funext fun x3 => funext fun x1 => funext fun x0 => funext fun h => (seqK_n _ _ _).trans (ep17arrlr C L x38 x4 x11 x3 x1 x0 h K)))
noncomputable def c17arrr : Code := cR c17arr
noncomputable def c17arrrl : Code := cL c17arrr
noncomputable def p17arrrl (C : CF) (L : Nat) {β : Type} (x4 x11 x3 x1 x0 : Value) (h : H) (kn : Value → Value → Value → Value → H → Option β) : Option β :=
  bnd (A.nilCheck x0) fun t40 =>
  bnd (A.fieldAddr 2 t40) fun t41 =>
  bnd (A.load false 1 t41 h) fun t42 =>
  bnd (A.nilCheck x0) fun t45 =>
  bnd (A.fieldAddr 2 t45) fun t46 =>
  bnd (A.load false 1 t46 h) fun t47 =>
  bnd (A.idxS 1 t47 x11) fun t49 =>
  bnd (A.load false 1 t49 h) fun t50 =>
  bnd2 (C 32 [x4] h) fun t52 hq1 =>
  bif (chk (bnd (A.load false 1 t49 hq1) fun v => some v) t50 && (chk (bnd (A.load false 1 t46 hq1) fun v => some v) t47 && (chk (bnd (A.load false 1 t41 hq1) fun v => some v) t42 && true))) then
  bnd2 (A.buildSlice 1 1 Z29L [(0, 1, t52)] hq1) fun t53 hq2 =>
  bnd2 (A.append 1 24 t50 t53 hq2) fun t54 hq3 =>
  bif (chk (bnd (A.load false 1 t41 hq3) fun v => some v) t42 && true) then
  bnd (A.idxS 1 t42 x11) fun t55 =>
  bnd (A.store 1 t55 t54 hq3) fun hq4 =>
  kn x11 x3 x1 x0 hq4
  else none
  else none
theorem ep17arrrl (C : CF) (L : Nat) {β : Type} (x4 x11 x3 x1 x0 : Value) (h : H) (K : Ex → T Value → H → Option β) :
    execK Try.prog C L 0 89 [10] c17arrrl [11, 3, 1, 0] [] (fs [(4, x4), (11, x11), (3, x3), (1, x1), (0, x0)]) h K =
      p17arrrl C L x4 x11 x3 x1 x0 h (fun x11 x3 x1 x0 h => K .normal (fs [(11, x11), (3, x3), (1, x1), (0, x0)]) h) := by
  kernel_rfl
noncomputable def c17arrrr : Code := cR c17arrr
noncomputable def c17arrrrl : Code := cL c17arrrr
noncomputable def p17arrrrl (C : CF) (L : Nat) {β : Type} (x11 x3 x1 x0 : Value) (h : H) (kn : Value → Value → Value → Value → H → Option β) : Option β :=
  bnd (A.nilCheck x0) fun t57 =>
  bnd (A.fieldAddr 4 t57) fun t58 =>
  bnd (A.load false 1 t58 h) fun t59 =>
  bnd (A.bin Try.prog .add 3 t59 (.int .i64 1)) fun t60 =>
  bnd (A.nilCheck x0) fun t61 =>
  bnd (A.fieldAddr 4 t61) fun t62 =>
  bnd (A.store 1 t62 t60 h) fun hq1 =>
  kn x11 x3 x1 x0 hq1
theorem ep17arrrrl (C : CF) (L : Nat) {β : Type} (x11 x3 x1 x0 : Value) (h : H) (K : Ex → T Value → H → Option β) :
    execK Try.prog C L 0 89 [10] c17arrrrl [11, 3, 1, 0] [] (fs [(11, x11), (3, x3), (1, x1), (0, x0)]) h K =
      p17arrrrl C L x11 x3 x1 x0 h (fun x11 x3 x1 x0 h => K .normal (fs [(11, x11), (3, x3), (1, x1), (0, x0)]) h) := by
  kernel_rfl
noncomputable def c17arrrrr : Code := cR c17arrrr
noncomputable def c17arrrrrl : Code := cL c17arrrrr
noncomputable def c17arrrrrll : Code := cL c17arrrrrl
noncomputable def p17arrrrrll (C : CF) (L : Nat) {β : Type} (x11 x3 x1 x0 : Value) (h : H) (kn : Value → Value → Value → Value → H → Option β) : Option β :=
  bnd (A.nilCheck x0) fun t64 =>
  bnd (A.fieldAddr 2 t64) fun t65 =>
  bnd (A.load false 1 t65 h) fun t66 =>
  bnd (A.idxS 1 t66 x11) fun t68 =>
  bnd (A.load false 1 t68 h) fun t69 =>
  bnd (A.lenS t69) fun t70 =>
  bnd (A.nilCheck x0) fun t72 =>
  bnd (A.fieldAddr 1 t72) fun t73 =>
  bnd (A.load false 1 t73 h) fun t74 =>
  bnd (A.bin Try.prog .eql 3 t70 t74) fun t75 =>
  toBK t75 fun b =>
  kn (.bool b) x3 x1 x0 h
theorem ep17arrrrrll (C : CF) (L : Nat) {β : Type} (x11 x3 x1 x0 : Value) (h : H) (K : Ex → T Value → H → Option β) :
    execK Try.prog C L 0 89 [10] c17arrrrrll [75, 3, 1, 0] [] (fs [(11, x11), (3, x3), (1, x1), (0, x0)]) h K =
      p17arrrrrll C L x11 x3 x1 x0 h (fun x75 x3 x1 x0 h => K .normal (fs [(75, x75), (3, x3), (1, x1), (0, x0)]) h) := by
  kernel_rfl
noncomputable def c17arrrrrlr : Code := cR c17arrrrrl
noncomputable def p17arrrrrlr (C : CF) (L : Nat) {β : Type} (x75 x3 x1 x0 : Value) (h : H) (kn : H → Option β) : Option β :=
  condV x75 (
  bnd (A.nilCheck x0) fun t77 =>
  bnd (A.fieldAddr 3 t77) fun t78 =>
  bnd (A.load false 1 t78 h) fun t79 =>
  bnd (A.bin Try.prog .mul 3 x1 (.int .i64 7)) fun t81 =>
  bnd (A.bin Try.prog .add 3 t81 x3) fun t83 =>
  bnd (A.bin Try.prog .sub 3 t83 (.int .i64 1)) fun t84 =>
  bnd (A.idxS 1 t79 t84) fun t85 =>
  bnd (A.load false 1 t85 h) fun t86 =>
  bnd (A.bin Try.prog .add 3 t86 (.int .i64 1)) fun t87 =>
  bnd (A.idxS 1 t79 t84) fun t88 =>
  bnd (A.store 1 t88 t87 h) fun hq1 =>
  kn hq1) (
  kn h)
theorem ep17arrrrrlr (C : CF) (L : Nat) {β : Type} (x75 x3 x1 x0 : Value) (h : H) (K : Ex → T Value → H → Option β) :
    execK Try.prog C L 0 89 [10] c17arrrrrlr [] [] (fs [(75, x75), (3, x3), (1, x1), (0, x0)]) h K =
      p17arrrrrlr C L x75 x3 x1 x0 h (fun h => K .normal (fs []) h) := by
  kernel_rfl
noncomputable def p17arrrrrl (C : CF) (L : Nat) {β : Type} (x11 x3 x1 x0 : Value) (h : H) (kn : H → Option β) : Option β :=
  p17arrrrrll C L x11 x3 x1 x0 h (fun x75 x3 x1 x0 h => p17arrrrrlr C L x75 x3 x1 x0 h kn)
theorem ep17arrrrrl (C : CF) (L : Nat) {β : Type} (x11 x3 x1 x0 : Value) (h : H) (K : Ex → T Value → H → Option β) :
    execK Try.prog C L 0 89 [10] c17arrrrrl [] [] (fs [(11, x11), (3, x3), (1, x1), (0, x0)]) h K =
      p17arrrrrl C L x11 x3 x1 x0 h (fun h => K .normal (fs []) h) := by
  rw [execK_seq (a := c17arrrrrll) (b := c17arrrrrlr) (by kernel_rfl) (show live [10] c17arrrrrlr [] [] = [75, 3, 1, 0] by kernel_rfl), ep17arrrrrll]
  unfold p17arrrrrl
  exact (congrArg (p17arrrrrll C L x11 x3 x1 x0 h) (funext fun x75 => funext fun x3 => funext fun x1 => funext fun x0 => funext fun h => (seqK_n _ _ _).trans (ep17arrrrrlr C L x75 x3 x1 x0 h K)))
noncomputable def c17arrrrrr : Code := cR c17arrrrr
noncomputable def p17arrrrrr (C : CF) (L : Nat) {β : Type} (h : H) (kr : Value → H → Option β) : Option β :=
  kr (.bool true) h
theorem ep17arrrrrr (C : CF) (L : Nat) {β : Type} (h : H) (K : Ex → T Value → H → Option β) :
    execK Try.prog C L 0 89 [10] c17arrrrrr [10] [] (fs []) h K =
      p17arrrrrr C L h (fun x10 h => K .ret (fs [(10, x10)]) h) := by
  kernel_rfl
noncomputable def p17arrrrr (C : CF) (L : Nat) {β : Type} (x11 x3 x1 x0 : Value) (h : H) (kr : Value → H → Option β) : Option β :=
  p17arrrrrl C L x11 x3 x1 x0 h (fun h => p17arrrrrr C L h kr)
theorem ep17arrrrr (C : CF) (L : Nat) {β : Type} (x11 x3 x1 x0 : Value) (h : H) (K : Ex → T Value → H → Option β) :
    execK Try.prog C L 0 89 [10] c17arrrrr [10] [] (fs [(11, x11), (3, x3), (1, x1), (0, x0)]) h K =
      p17arrrrr C L x11 x3 x1 x0 h (fun x10 h => K .ret (fs [(10, x10)]) h) := by
  rw [execK_seq (a := c17arrrrrl) (b := c17arrrrrr) (by kernel_rfl) (show live [10] c17arrrrrr [10] [] = [] by kernel_rfl), ep17arrrrrl]
  unfold p17arrrrr
  exact (congrArg (p17arrrrrl C L x11 x3 x1 x0 h) (funext fun h => (seqK_n _ _ _).trans (ep17arrrrrr C L h K)))
noncomputable def p17arrrr (C : CF) (L : Nat) {β : Type} (x11 x3 x1 x0 : Value) (h : H) (kr : Value → H → Option β) : Option β :=
  p17arrrrl C L x11 x3 x1 x0 h (fun x11 x3 x1 x0 h => p17arrrrr C L x11 x3 x1 x0 h kr)
theorem ep17arrrr (C : CF) (L : Nat) {β : Type} (x11 x3 x1 x0 : Value) (h : H) (K : Ex → T Value → H → Option β) :
    execK Try.prog C L 0 89 [10] c17arrrr [10] [] (fs [(11, x11), (3, x3), (1, x1), (0, x0)]) h K =
      p17arrrr C L x11 x3 x1 x0 h (fun x10 h => K .ret (fs [(10, x10)]) h) := by
  rw [execK_seq (a := c17arrrrl) (b := c17arrrrr) (by kernel_rfl) (show live [10] c17arrrrr [10] [] = [11, 3, 1, 0] by kernel_rfl), ep17arrrrl]
  unfold p17arrrr
  exact (congrArg (p17arrrrl C L x11 x3 x1 x0 h) (funext fun x11 => funext fun x3 => funext fun x1 => funext fun x0 => funext fun h => (seqK_n _ _ _).trans (ep17arrrrr C L x11 x3 x1 x0 h K)))
noncomputable def p17arrr (C : CF) (L : Nat) {β : Type} (x4 x11 x3 x1 x0 : Value) (h : H) (kr : Value → H → Option β) : Option β :=
  p17arrrl C L x4 x11 x3 x1 x0 h (fun x11 x3 x1 x0 h => p17arrrr C L x11 x3 x1 x0 h kr)
theorem ep17arrr (C : CF) (L : Nat) {β : Type} (x4 x11 x3 x1 x0 : Value) (h : H) (K : Ex → T Value → H → Option β) :
    execK Try.prog C L 0 89 [10] c17arrr [10] [] (fs [(4, x4), (11, x11), (3, x3), (1, x1), (0, x0)]) h K =
      p17arrr C L x4 x11 x3 x1 x0 h (fun x10 h => K .ret (fs [(10, x10)]) h) := by
  rw [execK_seq (a := c17arrrl) (b := c17arrrr) (by kernel_rfl) (show live [10] c17arrrr [10] [] = [11, 3, 1, 0] by kernel_rfl), ep17arrrl]
  unfold p17arrr
  exact (congrArg (p17arrrl C L x4 x11 x3 x1 x0 h) (funext fun x11 => funext fun x3 => funext fun x1 => funext fun x0 => funext fun h => (seqK_n _ _ _).trans (ep17arrrr C L x11 x3 x1 x0 h K)))
noncomputable def p17arr (C : CF) (L : Nat) {β : Type} (x4 x11 x3 x1 x0 : Value) (h : H) (kr : Value → H → Option β) : Option β :=
  p17arrl C L x4 x11 x3 x1 x0 h kr (fun x4 x11 x3 x1 x0 h => p17arrr C L x4 x11 x3 x1 x0 h kr)
theorem ep17arr (C : CF) (L : Nat) {β : Type} (x4 x11 x3 x1 x0 : Value) (h : H) (K : Ex → T Value → H → Option β) :
    execK Try.prog C L 0 89 [10] c17arr [10] [] (fs [(4, x4), (11, x11), (3, x3), (1, x1), (0, x0)]) h K =
      p17arr C L x4 x11 x3 x1 x0 h (fun x10 h => K .ret (fs [(10, x10)]) h) := by
  rw [execK_seq (a := c17arrl) (b := c17arrr) (by kernel_rfl) (show live [10] c17arrr [10] [] = [4, 11, 3, 1, 0] by kernel_rfl), ep17arrl]
  unfold p17arr
  exact (congr (congrArg (p17arrl C L x4 x11 x3 x1 x0 h) (funext fun x10 => funext fun h => seqK_r _ _ _)) (funext fun x4 => funext fun x11 => funext fun x3 => funext fun x1 => funext fun x0 => funext fun h => (seqK_n _ _ _).trans (ep17arrr C L x4 x11 x3 x1 x0 h K)))
noncomputable def p17ar (C : CF) (L : Nat) {β : Type} (x2 x4 x3 x1 x0 : Value) (h : H) (kr : Value → H → Option β) : Option β :=
  p17arl C L x2 x4 x3 x1 x0 h (fun x4 x11 x3 x1 x0 h => p17arr C L x4 x11 x3 x1 x0 h kr)
theorem ep17ar (C : CF) (L : Nat) {β : Type} (x2 x4 x3 x1 x0 : Value) (h : H) (K : Ex → T Value → H → Option β) :
    execK Try.prog C L 0 89 [10] c17ar [10] [] (fs [(2, x2), (4, x4), (3, x3), (1, x1), (0, x0)]) h K =
      p17ar C L x2 x4 x3 x1 x0 h (fun x10 h => K .ret (fs [(10, x10)]) h) := by
  rw [execK_seq (a := c17arl) (b := c17arr) (by kernel_rfl) (show live [10] c17arr [10] [] = [4, 11, 3, 1, 0] by kernel_rfl), ep17arl]
  unfold p17ar
  exact (congrArg (p17arl C L x2 x4 x3 x1 x0 h) (funext fun x4 => funext fun x11 => funext fun x3 => funext fun x1 => funext fun x0 => funext fun h => (seqK_n _ _ _).trans (ep17arr C L x4 x11 x3 x1 x0 h K)))
noncomputable def p17a (C : CF) (L : Nat) {β : Type} (x0 x1 x2 x3 x4 : Value) (h : H) (kr : Value → H → Option β) : Option β :=
  p17al C L x0 x1 x2 x3 x4 h (fun x2 x4 x3 x1 x0 h => p17ar C L x2 x4 x3 x1 x0 h kr)
theorem ep17a (C : CF) (L : Nat) {β : Type} (x0 x1 x2 x3 x4 : Value) (h : H) (K : Ex → T Value → H → Option β) :
    execK Try.prog C L 0 89 [10] c17a [10] [] (fs [(0, x0), (1, x1), (2, x2), (3, x3), (4, x4)]) h K =
      p17a C L x0 x1 x2 x3 x4 h (fun x10 h => K .ret (fs [(10, x10)]) h) := by
  rw [execK_seq (a := c17al) (b := c17ar) (by kernel_rfl) (show live [10] c17ar [10] [] = [2, 4, 3, 1, 0] by kernel_rfl), ep17al]
  unfold p17a
  exact (congrArg (p17al C L x0 x1 x2 x3 x4 h) (funext fun x2 => funext fun x4 => funext fun x3 => funext fun x1 => funext fun x0 => funext fun h => (seqK_n _ _ _).trans (ep17ar C L x2 x4 x3 x1 x0 h K)))
noncomputable def F17 (C : CF) (L : Nat) (x0 x1 x2 x3 x4 : Value) (h : H) : Option (Value × H) :=
  p17a C L x0 x1 x2 x3 x4 h
    (fun x10 h => some (x10, h))
theorem F17eq (O : List FuncId) (hO : O.any (Nat.beq 17) = false) (n : Nat) (x0 x1 x2 x3 x4 : Value) (h : H) : callB Try.prog 0 O (n + 1) 17 [x0, x1, x2, x3, x4] h = F17 (callB Try.prog 0 O n) n x0 x1 x2 x3 x4 h := by
  rw [callB_eq hO (c := c17a) (nt := 89) (RR := [10]) (fr := (fs [(0, x0), (1, x1), (2, x2), (3, x3), (4, x4)])) Try.func17 (by kernel_rfl) (by kernel_rfl) (by kernel_rfl) (by kernel_rfl) (by kernel_rfl), ep17a]
  kernel_rfl
noncomputable def c21a : Code := (Try.f21.body).getD .skip
noncomputable def c21al : Code := cL c21a
noncomputable def p21al (C : CF) (L : Nat) {β : Type} (x0 x1 x2 : Value) (h : H) (kn : Value → Value → Value → H → Option β) : Option β :=
  kn x0 x2 x1 h
theorem ep21al (C : CF) (L : Nat) {β : Type} (x0 x1 x2 : Value) (h : H) (K : Ex → T Value → H → Option β) :
    execK Try.prog C L 0 51 [6] c21al [0, 2, 1] [] (fs [(0, x0), (1, x1), (2, x2)]) h K =
      p21al C L x0 x1 x2 h (fun x0 x2 x1 h => K .normal (fs [(0, x0), (2, x2), (1, x1)]) h) := by
  kernel_rfl
noncomputable def c21ar : Code := cR c21a
noncomputable def c21arl : Code := cL c21ar
noncomputable def c21arll : Code := cL c21arl
noncomputable def p21arll (C : CF) (L : Nat) {β : Type} (x0 x2 x1 : Value) (h : H) (kn : Value → Value → Value → Value → H → Option β) : Option β :=
  bnd (A.bin Try.prog .eql 25 x0 (.pointer none)) fun t10 =>
  toBK t10 fun b =>
  (bif b then
  kn (.bool true) x0 x2 x1 h
  else
  bnd (A.bin Try.prog .lss 3 x1 (.int .i64 0)) fun t13 =>
  toBK t13 fun bq1 =>
  (bif bq1 then
  kn (.bool true) x0 x2 x1 h
  else
  bnd (A.nilCheck x0) fun t18 =>
  bnd (A.fieldAddr 0 t18) fun t19 =>
  bnd (A.load false 1 t19 h) fun t20 =>
  bnd (A.bin Try.prog .geq 3 x1 t20) fun t21 =>
  toBK t21 fun bq2 =>
  (bif bq2 then
  kn (.bool true) x0 x2 x1 h
  else
  bnd (A.bin Try.prog .lss 3 x2 (.int .i64 0)) fun t25 =>
  toBK t25 fun bq3 =>
  (bif bq3 then
  kn (.bool true) x0 x2 x1 h
  else
  bnd (A.bin Try.prog .gtr 3 x2 (.int .i64 7)) fun t29 =>
  toBK t29 fun bq4 =>
  kn (.bool bq4) x0 x2 x1 h))))
theorem ep21arll (C : CF) (L : Nat) {β : Type} (x0 x2 x1 : Value) (h : H) (K : Ex → T Value → H → Option β) :
    execK Try.prog C L 0 51 [6] c21arll [30, 0, 2, 1] [] (fs [(0, x0), (2, x2), (1, x1)]) h K =
      p21arll C L x0 x2 x1 h (fun x30 x0 x2 x1 h => K .normal (fs [(30, x30), (0, x0), (2, x2), (1, x1)]) h) := by
  kernel_rfl
noncomputable def c21arlr : Code := cR c21arl
noncomputable def p21arlr (C : CF) (L : Nat) {β : Type} (x30 x0 x2 x1 : Value) (h : H) (kr : Value → H → Option β) (kn : Value → Value → Value → H → Option β) : Option β :=
  condV x30 (
  kr (.bool false) h) (
  kn x0 x2 x1 h)
theorem ep21arlr (C : CF) (L : Nat) {β : Type} (x30 x0 x2 x1 : Value) (h : H) (K : Ex → T Value → H → Option β) :
    execK Try.prog C L 0 51 [6] c21arlr [0, 2, 1] [] (fs [(30, x30), (0, x0), (2, x2), (1, x1)]) h K =
      p21arlr C L x30 x0 x2 x1 h (fun x6 h => K .ret (fs [(6, x6)]) h) (fun x0 x2 x1 h => K .normal (fs [(0, x0), (2, x2), (1, x1)]) h) := by
  kernel_rfl
noncomputable def p21arl (C : CF) (L : Nat) {β : Type} (x0 x2 x1 : Value) (h : H) (kr : Value → H → Option β) (kn : Value → Value → Value → H → Option β) : Option β :=
  p21arll C L x0 x2 x1 h (fun x30 x0 x2 x1 h => p21arlr C L x30 x0 x2 x1 h kr kn)
theorem ep21arl (C : CF) (L : Nat) {β : Type} (x0 x2 x1 : Value) (h : H) (K : Ex → T Value → H → Option β) :
    execK Try.prog C L 0 51 [6] c21arl [0, 2, 1] [] (fs [(0, x0), (2, x2), (1, x1)]) h K =
      p21arl C L x0 x2 x1 h (fun x6 h => K .ret (fs [(6, x6)]) h) (fun x0 x2 x1 h => K .normal (fs [(0, x0), (2, x2), (1, x1)]) h) := by
  rw [execK_seq (a := c21arll) (b := c21arlr) (by kernel_rfl) (show live [6] c21arlr [0, 2, 1] [] = [30, 0, 2, 1] by kernel_rfl), ep21arll]
  unfold p21arl
  exact (congrArg (p21arll C L x0 x2 x1 h) (funext fun x30 => funext fun x0 => funext fun x2 => funext fun x1 => funext fun h => (seqK_n _ _ _).trans (ep21arlr C L x30 x0 x2 x1 h K)))
noncomputable def c21arr : Code := cR c21ar
noncomputable def c21arrl : Code := cL c21arr
noncomputable def c21arrll : Code := cL c21arrl
noncomputable def p21arrll (C : CF) (L : Nat) {β : Type} (x0 x2 x1 : Value) (h : H) (kn : Value → Value → Value → H → Option β) : Option β :=
  bnd (A.nilCheck x0) fun t32 =>
  bnd (A.fieldAddr 3 t32) fun t33 =>
  bnd (A.load false 1 t33 h) fun t34 =>
  bnd (A.bin Try.prog .mul 3 x1 (.int .i64 7)) fun t36 =>
  bnd (A.bin Try.prog .add 3 t36 x2) fun t38 =>
  bnd (A.bin Try.prog .add 3 x1 (.int .i64 1)) fun t40 =>
  bnd (A.bin Try.prog .mul 3 t40 (.int .i64 7)) fun t41 =>
  bnd (A.sliceS 1 t34 (some t38) (some t41) none h) fun t42 =>
  bnd (A.lenS t42) fun t43 =>
  kn t43 (.int .i64 0) t42 h
theorem ep21arrll (C : CF) (L : Nat) {β : Type} (x0 x2 x1 : Value) (h : H) (K : Ex → T Value → H → Option β) :
    execK Try.prog C L 0 51 [6] c21arrll [43, 44, 42] [] (fs [(0, x0), (2, x2), (1, x1)]) h K =
      p21arrll C L x0 x2 x1 h (fun x43 x44 x42 h => K .normal (fs [(43, x43), (44, x44), (42, x42)]) h) := by
  kernel_rfl
noncomputable def c21arrlr : Code := cR c21arrl
noncomputable def c21arrlrb : Code := cL c21arrlr
noncomputable def c21arrlrbo : Code := cL c21arrlrb
noncomputable def p21arrlrbo (C : CF) (L : Nat) {β : Type} (x43 x44 x42 : Value) (h : H) (kr : Value → H → Option β) (kn : Value → Value → Value → H → Option β) (kx0 : H → Option β) : Option β :=
  bnd (A.bin Try.prog .lss 3 x44 x43) fun t45 =>
  condV t45 (
  bnd (A.idxS 1 x42 x44) fun t46 =>
  bnd (A.load false 1 t46 h) fun t47 =>
  bnd (A.bin Try.prog .gtr 3 t47 (.int .i64 0)) fun t49 =>
  toBK t49 fun b =>
  (bif b then
  kr (.bool false) h
  else
  bnd (A.bin Try.prog .add 3 x44 (.int .i64 1)) fun t50 =>
  kn x43 t50 x42 h)) (
  kx0 h)
theorem ep21arrlrbo (C : CF) (L : Nat) {β : Type} (x43 x44 x42 : Value) (h : H) (K : Ex → T Value → H → Option β) :
    execK Try.prog C L 0 51 [6] c21arrlrbo [43, 44, 42] [(0, [])] (fs [(43, x43), (44, x44), (42, x42)]) h K =
      p21arrlrbo C L x43 x44 x42 h (fun x6 h => K .ret (fs [(6, x6)]) h) (fun x43 x44 x42 h => K .normal (fs [(43, x43), (44, x44), (42, x42)]) h) (fun h => K (.exit 0) (fs []) h) := by
  kernel_rfl
noncomputable def p21arrlrbw (C : CF) (L : Nat) {β : Type} (kr : Value → H → Option β) (kx0 : H → Option β) : Nat → Value → Value → Value → H → Option β
  | 0, _, _, _, _ => none
  | n + 1, x43, x44, x42, h => p21arrlrbo C L x43 x44 x42 h kr (fun x43 x44 x42 h => p21arrlrbw C L kr kx0 n x43 x44 x42 h) kx0
theorem ep21arrlrbw (C : CF) (L : Nat) {β : Type} (K : Ex → T Value → H → Option β) : ∀ (n : Nat) (x43 x44 x42 : Value) (h : H),
    loopK (fun fr h K => execK Try.prog C L 0 51 [6] c21arrlrbo [43, 44, 42] [(0, [])] fr h K) n (fs [(43, x43), (44, x44), (42, x42)]) h K =
      p21arrlrbw C L (fun x6 h => K .ret (fs [(6, x6)]) h) (fun h => K (.exit 0) (fs []) h) n x43 x44 x42 h := by
  intro n
  induction n with
  | zero => intros; rfl
  | succ n ih =>
    intros
    simp only [loopK]
    rw [ep21arrlrbo]
    simp only [seqK_n, seqK_x, seqK_r, ih]
    rfl
noncomputable def p21arrlrb (C : CF) (L : Nat) {β : Type} (x43 x44 x42 : Value) (h : H) (kr : Value → H → Option β) (kx0 : H → Option β) : Option β :=
  p21arrlrbw C L kr kx0 L x43 x44 x42 h
theorem ep21arrlrb (C : CF) (L : Nat) {β : Type} (x43 x44 x42 : Value) (h : H) (K : Ex → T Value → H → Option β) :
    execK Try.prog C L 0 51 [6] c21arrlrb [] [(0, [])] (fs [(43, x43), (44, x44), (42, x42)]) h K =
      p21arrlrb C L x43 x44 x42 h (fun x6 h => K .ret (fs [(6, x6)]) h) (fun h => K (.exit 0) (fs []) h) := by
  rw [execK_loop (b := c21arrlrbo) (fr1 := (fs [(43, x43), (44, x44), (42, x42)])) (by kernel_rfl) (show live [6] c21arrlrbo [] [(0, [])] = [43, 44, 42] by kernel_rfl) (by kernel_rfl), ep21arrlrbw]
  unfold p21arrlrb
  rfl
noncomputable def p21arrlr (C : CF) (L : Nat) {β : Type} (x43 x44 x42 : Value) (h : H) (kr : Value → H → Option β) (kn : H → Option β) : Option β :=
  p21arrlrb C L x43 x44 x42 h kr kn
theorem ep21arrlr (C : CF) (L : Nat) {β : Type} (x43 x44 x42 : Value) (h : H) (K : Ex → T Value → H → Option β) :
    execK Try.prog C L 0 51 [6] c21arrlr [] [] (fs [(43, x43), (44, x44), (42, x42)]) h K =
      p21arrlr C L x43 x44 x42 h (fun x6 h => K .ret (fs [(6, x6)]) h) (fun h => K .normal (fs []) h) := by
  rw [execK_block (b := c21arrlrb) (id := 0) (by kernel_rfl), ep21arrlrb]
  unfold p21arrlr
  rfl
noncomputable def p21arrl (C : CF) (L : Nat) {β : Type} (x0 x2 x1 : Value) (h : H) (kr : Value → H → Option β) (kn : H → Option β) : Option β :=
  p21arrll C L x0 x2 x1 h (fun x43 x44 x42 h => p21arrlr C L x43 x44 x42 h kr kn)
theorem ep21arrl (C : CF) (L : Nat) {β : Type} (x0 x2 x1 : Value) (h : H) (K : Ex → T Value → H → Option β) :
    execK Try.prog C L 0 51 [6] c21arrl [] [] (fs [(0, x0), (2, x2), (1, x1)]) h K =
      p21arrl C L x0 x2 x1 h (fun x6 h => K .ret (fs [(6, x6)]) h) (fun h => K .normal (fs []) h) := by
  rw [execK_seq (a := c21arrll) (b := c21arrlr) (by kernel_rfl) (show live [6] c21arrlr [] [] = [43, 44, 42] by kernel_rfl), ep21arrll]
  unfold p21arrl
  exact (congrArg (p21arrll C L x0 x2 x1 h) (funext fun x43 => funext fun x44 => funext fun x42 => funext fun h => (seqK_n _ _ _).trans (ep21arrlr C L x43 x44 x42 h K)))
noncomputable def c21arrr : Code := cR c21arr
noncomputable def p21arrr (C : CF) (L : Nat) {β : Type} (h : H) (kr : Value → H → Option β) : Option β :=
  kr (.bool true) h
theorem ep21arrr (C : CF) (L : Nat) {β : Type} (h : H) (K : Ex → T Value → H → Option β) :
    execK Try.prog C L 0 51 [6] c21arrr [6] [] (fs []) h K =
      p21arrr C L h (fun x6 h => K .ret (fs [(6, x6)]) h) := by
  kernel_rfl
noncomputable def p21arr (C : CF) (L : Nat) {β : Type} (x0 x2 x1 : Value) (h : H) (kr : Value → H → Option β) : Option β :=
  p21arrl C L x0 x2 x1 h kr (fun h => p21arrr C L h kr)
theorem ep21arr (C : CF) (L : Nat) {β : Type} (x0 x2 x1 : Value) (h : H) (K : Ex → T Value → H → Option β) :
    execK Try.prog C L 0 51 [6] c21arr [6] [] (fs [(0, x0), (2, x2), (1, x1)]) h K =
      p21arr C L x0 x2 x1 h (fun x6 h => K .ret (fs [(6, x6)]) h) := by
  rw [execK_seq (a := c21arrl) (b := c21arrr) (by kernel_rfl) (show live [6] c21arrr [6] [] = [] by kernel_rfl), ep21arrl]
  unfold p21arr
  exact (congr (congrArg (p21arrl C L x0 x2 x1 h) (funext fun x6 => funext fun h => seqK_r _ _ _)) (funext fun h => (seqK_n _ _ _).trans (ep21arrr C L h K)))
noncomputable def p21ar (C : CF) (L : Nat) {β : Type} (x0 x2 x1 : Value) (h : H) (kr : Value → H → Option β) : Option β :=
  p21arl C L x0 x2 x1 h kr (fun x0 x2 x1 h => p21arr C L x0 x2 x1 h kr)
theorem ep21ar (C : CF) (L : Nat) {β : Type} (x0 x2 x1 : Value) (h : H) (K : Ex → T Value → H → Option β) :
    execK Try.prog C L 0 51 [6] c21ar [6] [] (fs [(0, x0), (2, x2), (1, x1)]) h K =
      p21ar C L x0 x2 x1 h (fun x6 h => K .ret (fs [(6, x6)]) h) := by
  rw [execK_seq (a := c21arl) (b := c21arr) (by kernel_rfl) (show live [6] c21arr [6] [] = [0, 2, 1] by kernel_rfl), ep21arl]
  unfold p21ar
  exact (congr (congrArg (p21arl C L x0 x2 x1 h) (funext fun x6 => funext fun h => seqK_r _ _ _)) (funext fun x0 => funext fun x2 => funext fun x1 => funext fun h => (seqK_n _ _ _).trans (ep21arr C L x0 x2 x1 h K)))
noncomputable def p21a (C : CF) (L : Nat) {β : Type} (x0 x1 x2 : Value) (h : H) (kr : Value → H → Option β) : Option β :=
  p21al C L x0 x1 x2 h (fun x0 x2 x1 h => p21ar C L x0 x2 x1 h kr)
theorem ep21a (C : CF) (L : Nat) {β : Type} (x0 x1 x2 : Value) (h : H) (K : Ex → T Value → H → Option β) :
    execK Try.prog C L 0 51 [6] c21a [6] [] (fs [(0, x0), (1, x1), (2, x2)]) h K =
      p21a C L x0 x1 x2 h (fun x6 h => K .ret (fs [(6, x6)]) h) := by
  rw [execK_seq (a := c21al) (b := c21ar) (by kernel_rfl) (show live [6] c21ar [6] [] = [0, 2, 1] by kernel_rfl), ep21al]
  unfold p21a
  exact (congrArg (p21al C L x0 x1 x2 h) (funext fun x0 => funext fun x2 => funext fun x1 => funext fun h => (seqK_n _ _ _).trans (ep21ar C L x0 x2 x1 h K)))
noncomputable def F21 (C : CF) (L : Nat) (x0 x1 x2 : Value) (h : H) : Option (Value × H) :=
  p21a C L x0 x1 x2 h
    (fun x6 h => some (x6, h))
theorem F21eq (O : List FuncId) (hO : O.any (Nat.beq 21) = false) (n : Nat) (x0 x1 x2 : Value) (h : H) : callB Try.prog 0 O (n + 1) 21 [x0, x1, x2] h = F21 (callB Try.prog 0 O n) n x0 x1 x2 h := by
  rw [callB_eq hO (c := c21a) (nt := 51) (RR := [6]) (fr := (fs [(0, x0), (1, x1), (2, x2)])) Try.func21 (by kernel_rfl) (by kernel_rfl) (by kernel_rfl) (by kernel_rfl) (by kernel_rfl), ep21a]
  kernel_rfl
noncomputable def c23a : Code := (Try.f23.body).getD .skip
noncomputable def p23a (C : CF) (L : Nat) {β : Type} (x0 x1 x2 x3 : Value) (h : H) (kr : Value → H → Option β) : Option β :=
  bnd2 (C 34 [x0, x1, x2, x3] h) fun t14 hq1 =>
  bnd (A.bin Try.prog .lss 3 t14 (.int .i64 0)) fun t16 =>
  toBK t16 fun b =>
  (bif b then
  kr (.int .i64 0) hq1
  else
  bnd (A.nilCheck x0) fun t18 =>
  bnd (A.fieldAddr 2 t18) fun t19 =>
  bnd (A.load false 1 t19 hq1) fun t20 =>
  bnd (A.idxS 1 t20 t14) fun t22 =>
  bnd (A.load false 1 t22 hq1) fun t23 =>
  bnd (A.lenS t23) fun t24 =>
  kr t24 hq1)
theorem ep23a (C : CF) (L : Nat) {β : Type} (x0 x1 x2 x3 : Value) (h : H) (K : Ex → T Value → H → Option β) :
    execK Try.prog C L 0 25 [8] c23a [8] [] (fs [(0, x0), (1, x1), (2, x2), (3, x3)]) h K =
      p23a C L x0 x1 x2 x3 h (fun x8 h => K .ret (fs [(8, x8)]) h) := by
  kernel_rfl
noncomputable def F23 (C : CF) (L : Nat) (x0 x1 x2 x3 : Value) (h : H) : Option (Value × H) :=
  p23a C L x0 x1 x2 x3 h
    (fun x8 h => some (x8, h))
theorem F23eq (O : List FuncId) (hO : O.any (Nat.beq 23) = false) (n : Nat) (x0 x1 x2 x3 : Value) (h : H) : callB Try.prog 0 O (n + 1) 23 [x0, x1, x2, x3] h = F23 (callB Try.prog 0 O n) n x0 x1 x2 x3 h := by
  rw [callB_eq hO (c := c23a) (nt := 25) (RR := [8]) (fr := (fs [(0, x0), (1, x1), (2, x2), (3, x3)])) Try.func23 (by kernel_rfl) (by kernel_rfl) (by kernel_rfl) (by kernel_rfl) (by kernel_rfl), ep23a]
  kernel_rfl
noncomputable def c25a : Code := (Try.f25.body).getD .skip
noncomputable def p25a (C : CF) (L : Nat) {β : Type} (x0 : Value) (h : H) (kr : Value → H → Option β) : Option β :=
  bnd (A.bin Try.prog .eql 25 x0 (.pointer none)) fun t4 =>
  toBK t4 fun b =>
  (bif b then
  kr (.int .i64 0) h
  else
  bnd (A.nilCheck x0) fun t6 =>
  bnd (A.fieldAddr 4 t6) fun t7 =>
  bnd (A.load false 1 t7 h) fun t8 =>
  kr t8 h)
theorem ep25a (C : CF) (L : Nat) {β : Type} (x0 : Value) (h : H) (K : Ex → T Value → H → Option β) :
    execK Try.prog C L 0 9 [2] c25a [2] [] (fs [(0, x0)]) h K =
      p25a C L x0 h (fun x2 h => K .ret (fs [(2, x2)]) h) := by
  kernel_rfl
noncomputable def F25 (C : CF) (L : Nat) (x0 : Value) (h : H) : Option (Value × H) :=
  p25a C L x0 h
    (fun x2 h => some (x2, h))
theorem F25eq (O : List FuncId) (hO : O.any (Nat.beq 25) = false) (n : Nat) (x0 : Value) (h : H) : callB Try.prog 0 O (n + 1) 25 [x0] h = F25 (callB Try.prog 0 O n) n x0 h := by
  rw [callB_eq hO (c := c25a) (nt := 9) (RR := [2]) (fr := (fs [(0, x0)])) Try.func25 (by kernel_rfl) (by kernel_rfl) (by kernel_rfl) (by kernel_rfl) (by kernel_rfl), ep25a]
  kernel_rfl
noncomputable def c27a : Code := (Try.f27.body).getD .skip
noncomputable def p27a (C : CF) (L : Nat) {β : Type} (x0 : Value) (h : H) (kr : Value → H → Option β) : Option β :=
  bnd2 (C 25 [x0] h) fun t4 hq1 =>
  bnd (A.bin Try.prog .eql 3 t4 (.int .i64 0)) fun t5 =>
  toBK t5 fun b =>
  kr (.bool b) hq1
theorem ep27a (C : CF) (L : Nat) {β : Type} (x0 : Value) (h : H) (K : Ex → T Value → H → Option β) :
    execK Try.prog C L 0 6 [2] c27a [2] [] (fs [(0, x0)]) h K =
      p27a C L x0 h (fun x2 h => K .ret (fs [(2, x2)]) h) := by
  kernel_rfl
noncomputable def F27 (C : CF) (L : Nat) (x0 : Value) (h : H) : Option (Value × H) :=
  p27a C L x0 h
    (fun x2 h => some (x2, h))
theorem F27eq (O : List FuncId) (hO : O.any (Nat.beq 27) = false) (n : Nat) (x0 : Value) (h : H) : callB Try.prog 0 O (n + 1) 27 [x0] h = F27 (callB Try.prog 0 O n) n x0 h := by
  rw [callB_eq hO (c := c27a) (nt := 6) (RR := [2]) (fr := (fs [(0, x0)])) Try.func27 (by kernel_rfl) (by kernel_rfl) (by kernel_rfl) (by kernel_rfl) (by kernel_rfl), ep27a]
  kernel_rfl
noncomputable def c32a : Code := (Try.f32.body).getD .skip
noncomputable def c32al : Code := cL c32a
noncomputable def p32al (C : CF) (L : Nat) {β : Type} (x0 : Value) (h : H) (kn : Value → H → Option β) : Option β :=
  kn x0 h
theorem ep32al (C : CF) (L : Nat) {β : Type} (x0 : Value) (h : H) (K : Ex → T Value → H → Option β) :
    execK Try.prog C L 0 54 [2] c32al [0] [] (fs [(0, x0)]) h K =
      p32al C L x0 h (fun x0 h => K .normal (fs [(0, x0)]) h) := by
  kernel_rfl
noncomputable def c32ar : Code := cR c32a
noncomputable def c32arl : Code := cL c32ar
noncomputable def p32arl (C : CF) (L : Nat) {β : Type} (x0 : Value) (h : H) (kn : Value → H → Option β) : Option β :=
  bnd2 (C 41 [x0] h) fun t9 hq1 =>
  kn t9 hq1
theorem ep32arl (C : CF) (L : Nat) {β : Type} (x0 : Value) (h : H) (K : Ex → T Value → H → Option β) :
    execK Try.prog C L 0 54 [2] c32arl [3] [] (fs [(0, x0)]) h K =
      p32arl C L x0 h (fun x3 h => K .normal (fs [(3, x3)]) h) := by
  kernel_rfl
noncomputable def c32arr : Code := cR c32ar
noncomputable def c32arrl : Code := cL c32arr
noncomputable def c32arrll : Code := cL c32arrl
noncomputable def p32arrll (C : CF) (L : Nat) {β : Type} (x3 : Value) (h : H) (kn : Value → Value → Value → Value → H → Option β) : Option β :=
  bnd (A.lenS x3) fun t11 =>
  kn t11 (.int .i64 0) x3 x3 h
theorem ep32arrll (C : CF) (L : Nat) {β : Type} (x3 : Value) (h : H) (K : Ex → T Value → H → Option β) :
    execK Try.prog C L 0 54 [2] c32arrll [11, 12, 10, 3] [] (fs [(3, x3)]) h K =
      p32arrll C L x3 h (fun x11 x12 x10 x3 h => K .normal (fs [(11, x11), (12, x12), (10, x10), (3, x3)]) h) := by
  kernel_rfl
noncomputable def c32arrlr : Code := cR c32arrl
noncomputable def c32arrlrb : Code := cL c32arrlr
noncomputable def c32arrlrbo : Code := cL c32arrlrb
noncomputable def c32arrlrbol : Code := cL c32arrlrbo
noncomputable def p32arrlrbol (C : CF) (L : Nat) {β : Type} (x11 x12 x10 x3 : Value) (h : H) (kn : Value → Value → Value → Value → Value → H → Option β) : Option β :=
  bnd (A.bin Try.prog .lss 3 x12 x11) fun t13 =>
  kn t13 x10 x11 x12 x3 h
theorem ep32arrlrbol (C : CF) (L : Nat) {β : Type} (x11 x12 x10 x3 : Value) (h : H) (K : Ex → T Value → H → Option β) :
    execK Try.prog C L 0 54 [2] c32arrlrbol [13, 10, 11, 12, 3] [(0, [3])] (fs [(11, x11), (12, x12), (10, x10), (3, x3)]) h K =
      p32arrlrbol C L x11 x12 x10 x3 h (fun x13 x10 x11 x12 x3 h => K .normal (fs [(13, x13), (10, x10), (11, x11), (12, x12), (3, x3)]) h) := by
  kernel_rfl
noncomputable def c32arrlrbor : Code := cR c32arrlrbo
noncomputable def c32arrlrborl : Code := cL c32arrlrbor
noncomputable def p32arrlrborl (C : CF) (L : Nat) {β : Type} (x13 x10 x11 x12 x3 : Value) (h : H) (kn : Value → Value → Value → Value → H → Option β) (kx0 : Value → H → Option β) : Option β :=
  condV x13 (
  kn x12 x11 x10 x3 h) (
  kx0 x3 h)
theorem ep32arrlrborl (C : CF) (L : Nat) {β : Type} (x13 x10 x11 x12 x3 : Value) (h : H) (K : Ex → T Value → H → Option β) :
    execK Try.prog C L 0 54 [2] c32arrlrborl [12, 11, 10, 3] [(0, [3])] (fs [(13, x13), (10, x10), (11, x11), (12, x12), (3, x3)]) h K =
      p32arrlrborl C L x13 x10 x11 x12 x3 h (fun x12 x11 x10 x3 h => K .normal (fs [(12, x12), (11, x11), (10, x10), (3, x3)]) h) (fun x3 h => K (.exit 0) (fs [(3, x3)]) h) := by
  kernel_rfl
noncomputable def c32arrlrborr : Code := cR c32arrlrbor
noncomputable def c32arrlrborrl : Code := cL c32arrlrborr
noncomputable def c32arrlrborrlb : Code := cL c32arrlrborrl
noncomputable def c32arrlrborrlbl : Code := cL c32arrlrborrlb
noncomputable def p32arrlrborrlbl (C : CF) (L : Nat) {β : Type} (x12 x11 x10 x3 : Value) (h : H) (kn : Value → Value → Value → Value → Value → Value → H → Option β) : Option β :=
  bnd (A.idxS 38 x10 x12) fun t15 =>
  bnd (A.load true 38 t15 h) fun t16 =>
  bnd2 (A.box 38 Z71 h) fun t5 hq1 =>
  bnd (A.store 38 t5 t16 hq1) fun hq2 =>
  kn x12 t5 x12 x11 x10 x3 hq2
theorem ep32arrlrborrlbl (C : CF) (L : Nat) {β : Type} (x12 x11 x10 x3 : Value) (h : H) (K : Ex → T Value → H → Option β) :
    execK Try.prog C L 0 54 [2] c32arrlrborrlbl [4, 5, 12, 11, 10, 3] [(1, [12, 11, 10, 3]), (0, [3])] (fs [(12, x12), (11, x11), (10, x10), (3, x3)]) h K =
      p32arrlrborrlbl C L x12 x11 x10 x3 h (fun x4 x5 x12 x11 x10 x3 h => K .normal (fs [(4, x4), (5, x5), (12, x12), (11, x11), (10, x10), (3, x3)]) h) := by
  kernel_rfl
noncomputable def c32arrlrborrlbr : Code := cR c32arrlrborrlb
noncomputable def c32arrlrborrlbrl : Code := cL c32arrlrborrlbr
noncomputable def p32arrlrborrlbrl (C : CF) (L : Nat) {β : Type} (x4 x5 x12 x11 x10 x3 : Value) (h : H) (kn : Value → Value → Value → Value → Value → Value → H → Option β) : Option β :=
  bnd (A.fieldAddr 5 x5) fun t17 =>
  bnd (A.load true 24 t17 h) fun t18 =>
  bnd2 (C 42 [t18] h) fun t19 hq1 =>
  bnd (A.fieldAddr 5 x5) fun t20 =>
  bnd (A.store 24 t20 t19 hq1) fun hq2 =>
  kn x4 x5 x12 x11 x10 x3 hq2
theorem ep32arrlrborrlbrl (C : CF) (L : Nat) {β : Type} (x4 x5 x12 x11 x10 x3 : Value) (h : H) (K : Ex → T Value → H → Option β) :
    execK Try.prog C L 0 54 [2] c32arrlrborrlbrl [4, 5, 12, 11, 10, 3] [(1, [12, 11, 10, 3]), (0, [3])] (fs [(4, x4), (5, x5), (12, x12), (11, x11), (10, x10), (3, x3)]) h K =
      p32arrlrborrlbrl C L x4 x5 x12 x11 x10 x3 h (fun x4 x5 x12 x11 x10 x3 h => K .normal (fs [(4, x4), (5, x5), (12, x12), (11, x11), (10, x10), (3, x3)]) h) := by
  kernel_rfl
noncomputable def c32arrlrborrlbrr : Code := cR c32arrlrborrlbr
noncomputable def c32arrlrborrlbrrl : Code := cL c32arrlrborrlbrr
noncomputable def p32arrlrborrlbrrl (C : CF) (L : Nat) {β : Type} (x4 x5 x12 x11 x10 x3 : Value) (h : H) (kn : Value → Value → Value → Value → Value → Value → H → Option β) : Option β :=
  bnd (A.fieldAddr 33 x5) fun t21 =>
  bnd (A.load false 1 t21 h) fun t22 =>
  bnd2 (C 43 [t22] h) fun t23 hq1 =>
  bnd (A.fieldAddr 33 x5) fun t24 =>
  bnd (A.store 1 t24 t23 hq1) fun hq2 =>
  kn x4 x5 x12 x11 x10 x3 hq2
theorem ep32arrlrborrlbrrl (C : CF) (L : Nat) {β : Type} (x4 x5 x12 x11 x10 x3 : Value) (h : H) (K : Ex → T Value → H → Option β) :
    execK Try.prog C L 0 54 [2] c32arrlrborrlbrrl [4, 5, 12, 11, 10, 3] [(1, [12, 11, 10, 3]), (0, [3])] (fs [(4, x4), (5, x5), (12, x12), (11, x11), (10, x10), (3, x3)]) h K =
      p32arrlrborrlbrrl C L x4 x5 x12 x11 x10 x3 h (fun x4 x5 x12 x11 x10 x3 h => K .normal (fs [(4, x4), (5, x5), (12, x12), (11, x11), (10, x10), (3, x3)]) h) := by
  kernel_rfl
noncomputable def c32arrlrborrlbrrr : Code := cR c32arrlrborrlbrr
noncomputable def c32arrlrborrlbrrrl : Code := cL c32arrlrborrlbrrr
noncomputable def p32arrlrborrlbrrrl (C : CF) (L : Nat) {β : Type} (x4 x5 x12 x11 x10 x3 : Value) (h : H) (kn : Value → Value → Value → Value → Value → Value → H → Option β) : Option β :=
  bnd (A.fieldAddr 34 x5) fun t25 =>
  bnd (A.load false 1 t25 h) fun t26 =>
  bnd2 (C 44 [t26] h) fun t27 hq1 =>
  bnd (A.fieldAddr 34 x5) fun t28 =>
  bnd (A.store 1 t28 t27 hq1) fun hq2 =>
  kn x4 x5 x12 x11 x10 x3 hq2
theorem ep32arrlrborrlbrrrl (C : CF) (L : Nat) {β : Type} (x4 x5 x12 x11 x10 x3 : Value) (h : H) (K : Ex → T Value → H → Option β) :
    execK Try.prog C L 0 54 [2] c32arrlrborrlbrrrl [4, 5, 12, 11, 10, 3] [(1, [12, 11, 10, 3]), (0, [3])] (fs [(4, x4), (5, x5), (12, x12), (11, x11), (10, x10), (3, x3)]) h K =
      p32arrlrborrlbrrrl C L x4 x5 x12 x11 x10 x3 h (fun x4 x5 x12 x11 x10 x3 h => K .normal (fs [(4, x4), (5, x5), (12, x12), (11, x11), (10, x10), (3, x3)]) h) := by
  kernel_rfl
noncomputable def c32arrlrborrlbrrrr : Code := cR c32arrlrborrlbrrr
noncomputable def c32arrlrborrlbrrrrl : Code := cL c32arrlrborrlbrrrr
noncomputable def p32arrlrborrlbrrrrl (C : CF) (L : Nat) {β : Type} (x4 x5 x12 x11 x10 x3 : Value) (h : H) (kn : Value → Value → Value → Value → Value → Value → H → Option β) : Option β :=
  bnd (A.fieldAddr 35 x5) fun t29 =>
  bnd (A.load false 1 t29 h) fun t30 =>
  bnd2 (C 45 [t30] h) fun t31 hq1 =>
  bnd (A.fieldAddr 35 x5) fun t32 =>
  bnd (A.store 1 t32 t31 hq1) fun hq2 =>
  kn x4 x5 x12 x11 x10 x3 hq2
theorem ep32arrlrborrlbrrrrl (C : CF) (L : Nat) {β : Type} (x4 x5 x12 x11 x10 x3 : Value) (h : H) (K : Ex → T Value → H → Option β) :
    execK Try.prog C L 0 54 [2] c32arrlrborrlbrrrrl [4, 5, 12, 11, 10, 3] [(1, [12, 11, 10, 3]), (0, [3])] (fs [(4, x4), (5, x5), (12, x12), (11, x11), (10, x10), (3, x3)]) h K =
      p32arrlrborrlbrrrrl C L x4 x5 x12 x11 x10 x3 h (fun x4 x5 x12 x11 x10 x3 h => K .normal (fs [(4, x4), (5, x5), (12, x12), (11, x11), (10, x10), (3, x3)]) h) := by
  kernel_rfl
noncomputable def c32arrlrborrlbrrrrr : Code := cR c32arrlrborrlbrrrr
noncomputable def c32arrlrborrlbrrrrrl : Code := cL c32arrlrborrlbrrrrr
noncomputable def c32arrlrborrlbrrrrrll : Code := cL c32arrlrborrlbrrrrrl
noncomputable def p32arrlrborrlbrrrrrll (C : CF) (L : Nat) {β : Type} (x4 x5 x12 x11 x10 x3 : Value) (h : H) (kn : Value → Value → Value → Value → Value → Value → Value → Value → Value → H → Option β) : Option β :=
  bnd (A.fieldAddr 35 x5) fun t33 =>
  bnd (A.load false 1 t33 h) fun t34 =>
  bnd (A.lenS t34) fun t35 =>
  kn t35 (.int .i64 0) t34 x4 x5 x12 x11 x10 x3 h
theorem ep32arrlrborrlbrrrrrll (C : CF) (L : Nat) {β : Type} (x4 x5 x12 x11 x10 x3 : Value) (h : H) (K : Ex → T Value → H → Option β) :
    execK Try.prog C L 0 54 [2] c32arrlrborrlbrrrrrll [35, 36, 34, 4, 5, 12, 11, 10, 3] [(1, [12, 11, 10, 3]), (0, [3])] (fs [(4, x4), (5, x5), (12, x12), (11, x11), (10, x10), (3, x3)]) h K =
      p32arrlrborrlbrrrrrll C L x4 x5 x12 x11 x10 x3 h (fun x35 x36 x34 x4 x5 x12 x11 x10 x3 h => K .normal (fs [(35, x35), (36, x36), (34, x34), (4, x4), (5, x5), (12, x12), (11, x11), (10, x10), (3, x3)]) h) := by
  kernel_rfl
noncomputable def c32arrlrborrlbrrrrrlr : Code := cR c32arrlrborrlbrrrrrl
noncomputable def c32arrlrborrlbrrrrrlrb : Code := cL c32arrlrborrlbrrrrrlr
noncomputable def c32arrlrborrlbrrrrrlrbo : Code := cL c32arrlrborrlbrrrrrlrb
noncomputable def p32arrlrborrlbrrrrrlrbo (C : CF) (L : Nat) {β : Type} (x35 x36 x34 x4 x5 x12 x11 x10 x3 : Value) (h : H) (kn : Value → Value → Value → Value → Value → Value → Value → Value → Value → H → Option β) (kx2 : Value → Value → Value → Value → Value → Value → H → Option β) : Option β :=
  bnd (A.bin Try.prog .lss 3 x36 x35) fun t37 =>
  condV t37 (
  bnd (A.idxS 24 x34 x36) fun t39 =>
  bnd (A.load true 24 t39 h) fun t40 =>
  bnd2 (A.box 24 Z66 h) fun t7 hq1 =>
  bnd (A.store 24 t7 t40 hq1) fun hq2 =>
  bnd (A.fieldAddr 35 x5) fun t41 =>
  bnd (A.load false 1 t41 hq2) fun t42 =>
  bnd (A.load true 24 t7 hq2) fun t44 =>
  bnd2 (C 42 [t44] hq2) fun t45 hq3 =>
  bif (chk (bnd (A.load false 1 t41 hq3) fun v => some v) t42 && true) then
  bnd (A.idxS 24 t42 x36) fun t46 =>
  bnd (A.store 24 t46 t45 hq3) fun hq4 =>
  bnd (A.bin Try.prog .add 3 x36 (.int .i64 1)) fun t47 =>
  kn x35 t47 x34 x4 x5 x12 x11 x10 x3 hq4
  else none) (
  kx2 x4 x5 x12 x11 x10 x3 h)
theorem ep32arrlrborrlbrrrrrlrbo (C : CF) (L : Nat) {β : Type} (x35 x36 x34 x4 x5 x12 x11 x10 x3 : Value) (h : H) (K : Ex → T Value → H → Option β) :
    execK Try.prog C L 0 54 [2] c32arrlrborrlbrrrrrlrbo [35, 36, 34, 4, 5, 12, 11, 10, 3] [(2, [4, 5, 12, 11, 10, 3]), (1, [12, 11, 10, 3]), (0, [3])] (fs [(35, x35), (36, x36), (34, x34), (4, x4), (5, x5), (12, x12), (11, x11), (10, x10), (3, x3)]) h K =
      p32arrlrborrlbrrrrrlrbo C L x35 x36 x34 x4 x5 x12 x11 x10 x3 h (fun x35 x36 x34 x4 x5 x12 x11 x10 x3 h => K .normal (fs [(35, x35), (36, x36), (34, x34), (4, x4), (5, x5), (12, x12), (11, x11), (10, x10), (3, x3)]) h) (fun x4 x5 x12 x11 x10 x3 h => K (.exit 2) (fs [(4, x4), (5, x5), (12, x12), (11, x11), (10, x10), (3, x3)]) h) := by
  kernel_rfl
noncomputable def p32arrlrborrlbrrrrrlrbw (C : CF) (L : Nat) {β : Type} (kx2 : Value → Value → Value → Value → Value → Value → H → Option β) : Nat → Value → Value → Value → Value → Value → Value → Value → Value → Value → H → Option β
  | 0, _, _, _, _, _, _, _, _, _, _ => none
  | n + 1, x35, x36, x34, x4, x5, x12, x11, x10, x3, h => p32arrlrborrlbrrrrrlrbo C L x35 x36 x34 x4 x5 x12 x11 x10 x3 h (fun x35 x36 x34 x4 x5 x12 x11 x10 x3 h => p32arrlrborrlbrrrrrlrbw C L kx2 n x35 x36 x34 x4 x5 x12 x11 x10 x3 h) kx2
theorem ep32arrlrborrlbrrrrrlrbw (C : CF) (L : Nat) {β : Type} (K : Ex → T Value → H → Option β) : ∀ (n : Nat) (x35 x36 x34 x4 x5 x12 x11 x10 x3 : Value) (h : H),
    loopK (fun fr h K => execK Try.prog C L 0 54 [2] c32arrlrborrlbrrrrrlrbo [35, 36, 34, 4, 5, 12, 11, 10, 3] [(2, [4, 5, 12, 11, 10, 3]), (1, [12, 11, 10, 3]), (0, [3])] fr h K) n (fs [(35, x35), (36, x36), (34, x34), (4, x4), (5, x5), (12, x12), (11, x11), (10, x10), (3, x3)]) h K =
      p32arrlrborrlbrrrrrlrbw C L (fun x4 x5 x12 x11 x10 x3 h => K (.exit 2) (fs [(4, x4), (5, x5), (12, x12), (11, x11), (10, x10), (3, x3)]) h) n x35 x36 x34 x4 x5 x12 x11 x10 x3 h := by
  intro n
  induction n with
  | zero => intros; rfl
  | succ n ih =>
    intros
    simp only [loopK]
    rw [ep32arrlrborrlbrrrrrlrbo]
    simp only [seqK_n, seqK_x, seqK_r, ih]
    rfl
noncomputable def p32arrlrborrlbrrrrrlrb (C : CF) (L : Nat) {β : Type} (x35 x36 x34 x4 x5 x12 x11 x10 x3 : Value) (h : H) (kx2 : Value → Value → Value → Value → Value → Value → H → Option β) : Option β :=
  p32arrlrborrlbrrrrrlrbw C L kx2 L x35 x36 x34 x4 x5 x12 x11 x10 x3 h
theorem ep32arrlrborrlbrrrrrlrb (C : CF) (L : Nat) {β : Type} (x35 x36 x34 x4 x5 x12 x11 x10 x3 : Value) (h : H) (K : Ex → T Value → H → Option β) :
    execK Try.prog C L 0 54 [2] c32arrlrborrlbrrrrrlrb [4, 5, 12, 11, 10, 3] [(2, [4, 5, 12, 11, 10, 3]), (1, [12, 11, 10, 3]), (0, [3])] (fs [(35, x35), (36, x36), (34, x34), (4, x4), (5, x5), (12, x12), (11, x11), (10, x10), (3, x3)]) h K =
      p32arrlrborrlbrrrrrlrb C L x35 x36 x34 x4 x5 x12 x11 x10 x3 h (fun x4 x5 x12 x11 x10 x3 h => K (.exit 2) (fs [(4, x4), (5, x5), (12, x12), (11, x11), (10, x10), (3, x3)]) h) := by
  rw [execK_loop (b := c32arrlrborrlbrrrrrlrbo) (fr1 := (fs [(35, x35), (36, x36), (34, x34), (4, x4), (5, x5), (12, x12), (11, x11), (10, x10), (3, x3)])) (by kernel_rfl) (show live [2] c32arrlrborrlbrrrrrlrbo [] [(2, [4, 5, 12, 11, 10, 3]), (1, [12, 11, 10, 3]), (0, [3])] = [35, 36, 34, 4, 5, 12, 11, 10, 3] by kernel_rfl) (by kernel_rfl), ep32arrlrborrlbrrrrrlrbw]
  unfold p32arrlrborrlbrrrrrlrb
  rfl
noncomputable def p32arrlrborrlbrrrrrlr (C : CF) (L : Nat) {β : Type} (x35 x36 x34 x4 x5 x12 x11 x10 x3 : Value) (h : H) (kn : Value → Value → Value → Value → Value → Value → H → Option β) : Option β :=
  p32arrlrborrlbrrrrrlrb C L x35 x36 x34 x4 x5 x12 x11 x10 x3 h kn
theorem ep32arrlrborrlbrrrrrlr (C : CF) (L : Nat) {β : Type} (x35 x36 x34 x4 x5 x12 x11 x10 x3 : Value) (h : H) (K : Ex → T Value → H → Option β) :
    execK Try.prog C L 0 54 [2] c32arrlrborrlbrrrrrlr [4, 5, 12, 11, 10, 3] [(1, [12, 11, 10, 3]), (0, [3])] (fs [(35, x35), (36, x36), (34, x34), (4, x4), (5, x5), (12, x12), (11, x11), (10, x10), (3, x3)]) h K =
      p32arrlrborrlbrrrrrlr C L x35 x36 x34 x4 x5 x12 x11 x10 x3 h (fun x4 x5 x12 x11 x10 x3 h => K .normal (fs [(4, x4), (5, x5), (12, x12), (11, x11), (10, x10), (3, x3)]) h) := by
  rw [execK_block (b := c32arrlrborrlbrrrrrlrb) (id := 2) (by kernel_rfl), ep32arrlrborrlbrrrrrlrb]
  unfold p32arrlrborrlbrrrrrlr
  rfl
noncomputable def p32arrlrborrlbrrrrrl (C : CF) (L : Nat) {β : Type} (x4 x5 x12 x11 x10 x3 : Value) (h : H) (kn : Value → Value → Value → Value → Value → Value → H → Option β) : Option β :=
  p32arrlrborrlbrrrrrll C L x4 x5 x12 x11 x10 x3 h (fun x35 x36 x34 x4 x5 x12 x11 x10 x3 h => p32arrlrborrlbrrrrrlr C L x35 x36 x34 x4 x5 x12 x11 x10 x3 h kn)
theorem ep32arrlrborrlbrrrrrl (C : CF) (L : Nat) {β : Type} (x4 x5 x12 x11 x10 x3 : Value) (h : H) (K : Ex → T Value → H → Option β) :
    execK Try.prog C L 0 54 [2] c32arrlrborrlbrrrrrl [4, 5, 12, 11, 10, 3] [(1, [12, 11, 10, 3]), (0, [3])] (fs [(4, x4), (5, x5), (12, x12), (11, x11), (10, x10), (3, x3)]) h K =
      p32arrlrborrlbrrrrrl C L x4 x5 x12 x11 x10 x3 h (fun x4 x5 x12 x11 x10 x3 h => K .normal (fs [(4, x4), (5, x5), (12, x12), (11, x11), (10, x10), (3, x3)]) h) := by
  rw [execK_seq (a := c32arrlrborrlbrrrrrll) (b := c32arrlrborrlbrrrrrlr) (by kernel_rfl) (show live [2] c32arrlrborrlbrrrrrlr [4, 5, 12, 11, 10, 3] [(1, [12, 11, 10, 3]), (0, [3])] = [35, 36, 34, 4, 5, 12, 11, 10, 3] by kernel_rfl), ep32arrlrborrlbrrrrrll]
  unfold p32arrlrborrlbrrrrrl
  exact (congrArg (p32arrlrborrlbrrrrrll C L x4 x5 x12 x11 x10 x3 h) (funext fun x35 => funext fun x36 => funext fun x34 => funext fun x4 => funext fun x5 => funext fun x12 => funext fun x11 => funext fun x10 => funext fun x3 => funext fun h => (seqK_n _ _ _).trans (ep32arrlrborrlbrrrrrlr C L x35 x36 x34 x4 x5 x12 x11 x10 x3 h K)))
noncomputable def c32arrlrborrlbrrrrrr : Code := cR c32arrlrborrlbrrrrr
noncomputable def p32arrlrborrlbrrrrrr (C : CF) (L : Nat) {β : Type} (x4 x5 x12 x11 x10 x3 : Value) (h : H) (kn : Value → Value → Value → Value → H → Option β) : Option β :=
  bnd (A.load true 38 x5 h) fun t50 =>
  bnd (A.idxS 38 x3 x4) fun t51 =>
  bnd (A.store 38 t51 t50 h) fun hq1 =>
  kn x12 x11 x10 x3 hq1
theorem ep32arrlrborrlbrrrrrr (C : CF) (L : Nat) {β : Type} (x4 x5 x12 x11 x10 x3 : Value) (h : H) (K : Ex → T Value → H → Option β) :
    execK Try.prog C L 0 54 [2] c32arrlrborrlbrrrrrr [12, 11, 10, 3] [(1, [12, 11, 10, 3]), (0, [3])] (fs [(4, x4), (5, x5), (12, x12), (11, x11), (10, x10), (3, x3)]) h K =
      p32arrlrborrlbrrrrrr C L x4 x5 x12 x11 x10 x3 h (fun x12 x11 x10 x3 h => K .normal (fs [(12, x12), (11, x11), (10, x10), (3, x3)]) h) := by
  kernel_rfl
noncomputable def p32arrlrborrlbrrrrr (C : CF) (L : Nat) {β : Type} (x4 x5 x12 x11 x10 x3 : Value) (h : H) (kn : Value → Value → Value → Value → H → Option β) : Option β :=
  p32arrlrborrlbrrrrrl C L x4 x5 x12 x11 x10 x3 h (fun x4 x5 x12 x11 x10 x3 h => p32arrlrborrlbrrrrrr C L x4 x5 x12 x11 x10 x3 h kn)
theorem ep32arrlrborrlbrrrrr (C : CF) (L : Nat) {β : Type} (x4 x5 x12 x11 x10 x3 : Value) (h : H) (K : Ex → T Value → H → Option β) :
    execK Try.prog C L 0 54 [2] c32arrlrborrlbrrrrr [12, 11, 10, 3] [(1, [12, 11, 10, 3]), (0, [3])] (fs [(4, x4), (5, x5), (12, x12), (11, x11), (10, x10), (3, x3)]) h K =
      p32arrlrborrlbrrrrr C L x4 x5 x12 x11 x10 x3 h (fun x12 x11 x10 x3 h => K .normal (fs [(12, x12), (11, x11), (10, x10), (3, x3)]) h) := by
  rw [execK_seq (a := c32arrlrborrlbrrrrrl) (b := c32arrlrborrlbrrrrrr) (by kernel_rfl) (show live [2] c32arrlrborrlbrrrrrr [12, 11, 10, 3] [(1, [12, 11, 10, 3]), (0, [3])] = [4, 5, 12, 11, 10, 3] by kernel_rfl), ep32arrlrborrlbrrrrrl]
  unfold p32arrlrborrlbrrrrr
  exact (congrArg (p32arrlrborrlbrrrrrl C L x4 x5 x12 x11 x10 x3 h) (funext fun x4 => funext fun x5 => funext fun x12 => funext fun x11 => funext fun x10 => funext fun x3 => funext fun h => (seqK_n _ _ _).trans (ep32arrlrborrlbrrrrrr C L x4 x5 x12 x11 x10 x3 h K)))
noncomputable def p32arrlrborrlbrrrr (C : CF) (L : Nat) {β : Type} (x4 x5 x12 x11 x10 x3 : Value) (h : H) (kn : Value → Value → Value → Value → H → Option β) : Option β :=
  p32arrlrborrlbrrrrl C L x4 x5 x12 x11 x10 x3 h (fun x4 x5 x12 x11 x10 x3 h => p32arrlrborrlbrrrrr C L x4 x5 x12 x11 x10 x3 h kn)
theorem ep32arrlrborrlbrrrr (C : CF) (L : Nat) {β : Type} (x4 x5 x12 x11 x10 x3 : Value) (h : H) (K : Ex → T Value → H → Option β) :
    execK Try.prog C L 0 54 [2] c32arrlrborrlbrrrr [12, 11, 10, 3] [(1, [12, 11, 10, 3]), (0, [3])] (fs [(4, x4), (5, x5), (12, x12), (11, x11), (10, x10), (3, x3)]) h K =
      p32arrlrborrlbrrrr C L x4 x5 x12 x11 x10 x3 h (fun x12 x11 x10 x3 h => K .normal (fs [(12, x12), (11, x11), (10, x10), (3, x3)]) h) := by
  rw [execK_seq (a := c32arrlrborrlbrrrrl) (b := c32arrlrborrlbrrrrr) (by kernel_rfl) (show live [2] c32arrlrborrlbrrrrr [12, 11, 10, 3] [(1, [12, 11, 10, 3]), (0, [3])] = [4, 5, 12, 11, 10, 3] by kernel_rfl), ep32arrlrborrlbrrrrl]
  unfold p32arrlrborrlbrrrr
  exact (congrArg (p32arrlrborrlbrrrrl C L x4 x5 x12 x11 x10 x3 h) (funext fun x4 => funext fun x5 => funext fun x12 => funext fun x11 => funext fun x10 => funext fun x3 => funext fun h => (seqK_n _ _ _).trans (ep32arrlrborrlbrrrrr C L x4 x5 x12 x11 x10 x3 h K)))
noncomputable def p32arrlrborrlbrrr (C : CF) (L : Nat) {β : Type} (x4 x5 x12 x11 x10 x3 : Value) (h : H) (kn : Value → Value → Value → Value → H → Option β) : Option β :=
  p32arrlrborrlbrrrl C L x4 x5 x12 x11 x10 x3 h (fun x4 x5 x12 x11 x10 x3 h => p32arrlrborrlbrrrr C L x4 x5 x12 x11 x10 x3 h kn)
theorem ep32arrlrborrlbrrr (C : CF) (L : Nat) {β : Type} (x4 x5 x12 x11 x10 x3 : Value) (h : H) (K : Ex → T Value → H → Option β) :
    execK Try.prog C L 0 54 [2] c32arrlrborrlbrrr [12, 11, 10, 3] [(1, [12, 11, 10, 3]), (0, [3])] (fs [(4, x4), (5, x5), (12, x12), (11, x11), (10, x10), (3, x3)]) h K =
      p32arrlrborrlbrrr C L x4 x5 x12 x11 x10 x3 h (fun x12 x11 x10 x3 h => K .normal (fs [(12, x12), (11, x11), (10, x10), (3, x3)]) h) := by
  rw [execK_seq (a := c32arrlrborrlbrrrl) (b := c32arrlrborrlbrrrr) (by kernel_rfl) (show live [2] c32arrlrborrlbrrrr [12, 11, 10, 3] [(1, [12, 11, 10, 3]), (0, [3])] = [4, 5, 12, 11, 10, 3] by kernel_rfl), ep32arrlrborrlbrrrl]
  unfold p32arrlrborrlbrrr
  exact (congrArg (p32arrlrborrlbrrrl C L x4 x5 x12 x11 x10 x3 h) (funext fun x4 => funext fun x5 => funext fun x12 => funext fun x11 => funext fun x10 => funext fun x3 => funext fun h => (seqK_n _ _ _).trans (ep32arrlrborrlbrrrr C L x4 x5 x12 x11 x10 x3 h K)))
noncomputable def p32arrlrborrlbrr (C : CF) (L : Nat) {β : Type} (x4 x5 x12 x11 x10 x3 : Value) (h : H) (kn : Value → Value → Value → Value → H → Option β) : Option β :=
  p32arrlrborrlbrrl C L x4 x5 x12 x11 x10 x3 h (fun x4 x5 x12 x11 x10 x3 h => p32arrlrborrlbrrr C L x4 x5 x12 x11 x10 x3 h kn)
theorem ep32arrlrborrlbrr (C : CF) (L : Nat) {β : Type} (x4 x5 x12 x11 x10 x3 : Value) (h : H) (K : Ex → T Value → H → Option β) :
    execK Try.prog C L 0 54 [2] c32arrlrborrlbrr [12, 11, 10, 3] [(1, [12, 11, 10, 3]), (0, [3])] (fs [(4, x4), (5, x5), (12, x12), (11, x11), (10, x10), (3, x3)]) h K =
      p32arrlrborrlbrr C L x4 x5 x12 x11 x10 x3 h (fun x12 x11 x10 x3 h => K .normal (fs [(12, x12), (11, x11), (10, x10), (3, x3)]) h) := by
  rw [execK_seq (a := c32arrlrborrlbrrl) (b := c32arrlrborrlbrrr) (by kernel_rfl) (show live [2] c32arrlrborrlbrrr [12, 11, 10, 3] [(1, [12, 11, 10, 3]), (0, [3])] = [4, 5, 12, 11, 10, 3] by kernel_rfl), ep32arrlrborrlbrrl]
  unfold p32arrlrborrlbrr
  exact (congrArg (p32arrlrborrlbrrl C L x4 x5 x12 x11 x10 x3 h) (funext fun x4 => funext fun x5 => funext fun x12 => funext fun x11 => funext fun x10 => funext fun x3 => funext fun h => (seqK_n _ _ _).trans (ep32arrlrborrlbrrr C L x4 x5 x12 x11 x10 x3 h K)))
noncomputable def p32arrlrborrlbr (C : CF) (L : Nat) {β : Type} (x4 x5 x12 x11 x10 x3 : Value) (h : H) (kn : Value → Value → Value → Value → H → Option β) : Option β :=
  p32arrlrborrlbrl C L x4 x5 x12 x11 x10 x3 h (fun x4 x5 x12 x11 x10 x3 h => p32arrlrborrlbrr C L x4 x5 x12 x11 x10 x3 h kn)
theorem ep32arrlrborrlbr (C : CF) (L : Nat) {β : Type} (x4 x5 x12 x11 x10 x3 : Value) (h : H) (K : Ex → T Value → H → Option β) :
    execK Try.prog C L 0 54 [2] c32arrlrborrlbr [12, 11, 10, 3] [(1, [12, 11, 10, 3]), (0, [3])] (fs [(4, x4), (5, x5), (12, x12), (11, x11), (10, x10), (3, x3)]) h K =
      p32arrlrborrlbr C L x4 x5 x12 x11 x10 x3 h (fun x12 x11 x10 x3 h => K .normal (fs [(12, x12), (11, x11), (10, x10), (3, x3)]) h) := by
  rw [execK_seq (a := c32arrlrborrlbrl) (b := c32arrlrborrlbrr) (by kernel_rfl) (show live [2] c32arrlrborrlbrr [12, 11, 10, 3] [(1, [12, 11, 10, 3]), (0, [3])] = [4, 5, 12, 11, 10, 3] by kernel_rfl), ep32arrlrborrlbrl]
  unfold p32arrlrborrlbr
  exact (congrArg (p32arrlrborrlbrl C L x4 x5 x12 x11 x10 x3 h) (funext fun x4 => funext fun x5 => funext fun x12 => funext fun x11 => funext fun x10 => funext fun x3 => funext fun h => (seqK_n _ _ _).trans (ep32arrlrborrlbrr C L x4 x5 x12 x11 x10 x3 h K)))
noncomputable def p32arrlrborrlb (C : CF) (L : Nat) {β : Type} (x12 x11 x10 x3 : Value) (h : H) (kn : Value → Value → Value → Value → H → Option β) : Option β :=
  p32arrlrborrlbl C L x12 x11 x10 x3 h (fun x4 x5 x12 x11 x10 x3 h => p32arrlrborrlbr C L x4 x5 x12 x11 x10 x3 h kn)
theorem ep32arrlrborrlb (C : CF) (L : Nat) {β : Type} (x12 x11 x10 x3 : Value) (h : H) (K : Ex → T Value → H → Option β) :
    execK Try.prog C L 0 54 [2] c32arrlrborrlb [12, 11, 10, 3] [(1, [12, 11, 10, 3]), (0, [3])] (fs [(12, x12), (11, x11), (10, x10), (3, x3)]) h K =
      p32arrlrborrlb C L x12 x11 x10 x3 h (fun x12 x11 x10 x3 h => K .normal (fs [(12, x12), (11, x11), (10, x10), (3, x3)]) h) := by
  rw [execK_seq (a := c32arrlrborrlbl) (b := c32arrlrborrlbr) (by kernel_rfl) (show live [2] c32arrlrborrlbr [12, 11, 10, 3] [(1, [12, 11, 10, 3]), (0, [3])] = [4, 5, 12, 11, 10, 3] by kernel_rfl), ep32arrlrborrlbl]
  unfold p32arrlrborrlb
  exact (congrArg (p32arrlrborrlbl C L x12 x11 x10 x3 h) (funext fun x4 => funext fun x5 => funext fun x12 => funext fun x11 => funext fun x10 => funext fun x3 => funext fun h => (seqK_n _ _ _).trans (ep32arrlrborrlbr C L x4 x5 x12 x11 x10 x3 h K)))
noncomputable def p32arrlrborrl (C : CF) (L : Nat) {β : Type} (x12 x11 x10 x3 : Value) (h : H) (kn : Value → Value → Value → Value → H → Option β) : Option β :=
  p32arrlrborrlb C L x12 x11 x10 x3 h kn
theorem ep32arrlrborrl (C : CF) (L : Nat) {β : Type} (x12 x11 x10 x3 : Value) (h : H) (K : Ex → T Value → H → Option β) :
    execK Try.prog C L 0 54 [2] c32arrlrborrl [12, 11, 10, 3] [(0, [3])] (fs [(12, x12), (11, x11), (10, x10), (3, x3)]) h K =
      p32arrlrborrl C L x12 x11 x10 x3 h (fun x12 x11 x10 x3 h => K .normal (fs [(12, x12), (11, x11), (10, x10), (3, x3)]) h) := by
  rw [execK_block (b := c32arrlrborrlb) (id := 1) (by kernel_rfl), ep32arrlrborrlb]
  unfold p32arrlrborrl
  rfl
noncomputable def c32arrlrborrr : Code := cR c32arrlrborr
noncomputable def p32arrlrborrr (C : CF) (L : Nat) {β : Type} (x12 x11 x10 x3 : Value) (h : H) (kn : Value → Value → Value → Value → H → Option β) : Option β :=
  bnd (A.bin Try.prog .add 3 x12 (.int .i64 1)) fun t52 =>
  kn x11 t52 x10 x3 h
theorem ep32arrlrborrr (C : CF) (L : Nat) {β : Type} (x12 x11 x10 x3 : Value) (h : H) (K : Ex → T Value → H → Option β) :
    execK Try.prog C L 0 54 [2] c32arrlrborrr [11, 12, 10, 3] [(0, [3])] (fs [(12, x12), (11, x11), (10, x10), (3, x3)]) h K =
      p32arrlrborrr C L x12 x11 x10 x3 h (fun x11 x12 x10 x3 h => K .normal (fs [(11, x11), (12, x12), (10, x10), (3, x3)]) h) := by
  kernel_rfl
noncomputable def p32arrlrborr (C : CF) (L : Nat) {β : Type} (x12 x11 x10 x3 : Value) (h : H) (kn : Value → Value → Value → Value → H → Option β) : Option β :=
  p32arrlrborrl C L x12 x11 x10 x3 h (fun x12 x11 x10 x3 h => p32arrlrborrr C L x12 x11 x10 x3 h kn)
theorem ep32arrlrborr (C : CF) (L : Nat) {β : Type} (x12 x11 x10 x3 : Value) (h : H) (K : Ex → T Value → H → Option β) :
    execK Try.prog C L 0 54 [2] c32arrlrborr [11, 12, 10, 3] [(0, [3])] (fs [(12, x12), (11, x11), (10, x10), (3, x3)]) h K =
      p32arrlrborr C L x12 x11 x10 x3 h (fun x11 x12 x10 x3 h => K .normal (fs [(11, x11), (12, x12), (10, x10), (3, x3)]) h) := by
  rw [execK_seq (a := c32arrlrborrl) (b := c32arrlrborrr) (by kernel_rfl) (show live [2] c32arrlrborrr [11, 12, 10, 3] [(0, [3])] = [12, 11, 10, 3] by kernel_rfl), ep32arrlrborrl]
  unfold p32arrlrborr
  exact (congrArg (p32arrlrborrl C L x12 x11 x10 x3 h) (funext fun x12 => funext fun x11 => funext fun x10 => funext fun x3 => funext fun h => (seqK_n _ _ _).trans (ep32arrlrborrr C L x12 x11 x10 x3 h K)))
noncomputable def p32arrlrbor (C : CF) (L : Nat) {β : Type} (x13 x10 x11 x12 x3 : Value) (h : H) (kn : Value → Value → Value → Value → H → Option β) (kx0 : Value → H → Option β) : Option β :=
  p32arrlrborl C L x13 x10 x11 x12 x3 h (fun x12 x11 x10 x3 h => p32arrlrborr C L x12 x11 x10 x3 h kn) kx0
theorem ep32arrlrbor (C : CF) (L : Nat) {β : Type} (x13 x10 x11 x12 x3 : Value) (h : H) (K : Ex → T Value → H → Option β) :
    execK Try.prog C L 0 54 [2] c32arrlrbor [11, 12, 10, 3] [(0, [3])] (fs [(13, x13), (10, x10), (11, x11), (12, x12), (3, x3)]) h K =
      p32arrlrbor C L x13 x10 x11 x12 x3 h (fun x11 x12 x10 x3 h => K .normal (fs [(11, x11), (12, x12), (10, x10), (3, x3)]) h) (fun x3 h => K (.exit 0) (fs [(3, x3)]) h) := by
  rw [execK_seq (a := c32arrlrborl) (b := c32arrlrborr) (by kernel_rfl) (show live [2] c32arrlrborr [11, 12, 10, 3] [(0, [3])] = [12, 11, 10, 3] by kernel_rfl), ep32arrlrborl]
  unfold p32arrlrbor
  exact (congr (congrArg (p32arrlrborl C L x13 x10 x11 x12 x3 h) (funext fun x12 => funext fun x11 => funext fun x10 => funext fun x3 => funext fun h => (seqK_n _ _ _).trans (ep32arrlrborr C L x12 x11 x10 x3 h K))) (funext fun x3 => funext fun h => seqK_x _ _ _ _))
noncomputable def p32arrlrbo (C : CF) (L : Nat) {β : Type} (x11 x12 x10 x3 : Value) (h : H) (kn : Value → Value → Value → Value → H → Option β) (kx0 : Value → H → Option β) : Option β :=
  p32arrlrbol C L x11 x12 x10 x3 h (fun x13 x10 x11 x12 x3 h => p32arrlrbor C L x13 x10 x11 x12 x3 h kn kx0)
theorem ep32arrlrbo (C : CF) (L : Nat) {β : Type} (x11 x12 x10 x3 : Value) (h : H) (K : Ex → T Value → H → Option β) :
    execK Try.prog C L 0 54 [2] c32arrlrbo [11, 12, 10, 3] [(0, [3])] (fs [(11, x11), (12, x12), (10, x10), (3, x3)]) h K =
      p32arrlrbo C L x11 x12 x10 x3 h (fun x11 x12 x10 x3 h => K .normal (fs [(11, x11), (12, x12), (10, x10), (3, x3)]) h) (fun x3 h => K (.exit 0) (fs [(3, x3)]) h) := by
  rw [execK_seq (a := c32arrlrbol) (b := c32arrlrbor) (by kernel_rfl) (show live [2] c32arrlrbor [11, 12, 10, 3] [(0, [3])] = [13, 10, 11, 12, 3] by kernel_rfl), ep32arrlrbol]
  unfold p32arrlrbo
  exact (congrArg (p32arrlrbol C L x11 x12 x10 x3 h) (funext fun x13 => funext fun x10 => funext fun x11 => funext fun x12 => funext fun x3 => funext fun h => (seqK_n _ _ _).trans (ep32arrlrbor C L x13 x10 x11 x12 x3 h K)))
noncomputable def p32arrlrbw (C : CF) (L : Nat) {β : Type} (kx0 : Value → H → Option β) : Nat → Value → Value → Value → Value → H → Option β
  | 0, _, _, _, _, _ => none
  | n + 1, x11, x12, x10, x3, h => p32arrlrbo C L x11 x12 x10 x3 h (fun x11 x12 x10 x3 h => p32arrlrbw C L kx0 n x11 x12 x10 x3 h) kx0
theorem ep32arrlrbw (C : CF) (L : Nat) {β : Type} (K : Ex → T Value → H → Option β) : ∀ (n : Nat) (x11 x12 x10 x3 : Value) (h : H),
    loopK (fun fr h K => execK Try.prog C L 0 54 [2] c32arrlrbo [11, 12, 10, 3] [(0, [3])] fr h K) n (fs [(11, x11), (12, x12), (10, x10), (3, x3)]) h K =
      p32arrlrbw C L (fun x3 h => K (.exit 0) (fs [(3, x3)]) h) n x11 x12 x10 x3 h := by
  intro n
  induction n with
  | zero => intros; rfl
  | succ n ih =>
    intros
    simp only [loopK]
    rw [ep32arrlrbo]
    simp only [seqK_n, seqK_x, seqK_r, ih]
    rfl
noncomputable def p32arrlrb (C : CF) (L : Nat) {β : Type} (x11 x12 x10 x3 : Value) (h : H) (kx0 : Value → H → Option β) : Option β :=
  p32arrlrbw C L kx0 L x11 x12 x10 x3 h
theorem ep32arrlrb (C : CF) (L : Nat) {β : Type} (x11 x12 x10 x3 : Value) (h : H) (K : Ex → T Value → H → Option β) :
    execK Try.prog C L 0 54 [2] c32arrlrb [3] [(0, [3])] (fs [(11, x11), (12, x12), (10, x10), (3, x3)]) h K =
      p32arrlrb C L x11 x12 x10 x3 h (fun x3 h => K (.exit 0) (fs [(3, x3)]) h) := by
  rw [execK_loop (b := c32arrlrbo) (fr1 := (fs [(11, x11), (12, x12), (10, x10), (3, x3)])) (by kernel_rfl) (show live [2] c32arrlrbo [] [(0, [3])] = [11, 12, 10, 3] by kernel_rfl) (by kernel_rfl), ep32arrlrbw]
  unfold p32arrlrb
  rfl
noncomputable def p32arrlr (C : CF) (L : Nat) {β : Type} (x11 x12 x10 x3 : Value) (h : H) (kn : Value → H → Option β) : Option β :=
  p32arrlrb C L x11 x12 x10 x3 h kn
theorem ep32arrlr (C : CF) (L : Nat) {β : Type} (x11 x12 x10 x3 : Value) (h : H) (K : Ex → T Value → H → Option β) :
    execK Try.prog C L 0 54 [2] c32arrlr [3] [] (fs [(11, x11), (12, x12), (10, x10), (3, x3)]) h K =
      p32arrlr C L x11 x12 x10 x3 h (fun x3 h => K .normal (fs [(3, x3)]) h) := by
  rw [execK_block (b := c32arrlrb) (id := 0) (by kernel_rfl), ep32arrlrb]
  unfold p32arrlr
  rfl
noncomputable def p32arrl (C : CF) (L : Nat) {β : Type} (x3 : Value) (h : H) (kn : Value → H → Option β) : Option β :=
  p32arrll C L x3 h (fun x11 x12 x10 x3 h => p32arrlr C L x11 x12 x10 x3 h kn)
theorem ep32arrl (C : CF) (L : Nat) {β : Type} (x3 : Value) (h : H) (K : Ex → T Value → H → Option β) :
    execK Try.prog C L 0 54 [2] c32arrl [3] [] (fs [(3, x3)]) h K =
      p32arrl C L x3 h (fun x3 h => K .normal (fs [(3, x3)]) h) := by
  rw [execK_seq (a := c32arrll) (b := c32arrlr) (by kernel_rfl) (show live [2] c32arrlr [3] [] = [11, 12, 10, 3] by kernel_rfl), ep32arrll]
  unfold p32arrl
  exact (congrArg (p32arrll C L x3 h) (funext fun x11 => funext fun x12 => funext fun x10 => funext fun x3 => funext fun h => (seqK_n _ _ _).trans (ep32arrlr C L x11 x12 x10 x3 h K)))
noncomputable def c32arrr : Code := cR c32arr
noncomputable def p32arrr (C : CF) (L : Nat) {β : Type} (x3 : Value) (h : H) (kr : Value → H → Option β) : Option β :=
  kr x3 h
theorem ep32arrr (C : CF) (L : Nat) {β : Type} (x3 : Value) (h : H) (K : Ex → T Value → H → Option β) :
    execK Try.prog C L 0 54 [2] c32arrr [2] [] (fs [(3, x3)]) h K =
      p32arrr C L x3 h (fun x2 h => K .ret (fs [(2, x2)]) h) := by
  kernel_rfl
noncomputable def p32arr (C : CF) (L : Nat) {β : Type} (x3 : Value) (h : H) (kr : Value → H → Option β) : Option β :=
  p32arrl C L x3 h (fun x3 h => p32arrr C L x3 h kr)
theorem ep32arr (C : CF) (L : Nat) {β : Type} (x3 : Value) (h : H) (K : Ex → T Value → H → Option β) :
    execK Try.prog C L 0 54 [2] c32arr [2] [] (fs [(3, x3)]) h K =
      p32arr C L x3 h (fun x2 h => K .ret (fs [(2, x2)]) h) := by
  rw [execK_seq (a := c32arrl) (b := c32arrr) (by kernel_rfl) (show live [2] c32arrr [2] [] = [3] by kernel_rfl), ep32arrl]
  unfold p32arr
  exact (congrArg (p32arrl C L x3 h) (funext fun x3 => funext fun h => (seqK_n _ _ _).trans (ep32arrr C L x3 h K)))
noncomputable def p32ar (C : CF) (L : Nat) {β : Type} (x0 : Value) (h : H) (kr : Value → H → Option β) : Option β :=
  p32arl C L x0 h (fun x3 h => p32arr C L x3 h kr)
theorem ep32ar (C : CF) (L : Nat) {β : Type} (x0 : Value) (h : H) (K : Ex → T Value → H → Option β) :
    execK Try.prog C L 0 54 [2] c32ar [2] [] (fs [(0, x0)]) h K =
      p32ar C L x0 h (fun x2 h => K .ret (fs [(2, x2)]) h) := by
  rw [execK_seq (a := c32arl) (b := c32arr) (by kernel_rfl) (show live [2] c32arr [2] [] = [3] by kernel_rfl), ep32arl]
  unfold p32ar
  exact (congrArg (p32arl C L x0 h) (funext fun x3 => funext fun h => (seqK_n _ _ _).trans (ep32arr C L x3 h K)))
noncomputable def p32a (C : CF) (L : Nat) {β : Type} (x0 : Value) (h : H) (kr : Value → H → Option β) : Option β :=
  p32al C L x0 h (fun x0 h => p32ar C L x0 h kr)
theorem ep32a (C : CF) (L : Nat) {β : Type} (x0 : Value) (h : H) (K : Ex → T Value → H → Option β) :
    execK Try.prog C L 0 54 [2] c32a [2] [] (fs [(0, x0)]) h K =
      p32a C L x0 h (fun x2 h => K .ret (fs [(2, x2)]) h) := by
  rw [execK_seq (a := c32al) (b := c32ar) (by kernel_rfl) (show live [2] c32ar [2] [] = [0] by kernel_rfl), ep32al]
  unfold p32a
  exact (congrArg (p32al C L x0 h) (funext fun x0 => funext fun h => (seqK_n _ _ _).trans (ep32ar C L x0 h K)))
noncomputable def F32 (C : CF) (L : Nat) (x0 : Value) (h : H) : Option (Value × H) :=
  p32a C L x0 h
    (fun x2 h => some (x2, h))
theorem F32eq (O : List FuncId) (hO : O.any (Nat.beq 32) = false) (n : Nat) (x0 : Value) (h : H) : callB Try.prog 0 O (n + 1) 32 [x0] h = F32 (callB Try.prog 0 O n) n x0 h := by
  rw [callB_eq hO (c := c32a) (nt := 54) (RR := [2]) (fr := (fs [(0, x0)])) Try.func32 (by kernel_rfl) (by kernel_rfl) (by kernel_rfl) (by kernel_rfl) (by kernel_rfl), ep32a]
  kernel_rfl
noncomputable def c33a : Code := (Try.f33.body).getD .skip
noncomputable def c33al : Code := cL c33a
noncomputable def p33al (C : CF) (L : Nat) {β : Type} (x0 : Value) (h : H) (kn : Value → H → Option β) : Option β :=
  kn x0 h
theorem ep33al (C : CF) (L : Nat) {β : Type} (x0 : Value) (h : H) (K : Ex → T Value → H → Option β) :
    execK Try.prog C L 0 120 [2] c33al [0] [] (fs [(0, x0)]) h K =
      p33al C L x0 h (fun x0 h => K .normal (fs [(0, x0)]) h) := by
  kernel_rfl
noncomputable def c33ar : Code := cR c33a
noncomputable def c33arl : Code := cL c33ar
noncomputable def p33arl (C : CF) (L : Nat) {β : Type} (x0 : Value) (h : H) (kr : Value → H → Option β) (kn : Value → H → Option β) : Option β :=
  bnd (A.lenS x0) fun t9 =>
  bnd (A.bin Try.prog .gtr 3 t9 (.int .i64 20)) fun t10 =>
  toBK t10 fun b =>
  (bif b then
  kr (.bool true) h
  else
  kn x0 h)
theorem ep33arl (C : CF) (L : Nat) {β : Type} (x0 : Value) (h : H) (K : Ex → T Value → H → Option β) :
    execK Try.prog C L 0 120 [2] c33arl [0] [] (fs [(0, x0)]) h K =
      p33arl C L x0 h (fun x2 h => K .ret (fs [(2, x2)]) h) (fun x0 h => K .normal (fs [(0, x0)]) h) := by
  kernel_rfl
noncomputable def c33arr : Code := cR c33ar
noncomputable def c33arrl : Code := cL c33arr
noncomputable def c33arrll : Code := cL c33arrl
noncomputable def p33arrll (C : CF) (L : Nat) {β : Type} (x0 : Value) (h : H) (kn : Value → Value → H → Option β) : Option β :=
  kn (.int .i64 0) x0 h
theorem ep33arrll (C : CF) (L : Nat) {β : Type} (x0 : Value) (h : H) (K : Ex → T Value → H → Option β) :
    execK Try.prog C L 0 120 [2] c33arrll [3, 0] [] (fs [(0, x0)]) h K =
      p33arrll C L x0 h (fun x3 x0 h => K .normal (fs [(3, x3), (0, x0)]) h) := by
  kernel_rfl
noncomputable def c33arrlr : Code := cR c33arrl
noncomputable def c33arrlrb : Code := cL c33arrlr
noncomputable def c33arrlrbo : Code := cL c33arrlrb
noncomputable def c33arrlrbol : Code := cL c33arrlrbo
noncomputable def p33arrlrbol (C : CF) (L : Nat) {β : Type} (x3 x0 : Value) (h : H) (kn : Value → Value → H → Option β) (kx0 : H → Option β) : Option β :=
  bnd (A.lenS x0) fun t13 =>
  bnd (A.bin Try.prog .lss 3 x3 t13) fun t14 =>
  toBK t14 fun b =>
  (bif b then
  kn x3 x0 h
  else
  kx0 h)
theorem ep33arrlrbol (C : CF) (L : Nat) {β : Type} (x3 x0 : Value) (h : H) (K : Ex → T Value → H → Option β) :
    execK Try.prog C L 0 120 [2] c33arrlrbol [3, 0] [(0, [])] (fs [(3, x3), (0, x0)]) h K =
      p33arrlrbol C L x3 x0 h (fun x3 x0 h => K .normal (fs [(3, x3), (0, x0)]) h) (fun h => K (.exit 0) (fs []) h) := by
  kernel_rfl
noncomputable def c33arrlrbor : Code := cR c33arrlrbo
noncomputable def c33arrlrborl : Code := cL c33arrlrbor
noncomputable def c33arrlrborlb : Code := cL c33arrlrborl
noncomputable def c33arrlrborlbl : Code := cL c33arrlrborlb
noncomputable def p33arrlrborlbl (C : CF) (L : Nat) {β : Type} (x3 x0 : Value) (h : H) (kn : Value → Value → Value → H → Option β) : Option β :=
  bnd (A.idxS 38 x0 x3) fun t19 =>
  bnd (A.load true 38 t19 h) fun t20 =>
  bnd2 (A.box 38 Z71 h) fun t4 hq1 =>
  bnd (A.store 38 t4 t20 hq1) fun hq2 =>
  kn t4 x3 x0 hq2
theorem ep33arrlrborlbl (C : CF) (L : Nat) {β : Type} (x3 x0 : Value) (h : H) (K : Ex → T Value → H → Option β) :
    execK Try.prog C L 0 120 [2] c33arrlrborlbl [4, 3, 0] [(1, [3, 0]), (0, [])] (fs [(3, x3), (0, x0)]) h K =
      p33arrlrborlbl C L x3 x0 h (fun x4 x3 x0 h => K .normal (fs [(4, x4), (3, x3), (0, x0)]) h) := by
  kernel_rfl
noncomputable def c33arrlrborlbr : Code := cR c33arrlrborlb
noncomputable def c33arrlrborlbrl : Code := cL c33arrlrborlbr
noncomputable def c33arrlrborlbrll : Code := cL c33arrlrborlbrl
noncomputable def p33arrlrborlbrll (C : CF) (L : Nat) {β : Type} (x4 x3 x0 : Value) (h : H) (kn : Value → Value → Value → Value → H → Option β) : Option β :=
  bnd (A.fieldAddr 5 x4) fun t21 =>
  bnd (A.load true 24 t21 h) fun t22 =>
  bnd2 (C 46 [t22] h) fun t23 hq1 =>
  toBK t23 fun b =>
  (bif b then
  kn (.bool true) x4 x3 x0 hq1
  else
  bnd (A.fieldAddr 33 x4) fun t25 =>
  bnd (A.load false 1 t25 hq1) fun t26 =>
  bnd (A.lenS t26) fun t27 =>
  bnd (A.bin Try.prog .gtr 3 t27 (.int .i64 20)) fun t28 =>
  toBK t28 fun bq1 =>
  (bif bq1 then
  kn (.bool true) x4 x3 x0 hq1
  else
  bnd (A.fieldAddr 34 x4) fun t31 =>
  bnd (A.load false 1 t31 hq1) fun t32 =>
  bnd (A.lenS t32) fun t33 =>
  bnd (A.bin Try.prog .gtr 3 t33 (.int .i64 20)) fun t34 =>
  toBK t34 fun bq2 =>
  (bif bq2 then
  kn (.bool true) x4 x3 x0 hq1
  else
  bnd (A.fieldAddr 35 x4) fun t37 =>
  bnd (A.load false 1 t37 hq1) fun t38 =>
  bnd (A.lenS t38) fun t39 =>
  bnd (A.bin Try.prog .gtr 3 t39 (.int .i64 20)) fun t40 =>
  toBK t40 fun bq3 =>
  (bif bq3 then
  kn (.bool true) x4 x3 x0 hq1
  else
  bnd (A.fieldAddr 3 x4) fun t43 =>
  bnd (A.load false 1 t43 hq1) fun t44 =>
  bnd (A.lenStr t44) fun t45 =>
  bnd (A.bin Try.prog .gtr 3 t45 (.int .i64 500)) fun t46 =>
  toBK t46 fun bq4 =>
  (bif bq4 then
  kn (.bool true) x4 x3 x0 hq1
  else
  bnd (A.fieldAddr 4 x4) fun t49 =>
  bnd (A.load false 1 t49 hq1) fun t50 =>
  bnd (A.lenStr t50) fun t51 =>
  bnd (A.bin Try.prog .gtr 3 t51 (.int .i64 500)) fun t52 =>
  toBK t52 fun bq5 =>
  (bif bq5 then
  kn (.bool true) x4 x3 x0 hq1
  else
  bnd (A.fieldAddr 29 x4) fun t55 =>
  bnd (A.fieldAddr 0 t55) fun t56 =>
  bnd (A.load false 1 t56 hq1) fun t57 =>
  bnd (A.lenStr t57) fun t58 =>
  bnd (A.bin Try.prog .gtr 3 t58 (.int .i64 500)) fun t59 =>
  toBK t59 fun bq6 =>
  (bif bq6 then
  kn (.bool true) x4 x3 x0 hq1
  else
  bnd (A.fieldAddr 29 x4) fun t62 =>
  bnd (A.fieldAddr 1 t62) fun t63 =>
  bnd (A.load false 1 t63 hq1) fun t64 =>
  bnd (A.lenStr t64) fun t65 =>
  bnd (A.bin Try.prog .gtr 3 t65 (.int .i64 500)) fun t66 =>
  toBK t66 fun bq7 =>
  kn (.bool bq7) x4 x3 x0 hq1)))))))
theorem ep33arrlrborlbrll (C : CF) (L : Nat) {β : Type} (x4 x3 x0 : Value) (h : H) (K : Ex → T Value → H → Option β) :
    execK Try.prog C L 0 120 [2] c33arrlrborlbrll [67, 4, 3, 0] [(1, [3, 0]), (0, [])] (fs [(4, x4), (3, x3), (0, x0)]) h K =
      p33arrlrborlbrll C L x4 x3 x0 h (fun x67 x4 x3 x0 h => K .normal (fs [(67, x67), (4, x4), (3, x3), (0, x0)]) h) := by
  kernel_rfl
noncomputable def c33arrlrborlbrlr : Code := cR c33arrlrborlbrl
noncomputable def p33arrlrborlbrlr (C : CF) (L : Nat) {β : Type} (x67 x4 x3 x0 : Value) (h : H) (kr : Value → H → Option β) (kn : Value → Value → Value → H → Option β) : Option β :=
  condV x67 (
  kr (.bool true) h) (
  kn x4 x3 x0 h)
theorem ep33arrlrborlbrlr (C : CF) (L : Nat) {β : Type} (x67 x4 x3 x0 : Value) (h : H) (K : Ex → T Value → H → Option β) :
    execK Try.prog C L 0 120 [2] c33arrlrborlbrlr [4, 3, 0] [(1, [3, 0]), (0, [])] (fs [(67, x67), (4, x4), (3, x3), (0, x0)]) h K =
      p33arrlrborlbrlr C L x67 x4 x3 x0 h (fun x2 h => K .ret (fs [(2, x2)]) h) (fun x4 x3 x0 h => K .normal (fs [(4, x4), (3, x3), (0, x0)]) h) := by
  kernel_rfl
noncomputable def p33arrlrborlbrl (C : CF) (L : Nat) {β : Type} (x4 x3 x0 : Value) (h : H) (kr : Value → H → Option β) (kn : Value → Value → Value → H → Option β) : Option β :=
  p33arrlrborlbrll C L x4 x3 x0 h (fun x67 x4 x3 x0 h => p33arrlrborlbrlr C L x67 x4 x3 x0 h kr kn)
theorem ep33arrlrborlbrl (C : CF) (L : Nat) {β : Type} (x4 x3 x0 : Value) (h : H) (K : Ex → T Value → H → Option β) :
    execK Try.prog C L 0 120 [2] c33arrlrborlbrl [4, 3, 0] [(1, [3, 0]), (0, [])] (fs [(4, x4), (3, x3), (0, x0)]) h K =
      p33arrlrborlbrl C L x4 x3 x0 h (fun x2 h => K .ret (fs [(2, x2)]) h) (fun x4 x3 x0 h => K .normal (fs [(4, x4), (3, x3), (0, x0)]) h) := by
  rw [execK_seq (a := c33arrlrborlbrll) (b := c33arrlrborlbrlr) (by kernel_rfl) (show live [2] c33arrlrborlbrlr [4, 3, 0] [(1, [3, 0]), (0, [])] = [67, 4, 3, 0] by kernel_rfl), ep33arrlrborlbrll]
  unfold p33arrlrborlbrl
  exact (congrArg (p33arrlrborlbrll C L x4 x3 x0 h) (funext fun x67 => funext fun x4 => funext fun x3 => funext fun x0 => funext fun h => (seqK_n _ _ _).trans (ep33arrlrborlbrlr C L x67 x4 x3 x0 h K)))
noncomputable def c33arrlrborlbrr : Code := cR c33arrlrborlbr
noncomputable def c33arrlrborlbrrl : Code := cL c33arrlrborlbrr
noncomputable def c33arrlrborlbrrll : Code := cL c33arrlrborlbrrl
noncomputable def p33arrlrborlbrrll (C : CF) (L : Nat) {β : Type} (x4 x3 x0 : Value) (h : H) (kn : Value → Value → Value → Value → H → Option β) : Option β :=
  kn (.int .i64 0) x4 x3 x0 h
theorem ep33arrlrborlbrrll (C : CF) (L : Nat) {β : Type} (x4 x3 x0 : Value) (h : H) (K : Ex → T Value → H → Option β) :
    execK Try.prog C L 0 120 [2] c33arrlrborlbrrll [5, 4, 3, 0] [(1, [3, 0]), (0, [])] (fs [(4, x4), (3, x3), (0, x0)]) h K =
      p33arrlrborlbrrll C L x4 x3 x0 h (fun x5 x4 x3 x0 h => K .normal (fs [(5, x5), (4, x4), (3, x3), (0, x0)]) h) := by
  kernel_rfl
noncomputable def c33arrlrborlbrrlr : Code := cR c33arrlrborlbrrl
noncomputable def c33arrlrborlbrrlrb : Code := cL c33arrlrborlbrrlr
noncomputable def c33arrlrborlbrrlrbo : Code := cL c33arrlrborlbrrlrb
noncomputable def p33arrlrborlbrrlrbo (C : CF) (L : Nat) {β : Type} (x5 x4 x3 x0 : Value) (h : H) (kr : Value → H → Option β) (kn : Value → Value → Value → Value → H → Option β) (kx2 : Value → Value → Value → H → Option β) : Option β :=
  bnd (A.fieldAddr 35 x4) fun t69 =>
  bnd (A.load false 1 t69 h) fun t70 =>
  bnd (A.lenS t70) fun t71 =>
  bnd (A.bin Try.prog .lss 3 x5 t71) fun t72 =>
  toBK t72 fun b =>
  (bif b then
  bnd (A.fieldAddr 35 x4) fun t75 =>
  bnd (A.load false 1 t75 h) fun t76 =>
  bnd (A.idxS 24 t76 x5) fun t78 =>
  bnd (A.load true 24 t78 h) fun t79 =>
  bnd2 (C 46 [t79] h) fun t80 hq1 =>
  toBK t80 fun bq1 =>
  (bif bq1 then
  kr (.bool true) hq1
  else
  bnd (A.bin Try.prog .add 3 x5 (.int .i64 1)) fun t74 =>
  kn t74 x4 x3 x0 hq1)
  else
  kx2 x4 x3 x0 h)
theorem ep33arrlrborlbrrlrbo (C : CF) (L : Nat) {β : Type} (x5 x4 x3 x0 : Value) (h : H) (K : Ex → T Value → H → Option β) :
    execK Try.prog C L 0 120 [2] c33arrlrborlbrrlrbo [5, 4, 3, 0] [(2, [4, 3, 0]), (1, [3, 0]), (0, [])] (fs [(5, x5), (4, x4), (3, x3), (0, x0)]) h K =
      p33arrlrborlbrrlrbo C L x5 x4 x3 x0 h (fun x2 h => K .ret (fs [(2, x2)]) h) (fun x5 x4 x3 x0 h => K .normal (fs [(5, x5), (4, x4), (3, x3), (0, x0)]) h) (fun x4 x3 x0 h => K (.exit 2) (fs [(4, x4), (3, x3), (0, x0)]) h) := by
  kernel_rfl
noncomputable def p33arrlrborlbrrlrbw (C : CF) (L : Nat) {β : Type} (kr : Value → H → Option β) (kx2 : Value → Value → Value → H → Option β) : Nat → Value → Value → Value → Value → H → Option β
  | 0, _, _, _, _, _ => none
  | n + 1, x5, x4, x3, x0, h => p33arrlrborlbrrlrbo C L x5 x4 x3 x0 h kr (fun x5 x4 x3 x0 h => p33arrlrborlbrrlrbw C L kr kx2 n x5 x4 x3 x0 h) kx2
theorem ep33arrlrborlbrrlrbw (C : CF) (L : Nat) {β : Type} (K : Ex → T Value → H → Option β) : ∀ (n : Nat) (x5 x4 x3 x0 : Value) (h : H),
    loopK (fun fr h K => execK Try.prog C L 0 120 [2] c33arrlrborlbrrlrbo [5, 4, 3, 0] [(2, [4, 3, 0]), (1, [3, 0]), (0, [])] fr h K) n (fs [(5, x5), (4, x4), (3, x3), (0, x0)]) h K =
      p33arrlrborlbrrlrbw C L (fun x2 h => K .ret (fs [(2, x2)]) h) (fun x4 x3 x0 h => K (.exit 2) (fs [(4, x4), (3, x3), (0, x0)]) h) n x5 x4 x3 x0 h := by
  intro n
  induction n with
  | zero => intros; rfl
  | succ n ih =>
    intros
    simp only [loopK]
    rw [ep33arrlrborlbrrlrbo]
    simp only [seqK_n, seqK_x, seqK_r, ih]
    rfl
noncomputable def p33arrlrborlbrrlrb (C : CF) (L : Nat) {β : Type} (x5 x4 x3 x0 : Value) (h : H) (kr : Value → H → Option β) (kx2 : Value → Value → Value → H → Option β) : Option β :=
  p33arrlrborlbrrlrbw C L kr kx2 L x5 x4 x3 x0 h
theorem ep33arrlrborlbrrlrb (C : CF) (L : Nat) {β : Type} (x5 x4 x3 x0 : Value) (h : H) (K : Ex → T Value → H → Option β) :
    execK Try.prog C L 0 120 [2] c33arrlrborlbrrlrb [4, 3, 0] [(2, [4, 3, 0]), (1, [3, 0]), (0, [])] (fs [(5, x5), (4, x4), (3, x3), (0, x0)]) h K =
      p33arrlrborlbrrlrb C L x5 x4 x3 x0 h (fun x2 h => K .ret (fs [(2, x2)]) h) (fun x4 x3 x0 h => K (.exit 2) (fs [(4, x4), (3, x3), (0, x0)]) h) := by
  rw [execK_loop (b := c33arrlrborlbrrlrbo) (fr1 := (fs [(5, x5), (4, x4), (3, x3), (0, x0)])) (by kernel_rfl) (show live [2] c33arrlrborlbrrlrbo [] [(2, [4, 3, 0]), (1, [3, 0]), (0, [])] = [5, 4, 3, 0] by kernel_rfl) (by kernel_rfl), ep33arrlrborlbrrlrbw]
  unfold p33arrlrborlbrrlrb
  rfl
noncomputable def p33arrlrborlbrrlr (C : CF) (L : Nat) {β : Type} (x5 x4 x3 x0 : Value) (h : H) (kr : Value → H → Option β) (kn : Value → Value → Value → H → Option β) : Option β :=
  p33arrlrborlbrrlrb C L x5 x4 x3 x0 h kr kn
theorem ep33arrlrborlbrrlr (C : CF) (L : Nat) {β : Type} (x5 x4 x3 x0 : Value) (h : H) (K : Ex → T Value → H → Option β) :
    execK Try.prog C L 0 120 [2] c33arrlrborlbrrlr [4, 3, 0] [(1, [3, 0]), (0, [])] (fs [(5, x5), (4, x4), (3, x3), (0, x0)]) h K =
      p33arrlrborlbrrlr C L x5 x4 x3 x0 h (fun x2 h => K .ret (fs [(2, x2)]) h) (fun x4 x3 x0 h => K .normal (fs [(4, x4), (3, x3), (0, x0)]) h) := by
  rw [execK_block (b := c33arrlrborlbrrlrb) (id := 2) (by kernel_rfl), ep33arrlrborlbrrlrb]
  unfold p33arrlrborlbrrlr
  rfl
noncomputable def p33arrlrborlbrrl (C : CF) (L : Nat) {β : Type} (x4 x3 x0 : Value) (h : H) (kr : Value → H → Option β) (kn : Value → Value → Value → H → Option β) : Option β :=
  p33arrlrborlbrrll C L x4 x3 x0 h (fun x5 x4 x3 x0 h => p33arrlrborlbrrlr C L x5 x4 x3 x0 h kr kn)
theorem ep33arrlrborlbrrl (C : CF) (L : Nat) {β : Type} (x4 x3 x0 : Value) (h : H) (K : Ex → T Value → H → Option β) :
    execK Try.prog C L 0 120 [2] c33arrlrborlbrrl [4, 3, 0] [(1, [3, 0]), (0, [])] (fs [(4, x4), (3, x3), (0, x0)]) h K =
      p33arrlrborlbrrl C L x4 x3 x0 h (fun x2 h => K .ret (fs [(2, x2)]) h) (fun x4 x3 x0 h => K .normal (fs [(4, x4), (3, x3), (0, x0)]) h) := by
  rw [execK_seq (a := c33arrlrborlbrrll) (b := c33arrlrborlbrrlr) (by kernel_rfl) (show live [2] c33arrlrborlbrrlr [4, 3, 0] [(1, [3, 0]), (0, [])] = [5, 4, 3, 0] by kernel_rfl), ep33arrlrborlbrrll]
  unfold p33arrlrborlbrrl
  exact (congrArg (p33arrlrborlbrrll C L x4 x3 x0 h) (funext fun x5 => funext fun x4 => funext fun x3 => funext fun x0 => funext fun h => (seqK_n _ _ _).trans (ep33arrlrborlbrrlr C L x5 x4 x3 x0 h K)))
noncomputable def c33arrlrborlbrrr : Code := cR c33arrlrborlbrr
noncomputable def c33arrlrborlbrrrl : Code := cL c33arrlrborlbrrr
noncomputable def c33arrlrborlbrrrll : Code := cL c33arrlrborlbrrrl
noncomputable def p33arrlrborlbrrrll (C : CF) (L : Nat) {β : Type} (x4 x3 x0 : Value) (h : H) (kn : Value → Value → Value → Value → H → Option β) : Option β :=
  kn (.int .i64 0) x4 x3 x0 h
theorem ep33arrlrborlbrrrll (C : CF) (L : Nat) {β : Type} (x4 x3 x0 : Value) (h : H) (K : Ex → T Value → H → Option β) :
    execK Try.prog C L 0 120 [2] c33arrlrborlbrrrll [6, 4, 3, 0] [(1, [3, 0]), (0, [])] (fs [(4, x4), (3, x3), (0, x0)]) h K =
      p33arrlrborlbrrrll C L x4 x3 x0 h (fun x6 x4 x3 x0 h => K .normal (fs [(6, x6), (4, x4), (3, x3), (0, x0)]) h) := by
  kernel_rfl
noncomputable def c33arrlrborlbrrrlr : Code := cR c33arrlrborlbrrrl
noncomputable def c33arrlrborlbrrrlrb : Code := cL c33arrlrborlbrrrlr
noncomputable def c33arrlrborlbrrrlrbo : Code := cL c33arrlrborlbrrrlrb
noncomputable def c33arrlrborlbrrrlrbol : Code := cL c33arrlrborlbrrrlrbo
noncomputable def p33arrlrborlbrrrlrbol (C : CF) (L : Nat) {β : Type} (x6 x4 x3 x0 : Value) (h : H) (kn : Value → Value → Value → Value → H → Option β) (kx4 : Value → Value → Value → H → Option β) : Option β :=
  bnd (A.fieldAddr 33 x4) fun t82 =>
  bnd (A.load false 1 t82 h) fun t83 =>
  bnd (A.lenS t83) fun t84 =>
  bnd (A.bin Try.prog .lss 3 x6 t84) fun t85 =>
  toBK t85 fun b =>
  (bif b then
  kn x6 x4 x3 x0 h
  else
  kx4 x4 x3 x0 h)
theorem ep33arrlrborlbrrrlrbol (C : CF) (L : Nat) {β : Type} (x6 x4 x3 x0 : Value) (h : H) (K : Ex → T Value → H → Option β) :
    execK Try.prog C L 0 120 [2] c33arrlrborlbrrrlrbol [6, 4, 3, 0] [(4, [4, 3, 0]), (1, [3, 0]), (0, [])] (fs [(6, x6), (4, x4), (3, x3), (0, x0)]) h K =
      p33arrlrborlbrrrlrbol C L x6 x4 x3 x0 h (fun x6 x4 x3 x0 h => K .normal (fs [(6, x6), (4, x4), (3, x3), (0, x0)]) h) (fun x4 x3 x0 h => K (.exit 4) (fs [(4, x4), (3, x3), (0, x0)]) h) := by
  kernel_rfl
noncomputable def c33arrlrborlbrrrlrbor : Code := cR c33arrlrborlbrrrlrbo
noncomputable def c33arrlrborlbrrrlrborl : Code := cL c33arrlrborlbrrrlrbor
noncomputable def c33arrlrborlbrrrlrborlb : Code := cL c33arrlrborlbrrrlrborl
noncomputable def p33arrlrborlbrrrlrborlb (C : CF) (L : Nat) {β : Type} (x6 x4 x3 x0 : Value) (h : H) (kr : Value → H → Option β) (kn : Value → Value → Value → Value → H → Option β) : Option β :=
  bnd (A.fieldAddr 33 x4) fun t88 =>
  bnd (A.load false 1 t88 h) fun t89 =>
  bnd (A.idxS 4 t89 x6) fun t91 =>
  bnd (A.fieldAddr 0 t91) fun t92 =>
  bnd (A.load false 1 t92 h) fun t93 =>
  bnd (A.lenStr t93) fun t94 =>
  bnd (A.bin Try.prog .gtr 3 t94 (.int .i64 500)) fun t95 =>
  toBK t95 fun b =>
  (bif b then
  kr (.bool true) h
  else
  bnd (A.fieldAddr 33 x4) fun t97 =>
  bnd (A.load false 1 t97 h) fun t98 =>
  bnd (A.idxS 4 t98 x6) fun t100 =>
  bnd (A.fieldAddr 1 t100) fun t101 =>
  bnd (A.load false 1 t101 h) fun t102 =>
  bnd (A.lenStr t102) fun t103 =>
  bnd (A.bin Try.prog .gtr 3 t103 (.int .i64 500)) fun t104 =>
  toBK t104 fun bq1 =>
  (bif bq1 then
  kr (.bool true) h
  else
  kn x6 x4 x3 x0 h))
theorem ep33arrlrborlbrrrlrborlb (C : CF) (L : Nat) {β : Type} (x6 x4 x3 x0 : Value) (h : H) (K : Ex → T Value → H → Option β) :
    execK Try.prog C L 0 120 [2] c33arrlrborlbrrrlrborlb [6, 4, 3, 0] [(5, [6, 4, 3, 0]), (4, [4, 3, 0]), (1, [3, 0]), (0, [])] (fs [(6, x6), (4, x4), (3, x3), (0, x0)]) h K =
      p33arrlrborlbrrrlrborlb C L x6 x4 x3 x0 h (fun x2 h => K .ret (fs [(2, x2)]) h) (fun x6 x4 x3 x0 h => K .normal (fs [(6, x6), (4, x4), (3, x3), (0, x0)]) h) := by
  kernel_rfl
noncomputable def p33arrlrborlbrrrlrborl (C : CF) (L : Nat) {β : Type} (x6 x4 x3 x0 : Value) (h : H) (kr : Value → H → Option β) (kn : Value → Value → Value → Value → H → Option β) : Option β :=
  p33arrlrborlbrrrlrborlb C L x6 x4 x3 x0 h kr kn
theorem ep33arrlrborlbrrrlrborl (C : CF) (L : Nat) {β : Type} (x6 x4 x3 x0 : Value) (h : H) (K : Ex → T Value → H → Option β) :
    execK Try.prog C L 0 120 [2] c33arrlrborlbrrrlrborl [6, 4, 3, 0] [(4, [4, 3, 0]), (1, [3, 0]), (0, [])] (fs [(6, x6), (4, x4), (3, x3), (0, x0)]) h K =
      p33arrlrborlbrrrlrborl C L x6 x4 x3 x0 h (fun x2 h => K .ret (fs [(2, x2)]) h) (fun x6 x4 x3 x0 h => K .normal (fs [(6, x6), (4, x4), (3, x3), (0, x0)]) h) := by
  rw [execK_block (b := c33arrlrborlbrrrlrborlb) (id := 5) (by kernel_rfl), ep33arrlrborlbrrrlrborlb]
  unfold p33arrlrborlbrrrlrborl
  rfl
noncomputable def c33arrlrborlbrrrlrborr : Code := cR c33arrlrborlbrrrlrbor
noncomputable def p33arrlrborlbrrrlrborr (C : CF) (L : Nat) {β : Type} (x6 x4 x3 x0 : Value) (h : H) (kn : Value → Value → Value → Value → H → Option β) : Option β :=
  bnd (A.bin Try.prog .add 3 x6 (.int .i64 1)) fun t87 =>
  kn t87 x4 x3 x0 h
theorem ep33arrlrborlbrrrlrborr (C : CF) (L : Nat) {β : Type} (x6 x4 x3 x0 : Value) (h : H) (K : Ex → T Value → H → Option β) :
    execK Try.prog C L 0 120 [2] c33arrlrborlbrrrlrborr [6, 4, 3, 0] [(4, [4, 3, 0]), (1, [3, 0]), (0, [])] (fs [(6, x6), (4, x4), (3, x3), (0, x0)]) h K =
      p33arrlrborlbrrrlrborr C L x6 x4 x3 x0 h (fun x6 x4 x3 x0 h => K .normal (fs [(6, x6), (4, x4), (3, x3), (0, x0)]) h) := by
  kernel_rfl
noncomputable def p33arrlrborlbrrrlrbor (C : CF) (L : Nat) {β : Type} (x6 x4 x3 x0 : Value) (h : H) (kn : Value → Value → Value → Value → H → Option β) (kr : Value → H → Option β) : Option β :=
  p33arrlrborlbrrrlrborl C L x6 x4 x3 x0 h kr (fun x6 x4 x3 x0 h => p33arrlrborlbrrrlrborr C L x6 x4 x3 x0 h kn)
theorem ep33arrlrborlbrrrlrbor (C : CF) (L : Nat) {β : Type} (x6 x4 x3 x0 : Value) (h : H) (K : Ex → T Value → H → Option β) :
    execK Try.prog C L 0 120 [2] c33arrlrborlbrrrlrbor [6, 4, 3, 0] [(4, [4, 3, 0]), (1, [3, 0]), (0, [])] (fs [(6, x6), (4, x4), (3, x3), (0, x0)]) h K =
      p33arrlrborlbrrrlrbor C L x6 x4 x3 x0 h (fun x6 x4 x3 x0 h => K .normal (fs [(6, x6), (4, x4), (3, x3), (0, x0)]) h) (fun x2 h => K .ret (fs [(2, x2)]) h) := by
  rw [execK_seq (a := c33arrlrborlbrrrlrborl) (b := c33arrlrborlbrrrlrborr) (by kernel_rfl) (show live [2] c33arrlrborlbrrrlrborr [6, 4, 3, 0] [(4, [4, 3, 0]), (1, [3, 0]), (0, [])] = [6, 4, 3, 0] by kernel_rfl), ep33arrlrborlbrrrlrborl]
  unfold p33arrlrborlbrrrlrbor
  exact (congr (congrArg (p33arrlrborlbrrrlrborl C L x6 x4 x3 x0 h) (funext fun x2 => funext fun h => seqK_r _ _ _)) (funext fun x6 => funext fun x4 => funext fun x3 => funext fun x0 => funext fun h => (seqK_n _ _ _).trans (ep33arrlrborlbrrrlrborr C L x6 x4 x3 x0 h K)))
noncomputable def p33arrlrborlbrrrlrbo (C : CF) (L : Nat) {β : Type} (x6 x4 x3 x0 : Value) (h : H) (kn : Value → Value → Value → Value → H → Option β) (kr : Value → H → Option β) (kx4 : Value → Value → Value → H → Option β) : Option β :=
  p33arrlrborlbrrrlrbol C L x6 x4 x3 x0 h (fun x6 x4 x3 x0 h => p33arrlrborlbrrrlrbor C L x6 x4 x3 x0 h kn kr) kx4
theorem ep33arrlrborlbrrrlrbo (C : CF) (L : Nat) {β : Type} (x6 x4 x3 x0 : Value) (h : H) (K : Ex → T Value → H → Option β) :
    execK Try.prog C L 0 120 [2] c33arrlrborlbrrrlrbo [6, 4, 3, 0] [(4, [4, 3, 0]), (1, [3, 0]), (0, [])] (fs [(6, x6), (4, x4), (3, x3), (0, x0)]) h K =
      p33arrlrborlbrrrlrbo C L x6 x4 x3 x0 h (fun x6 x4 x3 x0 h => K .normal (fs [(6, x6), (4, x4), (3, x3), (0, x0)]) h) (fun x2 h => K .ret (fs [(2, x2)]) h) (fun x4 x3 x0 h => K (.exit 4) (fs [(4, x4), (3, x3), (0, x0)]) h) := by
  rw [execK_seq (a := c33arrlrborlbrrrlrbol) (b := c33arrlrborlbrrrlrbor) (by kernel_rfl) (show live [2] c33arrlrborlbrrrlrbor [6, 4, 3, 0] [(4, [4, 3, 0]), (1, [3, 0]), (0, [])] = [6, 4, 3, 0] by kernel_rfl), ep33arrlrborlbrrrlrbol]
  unfold p33arrlrborlbrrrlrbo
  exact (congr (congrArg (p33arrlrborlbrrrlrbol C L x6 x4 x3 x0 h) (funext fun x6 => funext fun x4 => funext fun x3 => funext fun x0 => funext fun h => (seqK_n _ _ _).trans (ep33arrlrborlbrrrlrbor C L x6 x4 x3 x0 h K))) (funext fun x4 => funext fun x3 => funext fun x0 => funext fun h => seqK_x _ _ _ _))
noncomputable def p33arrlrborlbrrrlrbw (C : CF) (L : Nat) {β : Type} (kr : Value → H → Option β) (kx4 : Value → Value → Value → H → Option β) : Nat → Value → Value → Value → Value → H → Option β
  | 0, _, _, _, _, _ => none
  | n + 1, x6, x4, x3, x0, h => p33arrlrborlbrrrlrbo C L x6 x4 x3 x0 h (fun x6 x4 x3 x0 h => p33arrlrborlbrrrlrbw C L kr kx4 n x6 x4 x3 x0 h) kr kx4
theorem ep33arrlrborlbrrrlrbw (C : CF) (L : Nat) {β : Type} (K : Ex → T Value → H → Option β) : ∀ (n : Nat) (x6 x4 x3 x0 : Value) (h : H),
    loopK (fun fr h K => execK Try.prog C L 0 120 [2] c33arrlrborlbrrrlrbo [6, 4, 3, 0] [(4, [4, 3, 0]), (1, [3, 0]), (0, [])] fr h K) n (fs [(6, x6), (4, x4), (3, x3), (0, x0)]) h K =
      p33arrlrborlbrrrlrbw C L (fun x2 h => K .ret (fs [(2, x2)]) h) (fun x4 x3 x0 h => K (.exit 4) (fs [(4, x4), (3, x3), (0, x0)]) h) n x6 x4 x3 x0 h := by
  intro n
  induction n with
  | zero => intros; rfl
  | succ n ih =>
    intros
    simp only [loopK]
    rw [ep33arrlrborlbrrrlrbo]
    simp only [seqK_n, seqK_x, seqK_r, ih]
    rfl
noncomputable def p33arrlrborlbrrrlrb (C : CF) (L : Nat) {β : Type} (x6 x4 x3 x0 : Value) (h : H) (kr : Value → H → Option β) (kx4 : Value → Value → Value → H → Option β) : Option β :=
  p33arrlrborlbrrrlrbw C L kr kx4 L x6 x4 x3 x0 h
theorem ep33arrlrborlbrrrlrb (C : CF) (L : Nat) {β : Type} (x6 x4 x3 x0 : Value) (h : H) (K : Ex → T Value → H → Option β) :
    execK Try.prog C L 0 120 [2] c33arrlrborlbrrrlrb [4, 3, 0] [(4, [4, 3, 0]), (1, [3, 0]), (0, [])] (fs [(6, x6), (4, x4), (3, x3), (0, x0)]) h K =
      p33arrlrborlbrrrlrb C L x6 x4 x3 x0 h (fun x2 h => K .ret (fs [(2, x2)]) h) (fun x4 x3 x0 h => K (.exit 4) (fs [(4, x4), (3, x3), (0, x0)]) h) := by
  rw [execK_loop (b := c33arrlrborlbrrrlrbo) (fr1 := (fs [(6, x6), (4, x4), (3, x3), (0, x0)])) (by kernel_rfl) (show live [2] c33arrlrborlbrrrlrbo [] [(4, [4, 3, 0]), (1, [3, 0]), (0, [])] = [6, 4, 3, 0] by kernel_rfl) (by kernel_rfl), ep33arrlrborlbrrrlrbw]
  unfold p33arrlrborlbrrrlrb
  rfl
noncomputable def p33arrlrborlbrrrlr (C : CF) (L : Nat) {β : Type} (x6 x4 x3 x0 : Value) (h : H) (kr : Value → H → Option β) (kn : Value → Value → Value → H → Option β) : Option β :=
  p33arrlrborlbrrrlrb C L x6 x4 x3 x0 h kr kn
theorem ep33arrlrborlbrrrlr (C : CF) (L : Nat) {β : Type} (x6 x4 x3 x0 : Value) (h : H) (K : Ex → T Value → H → Option β) :
    execK Try.prog C L 0 120 [2] c33arrlrborlbrrrlr [4, 3, 0] [(1, [3, 0]), (0, [])] (fs [(6, x6), (4, x4), (3, x3), (0, x0)]) h K =
      p33arrlrborlbrrrlr C L x6 x4 x3 x0 h (fun x2 h => K .ret (fs [(2, x2)]) h) (fun x4 x3 x0 h => K .normal (fs [(4, x4), (3, x3), (0, x0)]) h) := by
  rw [execK_block (b := c33arrlrborlbrrrlrb) (id := 4) (by kernel_rfl), ep33arrlrborlbrrrlrb]
  unfold p33arrlrborlbrrrlr
  rfl
noncomputable def p33arrlrborlbrrrl (C : CF) (L : Nat) {β : Type} (x4 x3 x0 : Value) (h : H) (kr : Value → H → Option β) (kn : Value → Value → Value → H → Option β) : Option β :=
  p33arrlrborlbrrrll C L x4 x3 x0 h (fun x6 x4 x3 x0 h => p33arrlrborlbrrrlr C L x6 x4 x3 x0 h kr kn)
theorem ep33arrlrborlbrrrl (C : CF) (L : Nat) {β : Type} (x4 x3 x0 : Value) (h : H) (K : Ex → T Value → H → Option β) :
    execK Try.prog C L 0 120 [2] c33arrlrborlbrrrl [4, 3, 0] [(1, [3, 0]), (0, [])] (fs [(4, x4), (3, x3), (0, x0)]) h K =
      p33arrlrborlbrrrl C L x4 x3 x0 h (fun x2 h => K .ret (fs [(2, x2)]) h) (fun x4 x3 x0 h => K .normal (fs [(4, x4), (3, x3), (0, x0)]) h) := by
  rw [execK_seq (a := c33arrlrborlbrrrll) (b := c33arrlrborlbrrrlr) (by kernel_rfl) (show live [2] c33arrlrborlbrrrlr [4, 3, 0] [(1, [3, 0]), (0, [])] = [6, 4, 3, 0] by kernel_rfl), ep33arrlrborlbrrrll]
  unfold p33arrlrborlbrrrl
  exact (congrArg (p33arrlrborlbrrrll C L x4 x3 x0 h) (funext fun x6 => funext fun x4 => funext fun x3 => funext fun x0 => funext fun h => (seqK_n _ _ _).trans (ep33arrlrborlbrrrlr C L x6 x4 x3 x0 h K)))
noncomputable def c33arrlrborlbrrrr : Code := cR c33arrlrborlbrrr
noncomputable def c33arrlrborlbrrrrl : Code := cL c33arrlrborlbrrrr
noncomputable def p33arrlrborlbrrrrl (C : CF) (L : Nat) {β : Type} (x4 x3 x0 : Value) (h : H) (kn : Value → Value → Value → Value → H → Option β) : Option β :=
  kn (.int .i64 0) x4 x3 x0 h
theorem ep33arrlrborlbrrrrl (C : CF) (L : Nat) {β : Type} (x4 x3 x0 : Value) (h : H) (K : Ex → T Value → H → Option β) :
    execK Try.prog C L 0 120 [2] c33arrlrborlbrrrrl [7, 4, 3, 0] [(1, [3, 0]), (0, [])] (fs [(4, x4), (3, x3), (0, x0)]) h K =
      p33arrlrborlbrrrrl C L x4 x3 x0 h (fun x7 x4 x3 x0 h => K .normal (fs [(7, x7), (4, x4), (3, x3), (0, x0)]) h) := by
  kernel_rfl
noncomputable def c33arrlrborlbrrrrr : Code := cR c33arrlrborlbrrrr
noncomputable def c33arrlrborlbrrrrrb : Code := cL c33arrlrborlbrrrrr
noncomputable def c33arrlrborlbrrrrrbo : Code := cL c33arrlrborlbrrrrrb
noncomputable def p33arrlrborlbrrrrrbo (C : CF) (L : Nat) {β : Type} (x7 x4 x3 x0 : Value) (h : H) (kr : Value → H → Option β) (kn : Value → Value → Value → Value → H → Option β) (kx6 : Value → Value → H → Option β) : Option β :=
  bnd (A.fieldAddr 34 x4) fun t107 =>
  bnd (A.load false 1 t107 h) fun t108 =>
  bnd (A.lenS t108) fun t109 =>
  bnd (A.bin Try.prog .lss 3 x7 t109) fun t110 =>
  toBK t110 fun b =>
  (bif b then
  bnd (A.fieldAddr 34 x4) fun t113 =>
  bnd (A.load false 1 t113 h) fun t114 =>
  bnd (A.idxS 1 t114 x7) fun t116 =>
  bnd (A.load false 1 t116 h) fun t117 =>
  bnd (A.lenStr t117) fun t118 =>
  bnd (A.bin Try.prog .gtr 3 t118 (.int .i64 500)) fun t119 =>
  toBK t119 fun bq1 =>
  (bif bq1 then
  kr (.bool true) h
  else
  bnd (A.bin Try.prog .add 3 x7 (.int .i64 1)) fun t112 =>
  kn t112 x4 x3 x0 h)
  else
  kx6 x3 x0 h)
theorem ep33arrlrborlbrrrrrbo (C : CF) (L : Nat) {β : Type} (x7 x4 x3 x0 : Value) (h : H) (K : Ex → T Value → H → Option β) :
    execK Try.prog C L 0 120 [2] c33arrlrborlbrrrrrbo [7, 4, 3, 0] [(6, [3, 0]), (1, [3, 0]), (0, [])] (fs [(7, x7), (4, x4), (3, x3), (0, x0)]) h K =
      p33arrlrborlbrrrrrbo C L x7 x4 x3 x0 h (fun x2 h => K .ret (fs [(2, x2)]) h) (fun x7 x4 x3 x0 h => K .normal (fs [(7, x7), (4, x4), (3, x3), (0, x0)]) h) (fun x3 x0 h => K (.exit 6) (fs [(3, x3), (0, x0)]) h) := by
  kernel_rfl
noncomputable def p33arrlrborlbrrrrrbw (C : CF) (L : Nat) {β : Type} (kr : Value → H → Option β) (kx6 : Value → Value → H → Option β) : Nat → Value → Value → Value → Value → H → Option β
  | 0, _, _, _, _, _ => none
  | n + 1, x7, x4, x3, x0, h => p33arrlrborlbrrrrrbo C L x7 x4 x3 x0 h kr (fun x7 x4 x3 x0 h => p33arrlrborlbrrrrrbw C L kr kx6 n x7 x4 x3 x0 h) kx6
theorem ep33arrlrborlbrrrrrbw (C : CF) (L : Nat) {β : Type} (K : Ex → T Value → H → Option β) : ∀ (n : Nat) (x7 x4 x3 x0 : Value) (h : H),
    loopK (fun fr h K => execK Try.prog C L 0 120 [2] c33arrlrborlbrrrrrbo [7, 4, 3, 0] [(6, [3, 0]), (1, [3, 0]), (0, [])] fr h K) n (fs [(7, x7), (4, x4), (3, x3), (0, x0)]) h K =
      p33arrlrborlbrrrrrbw C L (fun x2 h => K .ret (fs [(2, x2)]) h) (fun x3 x0 h => K (.exit 6) (fs [(3, x3), (0, x0)]) h) n x7 x4 x3 x0 h := by
  intro n
  induction n with
  | zero => intros; rfl
  | succ n ih =>
    intros
    simp only [loopK]
    rw [ep33arrlrborlbrrrrrbo]
    simp only [seqK_n, seqK_x, seqK_r, ih]
    rfl
noncomputable def p33arrlrborlbrrrrrb (C : CF) (L : Nat) {β : Type} (x7 x4 x3 x0 : Value) (h : H) (kr : Value → H → Option β) (kx6 : Value → Value → H → Option β) : Option β :=
  p33arrlrborlbrrrrrbw C L kr kx6 L x7 x4 x3 x0 h
theorem ep33arrlrborlbrrrrrb (C : CF) (L : Nat) {β : Type} (x7 x4 x3 x0 : Value) (h : H) (K : Ex → T Value → H → Option β) :
    execK Try.prog C L 0 120 [2] c33arrlrborlbrrrrrb [3, 0] [(6, [3, 0]), (1, [3, 0]), (0, [])] (fs [(7, x7), (4, x4), (3, x3), (0, x0)]) h K =
      p33arrlrborlbrrrrrb C L x7 x4 x3 x0 h (fun x2 h => K .ret (fs [(2, x2)]) h) (fun x3 x0 h => K (.exit 6) (fs [(3, x3), (0, x0)]) h) := by
  rw [execK_loop (b := c33arrlrborlbrrrrrbo) (fr1 := (fs [(7, x7), (4, x4), (3, x3), (0, x0)])) (by kernel_rfl) (show live [2] c33arrlrborlbrrrrrbo [] [(6, [3, 0]), (1, [3, 0]), (0, [])] = [7, 4, 3, 0] by kernel_rfl) (by kernel_rfl), ep33arrlrborlbrrrrrbw]
  unfold p33arrlrborlbrrrrrb
  rfl
noncomputable def p33arrlrborlbrrrrr (C : CF) (L : Nat) {β : Type} (x7 x4 x3 x0 : Value) (h : H) (kr : Value → H → Option β) (kn : Value → Value → H → Option β) : Option β :=
  p33arrlrborlbrrrrrb C L x7 x4 x3 x0 h kr kn
theorem ep33arrlrborlbrrrrr (C : CF) (L : Nat) {β : Type} (x7 x4 x3 x0 : Value) (h : H) (K : Ex → T Value → H → Option β) :
    execK Try.prog C L 0 120 [2] c33arrlrborlbrrrrr [3, 0] [(1, [3, 0]), (0, [])] (fs [(7, x7), (4, x4), (3, x3), (0, x0)]) h K =
      p33arrlrborlbrrrrr C L x7 x4 x3 x0 h (fun x2 h => K .ret (fs [(2, x2)]) h) (fun x3 x0 h => K .normal (fs [(3, x3), (0, x0)]) h) := by
  rw [execK_block (b := c33arrlrborlbrrrrrb) (id := 6) (by kernel_rfl), ep33arrlrborlbrrrrrb]
  unfold p33arrlrborlbrrrrr
  rfl
noncomputable def p33arrlrborlbrrrr (C : CF) (L : Nat) {β : Type} (x4 x3 x0 : Value) (h : H) (kr : Value → H → Option β) (kn : Value → Value → H → Option β) : Option β :=
  p33arrlrborlbrrrrl C L x4 x3 x0 h (fun x7 x4 x3 x0 h => p33arrlrborlbrrrrr C L x7 x4 x3 x0 h kr kn)
theorem ep33arrlrborlbrrrr (C : CF) (L : Nat) {β : Type} (x4 x3 x0 : Value) (h : H) (K : Ex → T Value → H → Option β) :
    execK Try.prog C L 0 120 [2] c33arrlrborlbrrrr [3, 0] [(1, [3, 0]), (0, [])] (fs [(4, x4), (3, x3), (0, x0)]) h K =
      p33arrlrborlbrrrr C L x4 x3 x0 h (fun x2 h => K .ret (fs [(2, x2)]) h) (fun x3 x0 h => K .normal (fs [(3, x3), (0, x0)]) h) := by
  rw [execK_seq (a := c33arrlrborlbrrrrl) (b := c33arrlrborlbrrrrr) (by kernel_rfl) (show live [2] c33arrlrborlbrrrrr [3, 0] [(1, [3, 0]), (0, [])] = [7, 4, 3, 0] by kernel_rfl), ep33arrlrborlbrrrrl]
  unfold p33arrlrborlbrrrr
  exact (congrArg (p33arrlrborlbrrrrl C L x4 x3 x0 h) (funext fun x7 => funext fun x4 => funext fun x3 => funext fun x0 => funext fun h => (seqK_n _ _ _).trans (ep33arrlrborlbrrrrr C L x7 x4 x3 x0 h K)))
noncomputable def p33arrlrborlbrrr (C : CF) (L : Nat) {β : Type} (x4 x3 x0 : Value) (h : H) (kr : Value → H → Option β) (kn : Value → Value → H → Option β) : Option β :=
  p33arrlrborlbrrrl C L x4 x3 x0 h kr (fun x4 x3 x0 h => p33arrlrborlbrrrr C L x4 x3 x0 h kr kn)
theorem ep33arrlrborlbrrr (C : CF) (L : Nat) {β : Type} (x4 x3 x0 : Value) (h : H) (K : Ex → T Value → H → Option β) :
    execK Try.prog C L 0 120 [2] c33arrlrborlbrrr [3, 0] [(1, [3, 0]), (0, [])] (fs [(4, x4), (3, x3), (0, x0)]) h K =
      p33arrlrborlbrrr C L x4 x3 x0 h (fun x2 h => K .ret (fs [(2, x2)]) h) (fun x3 x0 h => K .normal (fs [(3, x3), (0, x0)]) h) := by
  rw [execK_seq (a := c33arrlrborlbrrrl) (b := c33arrlrborlbrrrr) (by kernel_rfl) (show live [2] c33arrlrborlbrrrr [3, 0] [(1, [3, 0]), (0, [])] = [4, 3, 0] by kernel_rfl), ep33arrlrborlbrrrl]
  unfold p33arrlrborlbrrr
  exact (congr (congrArg (p33arrlrborlbrrrl C L x4 x3 x0 h) (funext fun x2 => funext fun h => seqK_r _ _ _)) (funext fun x4 => funext fun x3 => funext fun x0 => funext fun h => (seqK_n _ _ _).trans (ep33arrlrborlbrrrr C L x4 x3 x0 h K)))
noncomputable def p33arrlrborlbrr (C : CF) (L : Nat) {β : Type} (x4 x3 x0 : Value) (h : H) (kr : Value → H → Option β) (kn : Value → Value → H → Option β) : Option β :=
  p33arrlrborlbrrl C L x4 x3 x0 h kr (fun x4 x3 x0 h => p33arrlrborlbrrr C L x4 x3 x0 h kr kn)
theorem ep33arrlrborlbrr (C : CF) (L : Nat) {β : Type} (x4 x3 x0 : Value) (h : H) (K : Ex → T Value → H → Option β) :
    execK Try.prog C L 0 120 [2] c33arrlrborlbrr [3, 0] [(1, [3, 0]), (0, [])] (fs [(4, x4), (3, x3), (0, x0)]) h K =
      p33arrlrborlbrr C L x4 x3 x0 h (fun x2 h => K .ret (fs [(2, x2)]) h) (fun x3 x0 h => K .normal (fs [(3, x3), (0, x0)]) h) := by
  rw [execK_seq (a := c33arrlrborlbrrl) (b := c33arrlrborlbrrr) (by kernel_rfl) (show live [2] c33arrlrborlbrrr [3, 0] [(1, [3, 0]), (0, [])] = [4, 3, 0] by kernel_rfl), ep33arrlrborlbrrl]
  unfold p33arrlrborlbrr
  exact (congr (congrArg (p33arrlrborlbrrl C L x4 x3 x0 h) (funext fun x2 => funext fun h => seqK_r _ _ _)) (funext fun x4 => funext fun x3 => funext fun x0 => funext fun h => (seqK_n _ _ _).trans (ep33arrlrborlbrrr C L x4 x3 x0 h K)))
noncomputable def p33arrlrborlbr (C : CF) (L : Nat) {β : Type} (x4 x3 x0 : Value) (h : H) (kr : Value → H → Option β) (kn : Value → Value → H → Option β) : Option β :=
  p33arrlrborlbrl C L x4 x3 x0 h kr (fun x4 x3 x0 h => p33arrlrborlbrr C L x4 x3 x0 h kr kn)
theorem ep33arrlrborlbr (C : CF) (L : Nat) {β : Type} (x4 x3 x0 : Value) (h : H) (K : Ex → T Value → H → Option β) :
    execK Try.prog C L 0 120 [2] c33arrlrborlbr [3, 0] [(1, [3, 0]), (0, [])] (fs [(4, x4), (3, x3), (0, x0)]) h K =
      p33arrlrborlbr C L x4 x3 x0 h (fun x2 h => K .ret (fs [(2, x2)]) h) (fun x3 x0 h => K .normal (fs [(3, x3), (0, x0)]) h) := by
  rw [execK_seq (a := c33arrlrborlbrl) (b := c33arrlrborlbrr) (by kernel_rfl) (show live [2] c33arrlrborlbrr [3, 0] [(1, [3, 0]), (0, [])] = [4, 3, 0] by kernel_rfl), ep33arrlrborlbrl]
  unfold p33arrlrborlbr
  exact (congr (congrArg (p33arrlrborlbrl C L x4 x3 x0 h) (funext fun x2 => funext fun h => seqK_r _ _ _)) (funext fun x4 => funext fun x3 => funext fun x0 => funext fun h => (seqK_n _ _ _).trans (ep33arrlrborlbrr C L x4 x3 x0 h K)))
noncomputable def p33arrlrborlb (C : CF) (L : Nat) {β : Type} (x3 x0 : Value) (h : H) (kr : Value → H → Option β) (kn : Value → Value → H → Option β) : Option β :=
  p33arrlrborlbl C L x3 x0 h (fun x4 x3 x0 h => p33arrlrborlbr C L x4 x3 x0 h kr kn)
theorem ep33arrlrborlb (C : CF) (L : Nat) {β : Type} (x3 x0 : Value) (h : H) (K : Ex → T Value → H → Option β) :
    execK Try.prog C L 0 120 [2] c33arrlrborlb [3, 0] [(1, [3, 0]), (0, [])] (fs [(3, x3), (0, x0)]) h K =
      p33arrlrborlb C L x3 x0 h (fun x2 h => K .ret (fs [(2, x2)]) h) (fun x3 x0 h => K .normal (fs [(3, x3), (0, x0)]) h) := by
  rw [execK_seq (a := c33arrlrborlbl) (b := c33arrlrborlbr) (by kernel_rfl) (show live [2] c33arrlrborlbr [3, 0] [(1, [3, 0]), (0, [])] = [4, 3, 0] by kernel_rfl), ep33arrlrborlbl]
  unfold p33arrlrborlb
  exact (congrArg (p33arrlrborlbl C L x3 x0 h) (funext fun x4 => funext fun x3 => funext fun x0 => funext fun h => (seqK_n _ _ _).trans (ep33arrlrborlbr C L x4 x3 x0 h K)))
noncomputable def p33arrlrborl (C : CF) (L : Nat) {β : Type} (x3 x0 : Value) (h : H) (kr : Value → H → Option β) (kn : Value → Value → H → Option β) : Option β :=
  p33arrlrborlb C L x3 x0 h kr kn
theorem ep33arrlrborl (C : CF) (L : Nat) {β : Type} (x3 x0 : Value) (h : H) (K : Ex → T Value → H → Option β) :
    execK Try.prog C L 0 120 [2] c33arrlrborl [3, 0] [(0, [])] (fs [(3, x3), (0, x0)]) h K =
      p33arrlrborl C L x3 x0 h (fun x2 h => K .ret (fs [(2, x2)]) h) (fun x3 x0 h => K .normal (fs [(3, x3), (0, x0)]) h) := by
  rw [execK_block (b := c33arrlrborlb) (id := 1) (by kernel_rfl), ep33arrlrborlb]
  unfold p33arrlrborl
  rfl
noncomputable def c33arrlrborr : Code := cR c33arrlrbor
noncomputable def p33arrlrborr (C : CF) (L : Nat) {β : Type} (x3 x0 : Value) (h : H) (kn : Value → Value → H → Option β) : Option β :=
  bnd (A.bin Try.prog .add 3 x3 (.int .i64 1)) fun t16 =>
  kn t16 x0 h
theorem ep33arrlrborr (C : CF) (L : Nat) {β : Type} (x3 x0 : Value) (h : H) (K : Ex → T Value → H → Option β) :
    execK Try.prog C L 0 120 [2] c33arrlrborr [3, 0] [(0, [])] (fs [(3, x3), (0, x0)]) h K =
      p33arrlrborr C L x3 x0 h (fun x3 x0 h => K .normal (fs [(3, x3), (0, x0)]) h) := by
  kernel_rfl
noncomputable def p33arrlrbor (C : CF) (L : Nat) {β : Type} (x3 x0 : Value) (h : H) (kn : Value → Value → H → Option β) (kr : Value → H → Option β) : Option β :=
  p33arrlrborl C L x3 x0 h kr (fun x3 x0 h => p33arrlrborr C L x3 x0 h kn)
theorem ep33arrlrbor (C : CF) (L : Nat) {β : Type} (x3 x0 : Value) (h : H) (K : Ex → T Value → H → Option β) :
    execK Try.prog C L 0 120 [2] c33arrlrbor [3, 0] [(0, [])] (fs [(3, x3), (0, x0)]) h K =
      p33arrlrbor C L x3 x0 h (fun x3 x0 h => K .normal (fs [(3, x3), (0, x0)]) h) (fun x2 h => K .ret (fs [(2, x2)]) h) := by
  rw [execK_seq (a := c33arrlrborl) (b := c33arrlrborr) (by kernel_rfl) (show live [2] c33arrlrborr [3, 0] [(0, [])] = [3, 0] by kernel_rfl), ep33arrlrborl]
  unfold p33arrlrbor
  exact (congr (congrArg (p33arrlrborl C L x3 x0 h) (funext fun x2 => funext fun h => seqK_r _ _ _)) (funext fun x3 => funext fun x0 => funext fun h => (seqK_n _ _ _).trans (ep33arrlrborr C L x3 x0 h K)))
noncomputable def p33arrlrbo (C : CF) (L : Nat) {β : Type} (x3 x0 : Value) (h : H) (kn : Value → Value → H → Option β) (kr : Value → H → Option β) (kx0 : H → Option β) : Option β :=
  p33arrlrbol C L x3 x0 h (fun x3 x0 h => p33arrlrbor C L x3 x0 h kn kr) kx0
theorem ep33arrlrbo (C : CF) (L : Nat) {β : Type} (x3 x0 : Value) (h : H) (K : Ex → T Value → H → Option β) :
    execK Try.prog C L 0 120 [2] c33arrlrbo [3, 0] [(0, [])] (fs [(3, x3), (0, x0)]) h K =
      p33arrlrbo C L x3 x0 h (fun x3 x0 h => K .normal (fs [(3, x3), (0, x0)]) h) (fun x2 h => K .ret (fs [(2, x2)]) h) (fun h => K (.exit 0) (fs []) h) := by
  rw [execK_seq (a := c33arrlrbol) (b := c33arrlrbor) (by kernel_rfl) (show live [2] c33arrlrbor [3, 0] [(0, [])] = [3, 0] by kernel_rfl), ep33arrlrbol]
  unfold p33arrlrbo
  exact (congr (congrArg (p33arrlrbol C L x3 x0 h) (funext fun x3 => funext fun x0 => funext fun h => (seqK_n _ _ _).trans (ep33arrlrbor C L x3 x0 h K))) (funext fun h => seqK_x _ _ _ _))
noncomputable def p33arrlrbw (C : CF) (L : Nat) {β : Type} (kr : Value → H → Option β) (kx0 : H → Option β) : Nat → Value → Value → H → Option β
  | 0, _, _, _ => none
  | n + 1, x3, x0, h => p33arrlrbo C L x3 x0 h (fun x3 x0 h => p33arrlrbw C L kr kx0 n x3 x0 h) kr kx0
theorem ep33arrlrbw (C : CF) (L : Nat) {β : Type} (K : Ex → T Value → H → Option β) : ∀ (n : Nat) (x3 x0 : Value) (h : H),
    loopK (fun fr h K => execK Try.prog C L 0 120 [2] c33arrlrbo [3, 0] [(0, [])] fr h K) n (fs [(3, x3), (0, x0)]) h K =
      p33arrlrbw C L (fun x2 h => K .ret (fs [(2, x2)]) h) (fun h => K (.exit 0) (fs []) h) n x3 x0 h := by
  intro n
  induction n with
  | zero => intros; rfl
  | succ n ih =>
    intros
    simp only [loopK]
    rw [ep33arrlrbo]
    simp only [seqK_n, seqK_x, seqK_r, ih]
    rfl
noncomputable def p33arrlrb (C : CF) (L : Nat) {β : Type} (x3 x0 : Value) (h : H) (kr : Value → H → Option β) (kx0 : H → Option β) : Option β :=
  p33arrlrbw C L kr kx0 L x3 x0 h
theorem ep33arrlrb (C : CF) (L : Nat) {β : Type} (x3 x0 : Value) (h : H) (K : Ex → T Value → H → Option β) :
    execK Try.prog C L 0 120 [2] c33arrlrb [] [(0, [])] (fs [(3, x3), (0, x0)]) h K =
      p33arrlrb C L x3 x0 h (fun x2 h => K .ret (fs [(2, x2)]) h) (fun h => K (.exit 0) (fs []) h) := by
  rw [execK_loop (b := c33arrlrbo) (fr1 := (fs [(3, x3), (0, x0)])) (by kernel_rfl) (show live [2] c33arrlrbo [] [(0, [])] = [3, 0] by kernel_rfl) (by kernel_rfl), ep33arrlrbw]
  unfold p33arrlrb
  rfl
noncomputable def p33arrlr (C : CF) (L : Nat) {β : Type} (x3 x0 : Value) (h : H) (kr : Value → H → Option β) (kn : H → Option β) : Option β :=
  p33arrlrb C L x3 x0 h kr kn
theorem ep33arrlr (C : CF) (L : Nat) {β : Type} (x3 x0 : Value) (h : H) (K : Ex → T Value → H → Option β) :
    execK Try.prog C L 0 120 [2] c33arrlr [] [] (fs [(3, x3), (0, x0)]) h K =
      p33arrlr C L x3 x0 h (fun x2 h => K .ret (fs [(2, x2)]) h) (fun h => K .normal (fs []) h) := by
  rw [execK_block (b := c33arrlrb) (id := 0) (by kernel_rfl), ep33arrlrb]
  unfold p33arrlr
  rfl
noncomputable def p33arrl (C : CF) (L : Nat) {β : Type} (x0 : Value) (h : H) (kr : Value → H → Option β) (kn : H → Option β) : Option β :=
  p33arrll C L x0 h (fun x3 x0 h => p33arrlr C L x3 x0 h kr kn)
theorem ep33arrl (C : CF) (L : Nat) {β : Type} (x0 : Value) (h : H) (K : Ex → T Value → H → Option β) :
    execK Try.prog C L 0 120 [2] c33arrl [] [] (fs [(0, x0)]) h K =
      p33arrl C L x0 h (fun x2 h => K .ret (fs [(2, x2)]) h) (fun h => K .normal (fs []) h) := by
  rw [execK_seq (a := c33arrll) (b := c33arrlr) (by kernel_rfl) (show live [2] c33arrlr [] [] = [3, 0] by kernel_rfl), ep33arrll]
  unfold p33arrl
  exact (congrArg (p33arrll C L x0 h) (funext fun x3 => funext fun x0 => funext fun h => (seqK_n _ _ _).trans (ep33arrlr C L x3 x0 h K)))
noncomputable def c33arrr : Code := cR c33arr
noncomputable def p33arrr (C : CF) (L : Nat) {β : Type} (h : H) (kr : Value → H → Option β) : Option β :=
  kr (.bool false) h
theorem ep33arrr (C : CF) (L : Nat) {β : Type} (h : H) (K : Ex → T Value → H → Option β) :
    execK Try.prog C L 0 120 [2] c33arrr [2] [] (fs []) h K =
      p33arrr C L h (fun x2 h => K .ret (fs [(2, x2)]) h) := by
  kernel_rfl
noncomputable def p33arr (C : CF) (L : Nat) {β : Type} (x0 : Value) (h : H) (kr : Value → H → Option β) : Option β :=
  p33arrl C L x0 h kr (fun h => p33arrr C L h kr)
theorem ep33arr (C : CF) (L : Nat) {β : Type} (x0 : Value) (h : H) (K : Ex → T Value → H → Option β) :
    execK Try.prog C L 0 120 [2] c33arr [2] [] (fs [(0, x0)]) h K =
      p33arr C L x0 h (fun x2 h => K .ret (fs [(2, x2)]) h) := by
  rw [execK_seq (a := c33arrl) (b := c33arrr) (by kernel_rfl) (show live [2] c33arrr [2] [] = [] by kernel_rfl), ep33arrl]
  unfold p33arr
  exact (congr (congrArg (p33arrl C L x0 h) (funext fun x2 => funext fun h => seqK_r _ _ _)) (funext fun h => (seqK_n _ _ _).trans (ep33arrr C L h K)))
noncomputable def p33ar (C : CF) (L : Nat) {β : Type} (x0 : Value) (h : H) (kr : Value → H → Option β) : Option β :=
  p33arl C L x0 h kr (fun x0 h => p33arr C L x0 h kr)
theorem ep33ar (C : CF) (L : Nat) {β : Type} (x0 : Value) (h : H) (K : Ex → T Value → H → Option β) :
    execK Try.prog C L 0 120 [2] c33ar [2] [] (fs [(0, x0)]) h K =
      p33ar C L x0 h (fun x2 h => K .ret (fs [(2, x2)]) h) := by
  rw [execK_seq (a := c33arl) (b := c33arr) (by kernel_rfl) (show live [2] c33arr [2] [] = [0] by kernel_rfl), ep33arl]
  unfold p33ar
  exact (congr (congrArg (p33arl C L x0 h) (funext fun x2 => funext fun h => seqK_r _ _ _)) (funext fun x0 => funext fun h => (seqK_n _ _ _).trans (ep33arr C L x0 h K)))
noncomputable def p33a (C : CF) (L : Nat) {β : Type} (x0 : Value) (h : H) (kr : Value → H → Option β) : Option β :=
  p33al C L x0 h (fun x0 h => p33ar C L x0 h kr)
theorem ep33a (C : CF) (L : Nat) {β : Type} (x0 : Value) (h : H) (K : Ex → T Value → H → Option β) :
    execK Try.prog C L 0 120 [2] c33a [2] [] (fs [(0, x0)]) h K =
      p33a C L x0 h (fun x2 h => K .ret (fs [(2, x2)]) h) := by
  rw [execK_seq (a := c33al) (b := c33ar) (by kernel_rfl) (show live [2] c33ar [2] [] = [0] by kernel_rfl), ep33al]
  unfold p33a
  exact (congrArg (p33al C L x0 h) (funext fun x0 => funext fun h => (seqK_n _ _ _).trans (ep33ar C L x0 h K)))
noncomputable def F33 (C : CF) (L : Nat) (x0 : Value) (h : H) : Option (Value × H) :=
  p33a C L x0 h
    (fun x2 h => some (x2, h))
theorem F33eq (O : List FuncId) (hO : O.any (Nat.beq 33) = false) (n : Nat) (x0 : Value) (h : H) : callB Try.prog 0 O (n + 1) 33 [x0] h = F33 (callB Try.prog 0 O n) n x0 h := by
  rw [callB_eq hO (c := c33a) (nt := 120) (RR := [2]) (fr := (fs [(0, x0)])) Try.func33 (by kernel_rfl) (by kernel_rfl) (by kernel_rfl) (by kernel_rfl) (by kernel_rfl), ep33a]
  kernel_rfl
noncomputable def c34a : Code := (Try.f34.body).getD .skip
noncomputable def c34al : Code := cL c34a
noncomputable def p34al (C : CF) (L : Nat) {β : Type} (x0 x1 x2 x3 : Value) (h : H) (kn : Value → Value → Value → Value → H → Option β) : Option β :=
  kn x1 x0 x2 x3 h
theorem ep34al (C : CF) (L : Nat) {β : Type} (x0 x1 x2 x3 : Value) (h : H) (K : Ex → T Value → H → Option β) :
    execK Try.prog C L 0 55 [8] c34al [1, 0, 2, 3] [] (fs [(0, x0), (1, x1), (2, x2), (3, x3)]) h K =
      p34al C L x0 x1 x2 x3 h (fun x1 x0 x2 x3 h => K .normal (fs [(1, x1), (0, x0), (2, x2), (3, x3)]) h) := by
  kernel_rfl
noncomputable def c34ar : Code := cR c34a
noncomputable def c34arl : Code := cL c34ar
noncomputable def c34arll : Code := cL c34arl
noncomputable def p34arll (C : CF) (L : Nat) {β : Type} (x1 x0 x2 x3 : Value) (h : H) (kn : Value → Value → Value → Value → Value → H → Option β) : Option β :=
  bnd (A.bin Try.prog .eql 25 x0 (.pointer none)) fun t10 =>
  toBK t10 fun b =>
  (bif b then
  kn (.bool true) x1 x0 x2 x3 h
  else
  bnd (A.bin Try.prog .lss 3 x1 (.int .i64 0)) fun t13 =>
  toBK t13 fun bq1 =>
  (bif bq1 then
  kn (.bool true) x1 x0 x2 x3 h
  else
  bnd (A.nilCheck x0) fun t18 =>
  bnd (A.fieldAddr 0 t18) fun t19 =>
  bnd (A.load false 1 t19 h) fun t20 =>
  bnd (A.bin Try.prog .geq 3 x1 t20) fun t21 =>
  toBK t21 fun bq2 =>
  (bif bq2 then
  kn (.bool true) x1 x0 x2 x3 h
  else
  bnd (A.bin Try.prog .lss 3 x2 (.int .i64 0)) fun t25 =>
  toBK t25 fun bq3 =>
  (bif bq3 then
  kn (.bool true) x1 x0 x2 x3 h
  else
  bnd (A.nilCheck x0) fun t30 =>
  bnd (A.fieldAddr 0 t30) fun t31 =>
  bnd (A.load false 1 t31 h) fun t32 =>
  bnd (A.bin Try.prog .geq 3 x2 t32) fun t33 =>
  toBK t33 fun bq4 =>
  (bif bq4 then
  kn (.bool true) x1 x0 x2 x3 h
  else
  bnd (A.bin Try.prog .lss 3 x3 (.int .i64 1)) fun t37 =>
  toBK t37 fun bq5 =>
  (bif bq5 then
  kn (.bool true) x1 x0 x2 x3 h
  else
  bnd (A.bin Try.prog .gtr 3 x3 (.int .i64 7)) fun t41 =>
  toBK t41 fun bq6 =>
  kn (.bool bq6) x1 x0 x2 x3 h))))))
theorem ep34arll (C : CF) (L : Nat) {β : Type} (x1 x0 x2 x3 : Value) (h : H) (K : Ex → T Value → H → Option β) :
    execK Try.prog C L 0 55 [8] c34arll [42, 1, 0, 2, 3] [] (fs [(1, x1), (0, x0), (2, x2), (3, x3)]) h K =
      p34arll C L x1 x0 x2 x3 h (fun x42 x1 x0 x2 x3 h => K .normal (fs [(42, x42), (1, x1), (0, x0), (2, x2), (3, x3)]) h) := by
  kernel_rfl
noncomputable def c34arlr : Code := cR c34arl
noncomputable def p34arlr (C : CF) (L : Nat) {β : Type} (x42 x1 x0 x2 x3 : Value) (h : H) (kr : Value → H → Option β) (kn : Value → Value → Value → Value → H → Option β) : Option β :=
  condV x42 (
  kr (.int .i64 (-1)) h) (
  kn x1 x0 x2 x3 h)
theorem ep34arlr (C : CF) (L : Nat) {β : Type} (x42 x1 x0 x2 x3 : Value) (h : H) (K : Ex → T Value → H → Option β) :
    execK Try.prog C L 0 55 [8] c34arlr [1, 0, 2, 3] [] (fs [(42, x42), (1, x1), (0, x0), (2, x2), (3, x3)]) h K =
      p34arlr C L x42 x1 x0 x2 x3 h (fun x8 h => K .ret (fs [(8, x8)]) h) (fun x1 x0 x2 x3 h => K .normal (fs [(1, x1), (0, x0), (2, x2), (3, x3)]) h) := by
  kernel_rfl
noncomputable def p34arl (C : CF) (L : Nat) {β : Type} (x1 x0 x2 x3 : Value) (h : H) (kr : Value → H → Option β) (kn : Value → Value → Value → Value → H → Option β) : Option β :=
  p34arll C L x1 x0 x2 x3 h (fun x42 x1 x0 x2 x3 h => p34arlr C L x42 x1 x0 x2 x3 h kr kn)
theorem ep34arl (C : CF) (L : Nat) {β : Type} (x1 x0 x2 x3 : Value) (h : H) (K : Ex → T Value → H → Option β) :
    execK Try.prog C L 0 55 [8] c34arl [1, 0, 2, 3] [] (fs [(1, x1), (0, x0), (2, x2), (3, x3)]) h K =
      p34arl C L x1 x0 x2 x3 h (fun x8 h => K .ret (fs [(8, x8)]) h) (fun x1 x0 x2 x3 h => K .normal (fs [(1, x1), (0, x0), (2, x2), (3, x3)]) h) := by
  rw [execK_seq (a := c34arll) (b := c34arlr) (by kernel_rfl) (show live [8] c34arlr [1, 0, 2, 3] [] = [42, 1, 0, 2, 3] by kernel_rfl), ep34arll]
  unfold p34arl
  exact (congrArg (p34arll C L x1 x0 x2 x3 h) (funext fun x42 => funext fun x1 => funext fun x0 => funext fun x2 => funext fun x3 => funext fun h => (seqK_n _ _ _).trans (ep34arlr C L x42 x1 x0 x2 x3 h K)))
noncomputable def c34arr : Code := cR c34ar
noncomputable def p34arr (C : CF) (L : Nat) {β : Type} (x1 x0 x2 x3 : Value) (h : H) (kr : Value → H → Option β) : Option β :=
  bnd (A.nilCheck x0) fun t45 =>
  bnd (A.fieldAddr 0 t45) fun t46 =>
  bnd (A.load false 1 t46 h) fun t47 =>
  bnd (A.bin Try.prog .mul 3 x1 t47) fun t48 =>
  bnd (A.bin Try.prog .add 3 t48 x2) fun t50 =>
  bnd (A.bin Try.prog .mul 3 t50 (.int .i64 7)) fun t51 =>
  bnd (A.bin Try.prog .add 3 t51 x3) fun t53 =>
  bnd (A.bin Try.prog .sub 3 t53 (.int .i64 1)) fun t54 =>
  kr t54 h
theorem ep34arr (C : CF) (L : Nat) {β : Type} (x1 x0 x2 x3 : Value) (h : H) (K : Ex → T Value → H → Option β) :
    execK Try.prog C L 0 55 [8] c34arr [8] [] (fs [(1, x1), (0, x0), (2, x2), (3, x3)]) h K =
      p34arr C L x1 x0 x2 x3 h (fun x8 h => K .ret (fs [(8, x8)]) h) := by
  kernel_rfl
noncomputable def p34ar (C : CF) (L : Nat) {β : Type} (x1 x0 x2 x3 : Value) (h : H) (kr : Value → H → Option β) : Option β :=
  p34arl C L x1 x0 x2 x3 h kr (fun x1 x0 x2 x3 h => p34arr C L x1 x0 x2 x3 h kr)
theorem ep34ar (C : CF) (L : Nat) {β : Type} (x1 x0 x2 x3 : Value) (h : H) (K : Ex → T Value → H → Option β) :
    execK Try.prog C L 0 55 [8] c34ar [8] [] (fs [(1, x1), (0, x0), (2, x2), (3, x3)]) h K =
      p34ar C L x1 x0 x2 x3 h (fun x8 h => K .ret (fs [(8, x8)]) h) := by
  rw [execK_seq (a := c34arl) (b := c34arr) (by kernel_rfl) (show live [8] c34arr [8] [] = [1, 0, 2, 3] by kernel_rfl), ep34arl]
  unfold p34ar
  exact (congr (congrArg (p34arl C L x1 x0 x2 x3 h) (funext fun x8 => funext fun h => seqK_r _ _ _)) (funext fun x1 => funext fun x0 => funext fun x2 => funext fun x3 => funext fun h => (seqK_n _ _ _).trans (ep34arr C L x1 x0 x2 x3 h K)))
noncomputable def p34a (C : CF) (L : Nat) {β : Type} (x0 x1 x2 x3 : Value) (h : H) (kr : Value → H → Option β) : Option β :=
  p34al C L x0 x1 x2 x3 h (fun x1 x0 x2 x3 h => p34ar C L x1 x0 x2 x3 h kr)
theorem ep34a (C : CF) (L : Nat) {β : Type} (x0 x1 x2 x3 : Value) (h : H) (K : Ex → T Value → H → Option β) :
    execK Try.prog C L 0 55 [8] c34a [8] [] (fs [(0, x0), (1, x1), (2, x2), (3, x3)]) h K =
      p34a C L x0 x1 x2 x3 h (fun x8 h => K .ret (fs [(8, x8)]) h) := by
  rw [execK_seq (a := c34al) (b := c34ar) (by kernel_rfl) (show live [8] c34ar [8] [] = [1, 0, 2, 3] by kernel_rfl), ep34al]
  unfold p34a
  exact (congrArg (p34al C L x0 x1 x2 x3 h) (funext fun x1 => funext fun x0 => funext fun x2 => funext fun x3 => funext fun h => (seqK_n _ _ _).trans (ep34ar C L x1 x0 x2 x3 h K)))
noncomputable def F34 (C : CF) (L : Nat) (x0 x1 x2 x3 : Value) (h : H) : Option (Value × H) :=
  p34a C L x0 x1 x2 x3 h
    (fun x8 h => some (x8, h))
theorem F34eq (O : List FuncId) (hO : O.any (Nat.beq 34) = false) (n : Nat) (x0 x1 x2 x3 : Value) (h : H) : callB Try.prog 0 O (n + 1) 34 [x0, x1, x2, x3] h = F34 (callB Try.prog 0 O n) n x0 x1 x2 x3 h := by
  rw [callB_eq hO (c := c34a) (nt := 55) (RR := [8]) (fr := (fs [(0, x0), (1, x1), (2, x2), (3, x3)])) Try.func34 (by kernel_rfl) (by kernel_rfl) (by kernel_rfl) (by kernel_rfl) (by kernel_rfl), ep34a]
  kernel_rfl
noncomputable def c35a : Code := (Try.f35.body).getD .skip
noncomputable def c35al : Code := cL c35a
noncomputable def p35al (C : CF) (L : Nat) {β : Type} (x0 x1 x2 : Value) (h : H) (kn : Value → Value → Value → H → Option β) : Option β :=
  kn x1 x0 x2 h
theorem ep35al (C : CF) (L : Nat) {β : Type} (x0 x1 x2 : Value) (h : H) (K : Ex → T Value → H → Option β) :
    execK Try.prog C L 0 33 [6] c35al [1, 0, 2] [] (fs [(0, x0), (1, x1), (2, x2)]) h K =
      p35al C L x0 x1 x2 h (fun x1 x0 x2 h => K .normal (fs [(1, x1), (0, x0), (2, x2)]) h) := by
  kernel_rfl
noncomputable def c35ar : Code := cR c35a
noncomputable def c35arl : Code := cL c35ar
noncomputable def p35arl (C : CF) (L : Nat) {β : Type} (x1 x0 x2 : Value) (h : H) (kn : Value → Value → Value → H → Option β) : Option β :=
  bnd (A.lenS x0) fun t12 =>
  bnd (A.sliceS 1 x0 (some x1) (some x2) (some t12) h) fun t13 =>
  kn x1 x0 x2 h
theorem ep35arl (C : CF) (L : Nat) {β : Type} (x1 x0 x2 : Value) (h : H) (K : Ex → T Value → H → Option β) :
    execK Try.prog C L 0 33 [6] c35arl [1, 0, 2] [] (fs [(1, x1), (0, x0), (2, x2)]) h K =
      p35arl C L x1 x0 x2 h (fun x1 x0 x2 h => K .normal (fs [(1, x1), (0, x0), (2, x2)]) h) := by
  kernel_rfl
noncomputable def c35arr : Code := cR c35ar
noncomputable def c35arrl : Code := cL c35arr
noncomputable def p35arrl (C : CF) (L : Nat) {β : Type} (x1 x0 x2 : Value) (h : H) (kr : Value → H → Option β) (kn : Value → Value → Value → H → Option β) : Option β :=
  bnd (A.bin Try.prog .eql 3 x1 x2) fun t16 =>
  toBK t16 fun b =>
  (bif b then
  kr x0 h
  else
  kn x1 x0 x2 h)
theorem ep35arrl (C : CF) (L : Nat) {β : Type} (x1 x0 x2 : Value) (h : H) (K : Ex → T Value → H → Option β) :
    execK Try.prog C L 0 33 [6] c35arrl [1, 0, 2] [] (fs [(1, x1), (0, x0), (2, x2)]) h K =
      p35arrl C L x1 x0 x2 h (fun x6 h => K .ret (fs [(6, x6)]) h) (fun x1 x0 x2 h => K .normal (fs [(1, x1), (0, x0), (2, x2)]) h) := by
  kernel_rfl
noncomputable def c35arrr : Code := cR c35arr
noncomputable def p35arrr (C : CF) (L : Nat) {β : Type} (x1 x0 x2 : Value) (h : H) (kr : Value → H → Option β) : Option β :=
  bnd (A.lenS x0) fun t19 =>
  bnd (A.sliceS 1 x0 none (some x1) none h) fun t22 =>
  bnd (A.sliceS 1 x0 (some x2) none none h) fun t25 =>
  bnd2 (A.append 1 24 t22 t25 h) fun t26 hq1 =>
  bnd (A.lenS t26) fun t29 =>
  bnd (A.sliceS 1 t26 (some t29) (some t19) none hq1) fun t31 =>
  bnd (A.clear 1 Z29L t31 hq1) fun hq2 =>
  kr t26 hq2
theorem ep35arrr (C : CF) (L : Nat) {β : Type} (x1 x0 x2 : Value) (h : H) (K : Ex → T Value → H → Option β) :
    execK Try.prog C L 0 33 [6] c35arrr [6] [] (fs [(1, x1), (0, x0), (2, x2)]) h K =
      p35arrr C L x1 x0 x2 h (fun x6 h => K .ret (fs [(6, x6)]) h) := by
  kernel_rfl
noncomputable def p35arr (C : CF) (L : Nat) {β : Type} (x1 x0 x2 : Value) (h : H) (kr : Value → H → Option β) : Option β :=
  p35arrl C L x1 x0 x2 h kr (fun x1 x0 x2 h => p35arrr C L x1 x0 x2 h kr)
theorem ep35arr (C : CF) (L : Nat) {β : Type} (x1 x0 x2 : Value) (h : H) (K : Ex → T Value → H → Option β) :
    execK Try.prog C L 0 33 [6] c35arr [6] [] (fs [(1, x1), (0, x0), (2, x2)]) h K =
      p35arr C L x1 x0 x2 h (fun x6 h => K .ret (fs [(6, x6)]) h) := by
  rw [execK_seq (a := c35arrl) (b := c35arrr) (by kernel_rfl) (show live [6] c35arrr [6] [] = [1, 0, 2] by kernel_rfl), ep35arrl]
  unfold p35arr
  exact (congr (congrArg (p35arrl C L x1 x0 x2 h) (funext fun x6 => funext fun h => seqK_r _ _ _)) (funext fun x1 => funext fun x0 => funext fun x2 => funext fun h => (seqK_n _ _ _).trans (ep35arrr C L x1 x0 x2 h K)))
noncomputable def p35ar (C : CF) (L : Nat) {β : Type} (x1 x0 x2 : Value) (h : H) (kr : Value → H → Option β) : Option β :=
  p35arl C L x1 x0 x2 h (fun x1 x0 x2 h => p35arr C L x1 x0 x2 h kr)
theorem ep35ar (C : CF) (L : Nat) {β : Type} (x1 x0 x2 : Value) (h : H) (K : Ex → T Value → H → Option β) :
    execK Try.prog C L 0 33 [6] c35ar [6] [] (fs [(1, x1), (0, x0), (2, x2)]) h K =
      p35ar C L x1 x0 x2 h (fun x6 h => K .ret (fs [(6, x6)]) h) := by
  rw [execK_seq (a := c35arl) (b := c35arr) (by kernel_rfl) (show live [6] c35arr [6] [] = [1, 0, 2] by kernel_rfl), ep35arl]
  unfold p35ar
  exact (congrArg (p35arl C L x1 x0 x2 h) (funext fun x1 => funext fun x0 => funext fun x2 => funext fun h => (seqK_n _ _ _).trans (ep35arr C L x1 x0 x2 h K)))
noncomputable def p35a (C : CF) (L : Nat) {β : Type} (x0 x1 x2 : Value) (h : H) (kr : Value → H → Option β) : Option β :=
  p35al C L x0 x1 x2 h (fun x1 x0 x2 h => p35ar C L x1 x0 x2 h kr)
theorem ep35a (C : CF) (L : Nat) {β : Type} (x0 x1 x2 : Value) (h : H) (K : Ex → T Value → H → Option β) :
    execK Try.prog C L 0 33 [6] c35a [6] [] (fs [(0, x0), (1, x1), (2, x2)]) h K =
      p35a C L x0 x1 x2 h (fun x6 h => K .ret (fs [(6, x6)]) h) := by
  rw [execK_seq (a := c35al) (b := c35ar) (by kernel_rfl) (show live [6] c35ar [6] [] = [1, 0, 2] by kernel_rfl), ep35al]
  unfold p35a
  exact (congrArg (p35al C L x0 x1 x2 h) (funext fun x1 => funext fun x0 => funext fun x2 => funext fun h => (seqK_n _ _ _).trans (ep35ar C L x1 x0 x2 h K)))
noncomputable def F35 (C : CF) (L : Nat) (x0 x1 x2 : Value) (h : H) : Option (Value × H) :=
  p35a C L x0 x1 x2 h
    (fun x6 h => some (x6, h))
theorem F35eq (O : List FuncId) (hO : O.any (Nat.beq 35) = false) (n : Nat) (x0 x1 x2 : Value) (h : H) : callB Try.prog 0 O (n + 1) 35 [x0, x1, x2] h = F35 (callB Try.prog 0 O n) n x0 x1 x2 h := by
  rw [callB_eq hO (c := c35a) (nt := 33) (RR := [6]) (fr := (fs [(0, x0), (1, x1), (2, x2)])) Try.func35 (by kernel_rfl) (by kernel_rfl) (by kernel_rfl) (by kernel_rfl) (by kernel_rfl), ep35a]
  kernel_rfl
noncomputable def c41a : Code := (Try.f41.body).getD .skip
noncomputable def p41a (C : CF) (L : Nat) {β : Type} (x0 : Value) (h : H) (kr : Value → H → Option β) : Option β :=
  bnd (A.bin Try.prog .eql 29 x0 (.slice none 0 0)) fun t4 =>
  toBK t4 fun b =>
  (bif b then
  kr (.slice none 0 0) h
  else
  bnd2 (A.buildSlice 38 0 Z71L [] h) fun t5 hq1 =>
  bnd2 (A.append 38 384 t5 x0 hq1) fun t7 hq2 =>
  kr t7 hq2)
theorem ep41a (C : CF) (L : Nat) {β : Type} (x0 : Value) (h : H) (K : Ex → T Value → H → Option β) :
    execK Try.prog C L 0 8 [2] c41a [2] [] (fs [(0, x0)]) h K =
      p41a C L x0 h (fun x2 h => K .ret (fs [(2, x2)]) h) := by
  kernel_rfl
noncomputable def F41 (C : CF) (L : Nat) (x0 : Value) (h : H) : Option (Value × H) :=
  p41a C L x0 h
    (fun x2 h => some (x2, h))
theorem F41eq (O : List FuncId) (hO : O.any (Nat.beq 41) = false) (n : Nat) (x0 : Value) (h : H) : callB Try.prog 0 O (n + 1) 41 [x0] h = F41 (callB Try.prog 0 O n) n x0 h := by
  rw [callB_eq hO (c := c41a) (nt := 8) (RR := [2]) (fr := (fs [(0, x0)])) Try.func41 (by kernel_rfl) (by kernel_rfl) (by kernel_rfl) (by kernel_rfl) (by kernel_rfl), ep41a]
  kernel_rfl
noncomputable def c42a : Code := (Try.f42.body).getD .skip
noncomputable def p42a (C : CF) (L : Nat) {β : Type} (x0 : Value) (h : H) (kr : Value → H → Option β) : Option β :=
  bnd2 (A.box 24 x0 h) fun t1 hq1 =>
  bnd2 (A.box 24 Z66 hq1) fun t2 hq2 =>
  bnd (A.fieldAddr 22 t1) fun t3 =>
  bnd (A.load false 1 t3 hq2) fun t4 =>
  bnd2 (A.append 2 24 (.slice none 0 0) t4 hq2) fun t5 hq3 =>
  bnd (A.fieldAddr 22 t1) fun t6 =>
  bnd (A.store 1 t6 t5 hq3) fun hq4 =>
  bnd (A.load true 24 t1 hq4) fun t7 =>
  bnd (A.store 24 t2 t7 hq4) fun hq5 =>
  kr t2 hq5
theorem ep42a (C : CF) (L : Nat) {β : Type} (x0 : Value) (h : H) (K : Ex → T Value → H → Option β) :
    execK Try.prog C L 0 8 [2] c42a [2] [] (fs [(0, x0)]) h K =
      p42a C L x0 h (fun x2 h => K .ret (fs [(2, x2)]) h) := by
  kernel_rfl
noncomputable def F42 (C : CF) (L : Nat) (x0 : Value) (h : H) : Option (Value × H) :=
  p42a C L x0 h
    (fun x2 h => bnd (resC (A.load true 24 x2 h) (some [])) fun vs => some (packA vs, h))
theorem F42eq (O : List FuncId) (hO : O.any (Nat.beq 42) = false) (n : Nat) (x0 : Value) (h : H) : callB Try.prog 0 O (n + 1) 42 [x0] h = F42 (callB Try.prog 0 O n) n x0 h := by
  rw [callB_eq hO (c := c42a) (nt := 8) (RR := [2]) (fr := (fs [(0, x0)])) Try.func42 (by kernel_rfl) (by kernel_rfl) (by kernel_rfl) (by kernel_rfl) (by kernel_rfl), ep42a]
  kernel_rfl
noncomputable def c43a : Code := (Try.f43.body).getD .skip
noncomputable def p43a (C : CF) (L : Nat) {β : Type} (x0 : Value) (h : H) (kr : Value → H → Option β) : Option β :=
  bnd (A.bin Try.prog .eql 67 x0 (.slice none 0 0)) fun t4 =>
  toBK t4 fun b =>
  (bif b then
  kr (.slice none 0 0) h
  else
  bnd2 (A.buildSlice 4 0 Z63L [] h) fun t5 hq1 =>
  bnd2 (A.append 4 40 t5 x0 hq1) fun t7 hq2 =>
  kr t7 hq2)
theorem ep43a (C : CF) (L : Nat) {β : Type} (x0 : Value) (h : H) (K : Ex → T Value → H → Option β) :
    execK Try.prog C L 0 8 [2] c43a [2] [] (fs [(0, x0)]) h K =
      p43a C L x0 h (fun x2 h => K .ret (fs [(2, x2)]) h) := by
  kernel_rfl
noncomputable def F43 (C : CF) (L : Nat) (x0 : Value) (h : H) : Option (Value × H) :=
  p43a C L x0 h
    (fun x2 h => some (x2, h))
theorem F43eq (O : List FuncId) (hO : O.any (Nat.beq 43) = false) (n : Nat) (x0 : Value) (h : H) : callB Try.prog 0 O (n + 1) 43 [x0] h = F43 (callB Try.prog 0 O n) n x0 h := by
  rw [callB_eq hO (c := c43a) (nt := 8) (RR := [2]) (fr := (fs [(0, x0)])) Try.func43 (by kernel_rfl) (by kernel_rfl) (by kernel_rfl) (by kernel_rfl) (by kernel_rfl), ep43a]
  kernel_rfl
noncomputable def c44a : Code := (Try.f44.body).getD .skip
noncomputable def p44a (C : CF) (L : Nat) {β : Type} (x0 : Value) (h : H) (kr : Value → H → Option β) : Option β :=
  bnd (A.bin Try.prog .eql 68 x0 (.slice none 0 0)) fun t4 =>
  toBK t4 fun b =>
  (bif b then
  kr (.slice none 0 0) h
  else
  bnd2 (A.buildSlice 1 0 Z9L [] h) fun t5 hq1 =>
  bnd2 (A.append 1 16 t5 x0 hq1) fun t7 hq2 =>
  kr t7 hq2)
theorem ep44a (C : CF) (L : Nat) {β : Type} (x0 : Value) (h : H) (K : Ex → T Value → H → Option β) :
    execK Try.prog C L 0 8 [2] c44a [2] [] (fs [(0, x0)]) h K =
      p44a C L x0 h (fun x2 h => K .ret (fs [(2, x2)]) h) := by
  kernel_rfl
noncomputable def F44 (C : CF) (L : Nat) (x0 : Value) (h : H) : Option (Value × H) :=
  p44a C L x0 h
    (fun x2 h => some (x2, h))
theorem F44eq (O : List FuncId) (hO : O.any (Nat.beq 44) = false) (n : Nat) (x0 : Value) (h : H) : callB Try.prog 0 O (n + 1) 44 [x0] h = F44 (callB Try.prog 0 O n) n x0 h := by
  rw [callB_eq hO (c := c44a) (nt := 8) (RR := [2]) (fr := (fs [(0, x0)])) Try.func44 (by kernel_rfl) (by kernel_rfl) (by kernel_rfl) (by kernel_rfl) (by kernel_rfl), ep44a]
  kernel_rfl
noncomputable def c45a : Code := (Try.f45.body).getD .skip
noncomputable def p45a (C : CF) (L : Nat) {β : Type} (x0 : Value) (h : H) (kr : Value → H → Option β) : Option β :=
  bnd (A.bin Try.prog .eql 69 x0 (.slice none 0 0)) fun t4 =>
  toBK t4 fun b =>
  (bif b then
  kr (.slice none 0 0) h
  else
  bnd2 (A.buildSlice 24 0 Z66L [] h) fun t5 hq1 =>
  bnd2 (A.append 24 200 t5 x0 hq1) fun t7 hq2 =>
  kr t7 hq2)
theorem ep45a (C : CF) (L : Nat) {β : Type} (x0 : Value) (h : H) (K : Ex → T Value → H → Option β) :
    execK Try.prog C L 0 8 [2] c45a [2] [] (fs [(0, x0)]) h K =
      p45a C L x0 h (fun x2 h => K .ret (fs [(2, x2)]) h) := by
  kernel_rfl
noncomputable def F45 (C : CF) (L : Nat) (x0 : Value) (h : H) : Option (Value × H) :=
  p45a C L x0 h
    (fun x2 h => some (x2, h))
theorem F45eq (O : List FuncId) (hO : O.any (Nat.beq 45) = false) (n : Nat) (x0 : Value) (h : H) : callB Try.prog 0 O (n + 1) 45 [x0] h = F45 (callB Try.prog 0 O n) n x0 h := by
  rw [callB_eq hO (c := c45a) (nt := 8) (RR := [2]) (fr := (fs [(0, x0)])) Try.func45 (by kernel_rfl) (by kernel_rfl) (by kernel_rfl) (by kernel_rfl) (by kernel_rfl), ep45a]
  kernel_rfl
noncomputable def c46a : Code := (Try.f46.body).getD .skip
noncomputable def c46al : Code := cL c46a
noncomputable def p46al (C : CF) (L : Nat) {β : Type} (x0 : Value) (h : H) (kn : Value → H → Option β) : Option β :=
  bnd2 (A.box 24 x0 h) fun t1 hq1 =>
  kn t1 hq1
theorem ep46al (C : CF) (L : Nat) {β : Type} (x0 : Value) (h : H) (K : Ex → T Value → H → Option β) :
    execK Try.prog C L 0 66 [2] c46al [1] [] (fs [(0, x0)]) h K =
      p46al C L x0 h (fun x1 h => K .normal (fs [(1, x1)]) h) := by
  kernel_rfl
noncomputable def c46ar : Code := cR c46a
noncomputable def c46arl : Code := cL c46ar
noncomputable def p46arl (C : CF) (L : Nat) {β : Type} (x1 : Value) (h : H) (kr : Value → H → Option β) (kn : Value → H → Option β) : Option β :=
  bnd (A.fieldAddr 22 x1) fun t7 =>
  bnd (A.load false 1 t7 h) fun t8 =>
  bnd (A.lenS t8) fun t9 =>
  bnd (A.bin Try.prog .gtr 3 t9 (.int .i64 100)) fun t10 =>
  toBK t10 fun b =>
  (bif b then
  kr (.bool true) h
  else
  kn x1 h)
theorem ep46arl (C : CF) (L : Nat) {β : Type} (x1 : Value) (h : H) (K : Ex → T Value → H → Option β) :
    execK Try.prog C L 0 66 [2] c46arl [1] [] (fs [(1, x1)]) h K =
      p46arl C L x1 h (fun x2 h => K .ret (fs [(2, x2)]) h) (fun x1 h => K .normal (fs [(1, x1)]) h) := by
  kernel_rfl
noncomputable def c46arr : Code := cR c46ar
noncomputable def c46arrl : Code := cL c46arr
noncomputable def p46arrl (C : CF) (L : Nat) {β : Type} (x1 : Value) (h : H) (kn : Value → Value → H → Option β) : Option β :=
  kn x1 (.int .i64 10000) h
theorem ep46arrl (C : CF) (L : Nat) {β : Type} (x1 : Value) (h : H) (K : Ex → T Value → H → Option β) :
    execK Try.prog C L 0 66 [2] c46arrl [1, 3] [] (fs [(1, x1)]) h K =
      p46arrl C L x1 h (fun x1 x3 h => K .normal (fs [(1, x1), (3, x3)]) h) := by
  kernel_rfl
noncomputable def c46arrr : Code := cR c46arr
noncomputable def c46arrrl : Code := cL c46arrr
noncomputable def p46arrrl (C : CF) (L : Nat) {β : Type} (x1 x3 : Value) (h : H) (kn : Value → Value → Value → H → Option β) : Option β :=
  bnd (A.fieldAddr 5 x1) fun t11 =>
  bnd (A.load false 1 t11 h) fun t12 =>
  bnd (A.fieldAddr 6 x1) fun t13 =>
  bnd (A.load false 1 t13 h) fun t14 =>
  bnd (A.fieldAddr 10 x1) fun t15 =>
  bnd (A.load false 1 t15 h) fun t16 =>
  bnd (A.fieldAddr 12 x1) fun t17 =>
  bnd (A.fieldAddr 0 t17) fun t18 =>
  bnd (A.load false 1 t18 h) fun t19 =>
  bnd (A.fieldAddr 12 x1) fun t20 =>
  bnd (A.fieldAddr 1 t20) fun t21 =>
  bnd (A.load false 1 t21 h) fun t22 =>
  bnd (A.fieldAddr 18 x1) fun t23 =>
  bnd (A.load false 1 t23 h) fun t24 =>
  bnd (A.fieldAddr 19 x1) fun t25 =>
  bnd (A.load false 1 t25 h) fun t26 =>
  bnd (A.fieldAddr 23 x1) fun t27 =>
  bnd (A.load false 1 t27 h) fun t28 =>
  bnd2 (A.buildSlice 1 8 Z9L [(0, 1, t12), (1, 1, t14), (2, 1, t16), (3, 1, t19), (4, 1, t22), (5, 1, t24), (6, 1, t26), (7, 1, t28)] h) fun t29 hq1 =>
  kn x1 t29 x3 hq1
theorem ep46arrrl (C : CF) (L : Nat) {β : Type} (x1 x3 : Value) (h : H) (K : Ex → T Value → H → Option β) :
    execK Try.prog C L 0 66 [2] c46arrrl [1, 4, 3] [] (fs [(1, x1), (3, x3)]) h K =
      p46arrrl C L x1 x3 h (fun x1 x4 x3 h => K .normal (fs [(1, x1), (4, x4), (3, x3)]) h) := by
  kernel_rfl
noncomputable def c46arrrr : Code := cR c46arrr
noncomputable def c46arrrrl : Code := cL c46arrrr
noncomputable def c46arrrrll : Code := cL c46arrrrl
noncomputable def p46arrrrll (C : CF) (L : Nat) {β : Type} (x1 x4 x3 : Value) (h : H) (kn : Value → Value → Value → Value → H → Option β) : Option β :=
  kn (.int .i64 0) x1 x4 x3 h
theorem ep46arrrrll (C : CF) (L : Nat) {β : Type} (x1 x4 x3 : Value) (h : H) (K : Ex → T Value → H → Option β) :
    execK Try.prog C L 0 66 [2] c46arrrrll [5, 1, 4, 3] [] (fs [(1, x1), (4, x4), (3, x3)]) h K =
      p46arrrrll C L x1 x4 x3 h (fun x5 x1 x4 x3 h => K .normal (fs [(5, x5), (1, x1), (4, x4), (3, x3)]) h) := by
  kernel_rfl
noncomputable def c46arrrrlr : Code := cR c46arrrrl
noncomputable def c46arrrrlrb : Code := cL c46arrrrlr
noncomputable def c46arrrrlrbo : Code := cL c46arrrrlrb
noncomputable def p46arrrrlrbo (C : CF) (L : Nat) {β : Type} (x5 x1 x4 x3 : Value) (h : H) (kn : Value → Value → Value → Value → H → Option β) (kx0 : Value → Value → H → Option β) : Option β :=
  bnd (A.fieldAddr 22 x1) fun t31 =>
  bnd (A.load false 1 t31 h) fun t32 =>
  bnd (A.lenS t32) fun t33 =>
  bnd (A.bin Try.prog .lss 3 x5 t33) fun t34 =>
  toBK t34 fun b =>
  (bif b then
  bnd (A.fieldAddr 22 x1) fun t38 =>
  bnd (A.load false 1 t38 h) fun t39 =>
  bnd (A.idxS 2 t39 x5) fun t41 =>
  bnd (A.fieldAddr 0 t41) fun t42 =>
  bnd (A.load false 1 t42 h) fun t43 =>
  bnd2 (A.buildSlice 1 1 Z9L [(0, 1, t43)] h) fun t44 hq1 =>
  bnd2 (A.append 1 16 x4 t44 hq1) fun t45 hq2 =>
  bnd (A.bin Try.prog .add 3 x5 (.int .i64 1)) fun t36 =>
  kn t36 x1 t45 x3 hq2
  else
  kx0 x4 x3 h)
theorem ep46arrrrlrbo (C : CF) (L : Nat) {β : Type} (x5 x1 x4 x3 : Value) (h : H) (K : Ex → T Value → H → Option β) :
    execK Try.prog C L 0 66 [2] c46arrrrlrbo [5, 1, 4, 3] [(0, [4, 3])] (fs [(5, x5), (1, x1), (4, x4), (3, x3)]) h K =
      p46arrrrlrbo C L x5 x1 x4 x3 h (fun x5 x1 x4 x3 h => K .normal (fs [(5, x5), (1, x1), (4, x4), (3, x3)]) h) (fun x4 x3 h => K (.exit 0) (fs [(4, x4), (3, x3)]) h) := by
  kernel_rfl
noncomputable def p46arrrrlrbw (C : CF) (L : Nat) {β : Type} (kx0 : Value → Value → H → Option β) : Nat → Value → Value → Value → Value → H → Option β
  | 0, _, _, _, _, _ => none
  | n + 1, x5, x1, x4, x3, h => p46arrrrlrbo C L x5 x1 x4 x3 h (fun x5 x1 x4 x3 h => p46arrrrlrbw C L kx0 n x5 x1 x4 x3 h) kx0
theorem ep46arrrrlrbw (C : CF) (L : Nat) {β : Type} (K : Ex → T Value → H → Option β) : ∀ (n : Nat) (x5 x1 x4 x3 : Value) (h : H),
    loopK (fun fr h K => execK Try.prog C L 0 66 [2] c46arrrrlrbo [5, 1, 4, 3] [(0, [4, 3])] fr h K) n (fs [(5, x5), (1, x1), (4, x4), (3, x3)]) h K =
      p46arrrrlrbw C L (fun x4 x3 h => K (.exit 0) (fs [(4, x4), (3, x3)]) h) n x5 x1 x4 x3 h := by
  intro n
  induction n with
  | zero => intros; rfl
  | succ n ih =>
    intros
    simp only [loopK]
    rw [ep46arrrrlrbo]
    simp only [seqK_n, seqK_x, seqK_r, ih]
    rfl
noncomputable def p46arrrrlrb (C : CF) (L : Nat) {β : Type} (x5 x1 x4 x3 : Value) (h : H) (kx0 : Value → Value → H → Option β) : Option β :=
  p46arrrrlrbw C L kx0 L x5 x1 x4 x3 h
theorem ep46arrrrlrb (C : CF) (L : Nat) {β : Type} (x5 x1 x4 x3 : Value) (h : H) (K : Ex → T Value → H → Option β) :
    execK Try.prog C L 0 66 [2] c46arrrrlrb [4, 3] [(0, [4, 3])] (fs [(5, x5), (1, x1), (4, x4), (3, x3)]) h K =
      p46arrrrlrb C L x5 x1 x4 x3 h (fun x4 x3 h => K (.exit 0) (fs [(4, x4), (3, x3)]) h) := by
  rw [execK_loop (b := c46arrrrlrbo) (fr1 := (fs [(5, x5), (1, x1), (4, x4), (3, x3)])) (by kernel_rfl) (show live [2] c46arrrrlrbo [] [(0, [4, 3])] = [5, 1, 4, 3] by kernel_rfl) (by kernel_rfl), ep46arrrrlrbw]
  unfold p46arrrrlrb
  rfl
noncomputable def p46arrrrlr (C : CF) (L : Nat) {β : Type} (x5 x1 x4 x3 : Value) (h : H) (kn : Value → Value → H → Option β) : Option β :=
  p46arrrrlrb C L x5 x1 x4 x3 h kn
theorem ep46arrrrlr (C : CF) (L : Nat) {β : Type} (x5 x1 x4 x3 : Value) (h : H) (K : Ex → T Value → H → Option β) :
    execK Try.prog C L 0 66 [2] c46arrrrlr [4, 3] [] (fs [(5, x5), (1, x1), (4, x4), (3, x3)]) h K =
      p46arrrrlr C L x5 x1 x4 x3 h (fun x4 x3 h => K .normal (fs [(4, x4), (3, x3)]) h) := by
  rw [execK_block (b := c46arrrrlrb) (id := 0) (by kernel_rfl), ep46arrrrlrb]
  unfold p46arrrrlr
  rfl
noncomputable def p46arrrrl (C : CF) (L : Nat) {β : Type} (x1 x4 x3 : Value) (h : H) (kn : Value → Value → H → Option β) : Option β :=
  p46arrrrll C L x1 x4 x3 h (fun x5 x1 x4 x3 h => p46arrrrlr C L x5 x1 x4 x3 h kn)
theorem ep46arrrrl (C : CF) (L : Nat) {β : Type} (x1 x4 x3 : Value) (h : H) (K : Ex → T Value → H → Option β) :
    execK Try.prog C L 0 66 [2] c46arrrrl [4, 3] [] (fs [(1, x1), (4, x4), (3, x3)]) h K =
      p46arrrrl C L x1 x4 x3 h (fun x4 x3 h => K .normal (fs [(4, x4), (3, x3)]) h) := by
  rw [execK_seq (a := c46arrrrll) (b := c46arrrrlr) (by kernel_rfl) (show live [2] c46arrrrlr [4, 3] [] = [5, 1, 4, 3] by kernel_rfl), ep46arrrrll]
  unfold p46arrrrl
  exact (congrArg (p46arrrrll C L x1 x4 x3 h) (funext fun x5 => funext fun x1 => funext fun x4 => funext fun x3 => funext fun h => (seqK_n _ _ _).trans (ep46arrrrlr C L x5 x1 x4 x3 h K)))
noncomputable def c46arrrrr : Code := cR c46arrrr
noncomputable def c46arrrrrl : Code := cL c46arrrrr
noncomputable def c46arrrrrll : Code := cL c46arrrrrl
noncomputable def p46arrrrrll (C : CF) (L : Nat) {β : Type} (x4 x3 : Value) (h : H) (kn : Value → Value → Value → H → Option β) : Option β :=
  kn (.int .i64 0) x4 x3 h
theorem ep46arrrrrll (C : CF) (L : Nat) {β : Type} (x4 x3 : Value) (h : H) (K : Ex → T Value → H → Option β) :
    execK Try.prog C L 0 66 [2] c46arrrrrll [6, 4, 3] [] (fs [(4, x4), (3, x3)]) h K =
      p46arrrrrll C L x4 x3 h (fun x6 x4 x3 h => K .normal (fs [(6, x6), (4, x4), (3, x3)]) h) := by
  kernel_rfl
noncomputable def c46arrrrrlr : Code := cR c46arrrrrl
noncomputable def c46arrrrrlrb : Code := cL c46arrrrrlr
noncomputable def c46arrrrrlrbo : Code := cL c46arrrrrlrb
noncomputable def p46arrrrrlrbo (C : CF) (L : Nat) {β : Type} (x6 x4 x3 : Value) (h : H) (kr : Value → H → Option β) (kn : Value → Value → Value → H → Option β) (kx2 : H → Option β) : Option β :=
  bnd (A.lenS x4) fun t48 =>
  bnd (A.bin Try.prog .lss 3 x6 t48) fun t49 =>
  toBK t49 fun b =>
  (bif b then
  bnd (A.idxS 1 x4 x6) fun t54 =>
  bnd (A.load false 1 t54 h) fun t55 =>
  bnd (A.lenStr t55) fun t56 =>
  bnd (A.bin Try.prog .gtr 3 t56 x3) fun t58 =>
  toBK t58 fun bq1 =>
  (bif bq1 then
  kr (.bool true) h
  else
  bnd (A.idxS 1 x4 x6) fun t62 =>
  bnd (A.load false 1 t62 h) fun t63 =>
  bnd (A.lenStr t63) fun t64 =>
  bnd (A.bin Try.prog .sub 3 x3 t64) fun t65 =>
  bnd (A.bin Try.prog .add 3 x6 (.int .i64 1)) fun t51 =>
  kn t51 x4 t65 h)
  else
  kx2 h)
theorem ep46arrrrrlrbo (C : CF) (L : Nat) {β : Type} (x6 x4 x3 : Value) (h : H) (K : Ex → T Value → H → Option β) :
    execK Try.prog C L 0 66 [2] c46arrrrrlrbo [6, 4, 3] [(2, [])] (fs [(6, x6), (4, x4), (3, x3)]) h K =
      p46arrrrrlrbo C L x6 x4 x3 h (fun x2 h => K .ret (fs [(2, x2)]) h) (fun x6 x4 x3 h => K .normal (fs [(6, x6), (4, x4), (3, x3)]) h) (fun h => K (.exit 2) (fs []) h) := by
  kernel_rfl
noncomputable def p46arrrrrlrbw (C : CF) (L : Nat) {β : Type} (kr : Value → H → Option β) (kx2 : H → Option β) : Nat → Value → Value → Value → H → Option β
  | 0, _, _, _, _ => none
  | n + 1, x6, x4, x3, h => p46arrrrrlrbo C L x6 x4 x3 h kr (fun x6 x4 x3 h => p46arrrrrlrbw C L kr kx2 n x6 x4 x3 h) kx2
theorem ep46arrrrrlrbw (C : CF) (L : Nat) {β : Type} (K : Ex → T Value → H → Option β) : ∀ (n : Nat) (x6 x4 x3 : Value) (h : H),
    loopK (fun fr h K => execK Try.prog C L 0 66 [2] c46arrrrrlrbo [6, 4, 3] [(2, [])] fr h K) n (fs [(6, x6), (4, x4), (3, x3)]) h K =
      p46arrrrrlrbw C L (fun x2 h => K .ret (fs [(2, x2)]) h) (fun h => K (.exit 2) (fs []) h) n x6 x4 x3 h := by
  intro n
  induction n with
  | zero => intros; rfl
  | succ n ih =>
    intros
    simp only [loopK]
    rw [ep46arrrrrlrbo]
    simp only [seqK_n, seqK_x, seqK_r, ih]
    rfl
noncomputable def p46arrrrrlrb (C : CF) (L : Nat) {β : Type} (x6 x4 x3 : Value) (h : H) (kr : Value → H → Option β) (kx2 : H → Option β) : Option β :=
  p46arrrrrlrbw C L kr kx2 L x6 x4 x3 h
theorem ep46arrrrrlrb (C : CF) (L : Nat) {β : Type} (x6 x4 x3 : Value) (h : H) (K : Ex → T Value → H → Option β) :
    execK Try.prog C L 0 66 [2] c46arrrrrlrb [] [(2, [])] (fs [(6, x6), (4, x4), (3, x3)]) h K =
      p46arrrrrlrb C L x6 x4 x3 h (fun x2 h => K .ret (fs [(2, x2)]) h) (fun h => K (.exit 2) (fs []) h) := by
  rw [execK_loop (b := c46arrrrrlrbo) (fr1 := (fs [(6, x6), (4, x4), (3, x3)])) (by kernel_rfl) (show live [2] c46arrrrrlrbo [] [(2, [])] = [6, 4, 3] by kernel_rfl) (by kernel_rfl), ep46arrrrrlrbw]
  unfold p46arrrrrlrb
  rfl
noncomputable def p46arrrrrlr (C : CF) (L : Nat) {β : Type} (x6 x4 x3 : Value) (h : H) (kr : Value → H → Option β) (kn : H → Option β) : Option β :=
  p46arrrrrlrb C L x6 x4 x3 h kr kn
theorem ep46arrrrrlr (C : CF) (L : Nat) {β : Type} (x6 x4 x3 : Value) (h : H) (K : Ex → T Value → H → Option β) :
    execK Try.prog C L 0 66 [2] c46arrrrrlr [] [] (fs [(6, x6), (4, x4), (3, x3)]) h K =
      p46arrrrrlr C L x6 x4 x3 h (fun x2 h => K .ret (fs [(2, x2)]) h) (fun h => K .normal (fs []) h) := by
  rw [execK_block (b := c46arrrrrlrb) (id := 2) (by kernel_rfl), ep46arrrrrlrb]
  unfold p46arrrrrlr
  rfl
noncomputable def p46arrrrrl (C : CF) (L : Nat) {β : Type} (x4 x3 : Value) (h : H) (kr : Value → H → Option β) (kn : H → Option β) : Option β :=
  p46arrrrrll C L x4 x3 h (fun x6 x4 x3 h => p46arrrrrlr C L x6 x4 x3 h kr kn)
theorem ep46arrrrrl (C : CF) (L : Nat) {β : Type} (x4 x3 : Value) (h : H) (K : Ex → T Value → H → Option β) :
    execK Try.prog C L 0 66 [2] c46arrrrrl [] [] (fs [(4, x4), (3, x3)]) h K =
      p46arrrrrl C L x4 x3 h (fun x2 h => K .ret (fs [(2, x2)]) h) (fun h => K .normal (fs []) h) := by
  rw [execK_seq (a := c46arrrrrll) (b := c46arrrrrlr) (by kernel_rfl) (show live [2] c46arrrrrlr [] [] = [6, 4, 3] by kernel_rfl), ep46arrrrrll]
  unfold p46arrrrrl
  exact (congrArg (p46arrrrrll C L x4 x3 h) (funext fun x6 => funext fun x4 => funext fun x3 => funext fun h => (seqK_n _ _ _).trans (ep46arrrrrlr C L x6 x4 x3 h K)))
noncomputable def c46arrrrrr : Code := cR c46arrrrr
noncomputable def p46arrrrrr (C : CF) (L : Nat) {β : Type} (h : H) (kr : Value → H → Option β) : Option β :=
  kr (.bool false) h
theorem ep46arrrrrr (C : CF) (L : Nat) {β : Type} (h : H) (K : Ex → T Value → H → Option β) :
    execK Try.prog C L 0 66 [2] c46arrrrrr [2] [] (fs []) h K =
      p46arrrrrr C L h (fun x2 h => K .ret (fs [(2, x2)]) h) := by
  kernel_rfl
noncomputable def p46arrrrr (C : CF) (L : Nat) {β : Type} (x4 x3 : Value) (h : H) (kr : Value → H → Option β) : Option β :=
  p46arrrrrl C L x4 x3 h kr (fun h => p46arrrrrr C L h kr)
theorem ep46arrrrr (C : CF) (L : Nat) {β : Type} (x4 x3 : Value) (h : H) (K : Ex → T Value → H → Option β) :
    execK Try.prog C L 0 66 [2] c46arrrrr [2] [] (fs [(4, x4), (3, x3)]) h K =
      p46arrrrr C L x4 x3 h (fun x2 h => K .ret (fs [(2, x2)]) h) := by
  rw [execK_seq (a := c46arrrrrl) (b := c46arrrrrr) (by kernel_rfl) (show live [2] c46arrrrrr [2] [] = [] by kernel_rfl), ep46arrrrrl]
  unfold p46arrrrr
  exact (congr (congrArg (p46arrrrrl C L x4 x3 h) (funext fun x2 => funext fun h => seqK_r _ _ _)) (funext fun h => (seqK_n _ _ _).trans (ep46arrrrrr C L h K)))
noncomputable def p46arrrr (C : CF) (L : Nat) {β : Type} (x1 x4 x3 : Value) (h : H) (kr : Value → H → Option β) : Option β :=
  p46arrrrl C L x1 x4 x3 h (fun x4 x3 h => p46arrrrr C L x4 x3 h kr)
theorem ep46arrrr (C : CF) (L : Nat) {β : Type} (x1 x4 x3 : Value) (h : H) (K : Ex → T Value → H → Option β) :
    execK Try.prog C L 0 66 [2] c46arrrr [2] [] (fs [(1, x1), (4, x4), (3, x3)]) h K =
      p46arrrr C L x1 x4 x3 h (fun x2 h => K .ret (fs [(2, x2)]) h) := by
  rw [execK_seq (a := c46arrrrl) (b := c46arrrrr) (by kernel_rfl) (show live [2] c46arrrrr [2] [] = [4, 3] by kernel_rfl), ep46arrrrl]
  unfold p46arrrr
  exact (congrArg (p46arrrrl C L x1 x4 x3 h) (funext fun x4 => funext fun x3 => funext fun h => (seqK_n _ _ _).trans (ep46arrrrr C L x4 x3 h K)))
noncomputable def p46arrr (C : CF) (L : Nat) {β : Type} (x1 x3 : Value) (h : H) (kr : Value → H → Option β) : Option β :=
  p46arrrl C L x1 x3 h (fun x1 x4 x3 h => p46arrrr C L x1 x4 x3 h kr)
theorem ep46arrr (C : CF) (L : Nat) {β : Type} (x1 x3 : Value) (h : H) (K : Ex → T Value → H → Option β) :
    execK Try.prog C L 0 66 [2] c46arrr [2] [] (fs [(1, x1), (3, x3)]) h K =
      p46arrr C L x1 x3 h (fun x2 h => K .ret (fs [(2, x2)]) h) := by
  rw [execK_seq (a := c46arrrl) (b := c46arrrr) (by kernel_rfl) (show live [2] c46arrrr [2] [] = [1, 4, 3] by kernel_rfl), ep46arrrl]
  unfold p46arrr
  exact (congrArg (p46arrrl C L x1 x3 h) (funext fun x1 => funext fun x4 => funext fun x3 => funext fun h => (seqK_n _ _ _).trans (ep46arrrr C L x1 x4 x3 h K)))
noncomputable def p46arr (C : CF) (L : Nat) {β : Type} (x1 : Value) (h : H) (kr : Value → H → Option β) : Option β :=
  p46arrl C L x1 h (fun x1 x3 h => p46arrr C L x1 x3 h kr)
theorem ep46arr (C : CF) (L : Nat) {β : Type} (x1 : Value) (h : H) (K : Ex → T Value → H → Option β) :
    execK Try.prog C L 0 66 [2] c46arr [2] [] (fs [(1, x1)]) h K =
      p46arr C L x1 h (fun x2 h => K .ret (fs [(2, x2)]) h) := by
  rw [execK_seq (a := c46arrl) (b := c46arrr) (by kernel_rfl) (show live [2] c46arrr [2] [] = [1, 3] by kernel_rfl), ep46arrl]
  unfold p46arr
  exact (congrArg (p46arrl C L x1 h) (funext fun x1 => funext fun x3 => funext fun h => (seqK_n _ _ _).trans (ep46arrr C L x1 x3 h K)))
noncomputable def p46ar (C : CF) (L : Nat) {β : Type} (x1 : Value) (h : H) (kr : Value → H → Option β) : Option β :=
  p46arl C L x1 h kr (fun x1 h => p46arr C L x1 h kr)
theorem ep46ar (C : CF) (L : Nat) {β : Type} (x1 : Value) (h : H) (K : Ex → T Value → H → Option β) :
    execK Try.prog C L 0 66 [2] c46ar [2] [] (fs [(1, x1)]) h K =
      p46ar C L x1 h (fun x2 h => K .ret (fs [(2, x2)]) h) := by
  rw [execK_seq (a := c46arl) (b := c46arr) (by kernel_rfl) (show live [2] c46arr [2] [] = [1] by kernel_rfl), ep46arl]
  unfold p46ar
  exact (congr (congrArg (p46arl C L x1 h) (funext fun x2 => funext fun h => seqK_r _ _ _)) (funext fun x1 => funext fun h => (seqK_n _ _ _).trans (ep46arr C L x1 h K)))
noncomputable def p46a (C : CF) (L : Nat) {β : Type} (x0 : Value) (h : H) (kr : Value → H → Option β) : Option β :=
  p46al C L x0 h (fun x1 h => p46ar C L x1 h kr)
theorem ep46a (C : CF) (L : Nat) {β : Type} (x0 : Value) (h : H) (K : Ex → T Value → H → Option β) :
    execK Try.prog C L 0 66 [2] c46a [2] [] (fs [(0, x0)]) h K =
      p46a C L x0 h (fun x2 h => K .ret (fs [(2, x2)]) h) := by
  rw [execK_seq (a := c46al) (b := c46ar) (by kernel_rfl) (show live [2] c46ar [2] [] = [1] by kernel_rfl), ep46al]
  unfold p46a
  exact (congrArg (p46al C L x0 h) (funext fun x1 => funext fun h => (seqK_n _ _ _).trans (ep46ar C L x1 h K)))
noncomputable def F46 (C : CF) (L : Nat) (x0 : Value) (h : H) : Option (Value × H) :=
  p46a C L x0 h
    (fun x2 h => some (x2, h))
theorem F46eq (O : List FuncId) (hO : O.any (Nat.beq 46) = false) (n : Nat) (x0 : Value) (h : H) : callB Try.prog 0 O (n + 1) 46 [x0] h = F46 (callB Try.prog 0 O n) n x0 h := by
  rw [callB_eq hO (c := c46a) (nt := 66) (RR := [2]) (fr := (fs [(0, x0)])) Try.func46 (by kernel_rfl) (by kernel_rfl) (by kernel_rfl) (by kernel_rfl) (by kernel_rfl), ep46a]
  kernel_rfl
end Go.Proofs.Ytdjhkdogpbiglaa.MailD
