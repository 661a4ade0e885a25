/-
  Functions of the program over the abstract machine: printed by a program of mine (wip/tools/Dec.lean), each with its equation to the machine's call.
-/
import Derived.Test.YtdjhkdogpbiglaaProg
import Derived.Test.YtdjhkdogpbiglaaAmDec
set_option linter.unusedVariables false
set_option maxRecDepth 100000
namespace Go.Proofs.Ytdjhkdogpbiglaa.MailD2
open Go Go.AM

noncomputable def Z71 : Value := (.agg ⟨[(.int .u8 0), (.int .i64 0), (.int .i64 0), (.string ⟨⟨[]⟩⟩), (.string ⟨⟨[]⟩⟩), (.int .u8 0), (.bool false), (.int .u8 0), (.bool false), (.int .u16 0), (.string ⟨⟨[]⟩⟩), (.string ⟨⟨[]⟩⟩), (.int .u8 0), (.bool false), (.int .u16 0), (.string ⟨⟨[]⟩⟩), (.bool false), (.string ⟨⟨[]⟩⟩), (.string ⟨⟨[]⟩⟩), (.int .u8 0), (.bool false), (.bool false), (.bool false), (.string ⟨⟨[]⟩⟩), (.string ⟨⟨[]⟩⟩), (.bool false), (.int .u8 0), (.slice none 0 0), (.string ⟨⟨[]⟩⟩), (.string ⟨⟨[]⟩⟩), (.string ⟨⟨[]⟩⟩), (.int .u8 0), (.bool false), (.slice none 0 0), (.slice none 0 0), (.slice none 0 0), (.int .i64 0), (.int .i64 0)]⟩)
noncomputable def Z71L : List Value := [(.int .u8 0), (.int .i64 0), (.int .i64 0), (.string ⟨⟨[]⟩⟩), (.string ⟨⟨[]⟩⟩), (.int .u8 0), (.bool false), (.int .u8 0), (.bool false), (.int .u16 0), (.string ⟨⟨[]⟩⟩), (.string ⟨⟨[]⟩⟩), (.int .u8 0), (.bool false), (.int .u16 0), (.string ⟨⟨[]⟩⟩), (.bool false), (.string ⟨⟨[]⟩⟩), (.string ⟨⟨[]⟩⟩), (.int .u8 0), (.bool false), (.bool false), (.bool false), (.string ⟨⟨[]⟩⟩), (.string ⟨⟨[]⟩⟩), (.bool false), (.int .u8 0), (.slice none 0 0), (.string ⟨⟨[]⟩⟩), (.string ⟨⟨[]⟩⟩), (.string ⟨⟨[]⟩⟩), (.int .u8 0), (.bool false), (.slice none 0 0), (.slice none 0 0), (.slice none 0 0), (.int .i64 0), (.int .i64 0)]

/-! F31: relayhouse/mail.Same -/
noncomputable def c31a : Code := (Try.f31.body).getD .skip
noncomputable def p31a (C : CF) (L : Nat) {β : Type} (x0 : Value) (x1 : Value) (h : H) (kr : Value → H → Option β) : Option β :=
  bnd2 (C 39 [x0, x1, (.func (.func 40) ⟨[]⟩ ⟨[]⟩)] h) fun t7 hq1 =>
  toBK t7 fun b =>
  kr (.bool b) hq1
theorem ep31a (C : CF) (L : Nat) {β : Type} (x0 : Value) (x1 : Value) (h : H) (K : Ex → T Value → H → Option β) :
    execK Try.prog C L 0 8 [4] c31a [4] [] (fs [(0, x0), (1, x1)]) h K =
      p31a C L x0 x1 h (fun x4 h => K .ret (fs [(4, x4)]) h) := by
  kernel_rfl
noncomputable def F31 (C : CF) (L : Nat) (x0 : Value) (x1 : Value) (h : H) : Option (Value × H) :=
  p31a C L x0 x1 h
    (fun x4 h => some (x4, h))
theorem F31eq (O : List FuncId) (hO : O.any (Nat.beq 31) = false) (n : Nat) (x0 : Value) (x1 : Value) (h : H) : callB Try.prog 0 O (n + 1) 31 [x0, x1] h = F31 (callB Try.prog 0 O n) n x0 x1 h := by
  rw [callB_eq hO (c := c31a) (nt := 8) (RR := [4]) (fr := (fs [(0, x0), (1, x1)])) Try.func31 (by kernel_rfl) (by kernel_rfl) (by kernel_rfl) (by kernel_rfl) (by kernel_rfl), ep31a]
  kernel_rfl

/-! F39: slices.EqualFunc[[]relayhouse/api.Item,[]relayhouse/api.Item,relayhouse/api.Item,relayhouse/api.Item] -/
noncomputable def c39a : Code := (Try.f39.body).getD .skip
noncomputable def c39al : Code := cL c39a
noncomputable def p39al (C : CF) (L : Nat) {β : Type} (x0 : Value) (x1 : Value) (x2 : Value) (h : H) (kn : Value → Value → Value → H → Option β) : Option β :=
  kn x0 x2 x1 h
theorem ep39al (C : CF) (L : Nat) {β : Type} (x0 : Value) (x1 : Value) (x2 : Value) (h : H) (K : Ex → T Value → H → Option β) :
    execK Try.prog C L 0 32 [6] c39al [0, 2, 1] [] (fs [(0, x0), (1, x1), (2, x2)]) h K =
      p39al C L x0 x1 x2 h (fun x0 x2 x1 h => K .normal (fs [(0, x0), (2, x2), (1, x1)]) h) := by
  kernel_rfl
noncomputable def c39ar : Code := cR c39a
noncomputable def c39arl : Code := cL c39ar
noncomputable def p39arl (C : CF) (L : Nat) {β : Type} (x0 : Value) (x2 : Value) (x1 : Value) (h : H) (kr : Value → H → Option β) (kn : Value → Value → Value → H → Option β) : Option β :=
  bnd (A.lenS x0) fun t11 =>
  bnd (A.lenS x1) fun t13 =>
  bnd (A.bin Try.prog .neq 3 t11 t13) fun t14 =>
  toBK t14 fun b =>
  (bif b then
  kr (.bool false) h
  else
  kn x0 x2 x1 h)
theorem ep39arl (C : CF) (L : Nat) {β : Type} (x0 : Value) (x2 : Value) (x1 : Value) (h : H) (K : Ex → T Value → H → Option β) :
    execK Try.prog C L 0 32 [6] c39arl [0, 2, 1] [] (fs [(0, x0), (2, x2), (1, x1)]) h K =
      p39arl C L x0 x2 x1 h (fun x6 h => K .ret (fs [(6, x6)]) h) (fun x0 x2 x1 h => K .normal (fs [(0, x0), (2, x2), (1, x1)]) h) := by
  kernel_rfl
noncomputable def c39arr : Code := cR c39ar
noncomputable def c39arrl : Code := cL c39arr
noncomputable def c39arrll : Code := cL c39arrl
noncomputable def p39arrll (C : CF) (L : Nat) {β : Type} (x0 : Value) (x2 : Value) (x1 : Value) (h : H) (kn : Value → Value → Value → Value → Value → H → Option β) : Option β :=
  bnd (A.lenS x0) fun t16 =>
  kn t16 (.int .i64 0) x2 x1 x0 h
theorem ep39arrll (C : CF) (L : Nat) {β : Type} (x0 : Value) (x2 : Value) (x1 : Value) (h : H) (K : Ex → T Value → H → Option β) :
    execK Try.prog C L 0 32 [6] c39arrll [16, 17, 2, 1, 15] [] (fs [(0, x0), (2, x2), (1, x1)]) h K =
      p39arrll C L x0 x2 x1 h (fun x16 x17 x2 x1 x15 h => K .normal (fs [(16, x16), (17, x17), (2, x2), (1, x1), (15, x15)]) h) := by
  kernel_rfl
noncomputable def c39arrlr : Code := cR c39arrl
noncomputable def c39arrlrb : Code := cL c39arrlr
noncomputable def c39arrlrbo : Code := cL c39arrlrb
noncomputable def p39arrlrbo (C : CF) (L : Nat) {β : Type} (x16 : Value) (x17 : Value) (x2 : Value) (x1 : Value) (x15 : Value) (h : H) (kr : Value → H → Option β) (kn : Value → Value → Value → Value → Value → H → Option β) (kx0 : H → Option β) : Option β :=
  bnd (A.bin Try.prog .lss 3 x17 x16) fun t18 =>
  condV t18 (
  bnd (A.idxS 38 x15 x17) fun t20 =>
  bnd (A.load true 38 t20 h) fun t21 =>
  bnd2 (A.box 38 Z71 h) fun t8 hq1 =>
  bnd (A.store 38 t8 t21 hq1) fun hq2 =>
  bnd (A.idxS 38 x1 x17) fun t24 =>
  bnd (A.load true 38 t24 hq2) fun t25 =>
  bnd2 (A.box 38 Z71 hq2) fun t9 hq3 =>
  bnd (A.store 38 t9 t25 hq3) fun hq4 =>
  bnd (A.load true 38 t8 hq4) fun t27 =>
  bnd (A.load true 38 t9 hq4) fun t28 =>
  bnd2 (callM Try.prog C x2 [t27, t28] hq4) fun t29 hq5 =>
  toBK t29 fun b =>
  bnd (A.un Try.prog .not (.bool b)) fun t30 =>
  toBK t30 fun bq1 =>
  (bif bq1 then
  kr (.bool false) hq5
  else
  bnd (A.bin Try.prog .add 3 x17 (.int .i64 1)) fun t31 =>
  kn x16 t31 x2 x1 x15 hq5)) (
  kx0 h)
theorem ep39arrlrbo (C : CF) (L : Nat) {β : Type} (x16 : Value) (x17 : Value) (x2 : Value) (x1 : Value) (x15 : Value) (h : H) (K : Ex → T Value → H → Option β) :
    execK Try.prog C L 0 32 [6] c39arrlrbo [16, 17, 2, 1, 15] [(0, [])] (fs [(16, x16), (17, x17), (2, x2), (1, x1), (15, x15)]) h K =
      p39arrlrbo C L x16 x17 x2 x1 x15 h (fun x6 h => K .ret (fs [(6, x6)]) h) (fun x16 x17 x2 x1 x15 h => K .normal (fs [(16, x16), (17, x17), (2, x2), (1, x1), (15, x15)]) h) (fun h => K (.exit 0) (fs []) h) := by
  kernel_rfl
noncomputable def p39arrlrbw (C : CF) (L : Nat) {β : Type} (kr : Value → H → Option β) (kx0 : H → Option β) : Nat → Value → Value → Value → Value → Value → H → Option β
  | 0, _, _, _, _, _, _ => none
  | n + 1, x16, x17, x2, x1, x15, h => p39arrlrbo C L x16 x17 x2 x1 x15 h kr (fun x16 x17 x2 x1 x15 h => p39arrlrbw C L kr kx0 n x16 x17 x2 x1 x15 h) kx0
theorem ep39arrlrbw (C : CF) (L : Nat) {β : Type} (K : Ex → T Value → H → Option β) : ∀ (n : Nat) (x16 : Value) (x17 : Value) (x2 : Value) (x1 : Value) (x15 : Value) (h : H),
    loopK (fun fr h K => execK Try.prog C L 0 32 [6] c39arrlrbo [16, 17, 2, 1, 15] [(0, [])] fr h K) n (fs [(16, x16), (17, x17), (2, x2), (1, x1), (15, x15)]) h K =
      p39arrlrbw C L (fun x6 h => K .ret (fs [(6, x6)]) h) (fun h => K (.exit 0) (fs []) h) n x16 x17 x2 x1 x15 h := by
  intro n
  induction n with
  | zero => intros; rfl
  | succ n ih =>
    intros
    simp only [loopK]
    rw [ep39arrlrbo]
    simp only [seqK_n, seqK_x, seqK_r, ih]
    rfl
noncomputable def p39arrlrb (C : CF) (L : Nat) {β : Type} (x16 : Value) (x17 : Value) (x2 : Value) (x1 : Value) (x15 : Value) (h : H) (kr : Value → H → Option β) (kx0 : H → Option β) : Option β :=
  p39arrlrbw C L kr kx0 L x16 x17 x2 x1 x15 h
theorem ep39arrlrb (C : CF) (L : Nat) {β : Type} (x16 : Value) (x17 : Value) (x2 : Value) (x1 : Value) (x15 : Value) (h : H) (K : Ex → T Value → H → Option β) :
    execK Try.prog C L 0 32 [6] c39arrlrb [] [(0, [])] (fs [(16, x16), (17, x17), (2, x2), (1, x1), (15, x15)]) h K =
      p39arrlrb C L x16 x17 x2 x1 x15 h (fun x6 h => K .ret (fs [(6, x6)]) h) (fun h => K (.exit 0) (fs []) h) := by
  rw [execK_loop (b := c39arrlrbo) (fr1 := (fs [(16, x16), (17, x17), (2, x2), (1, x1), (15, x15)])) (by kernel_rfl) (show live [6] c39arrlrbo [] [(0, [])] = [16, 17, 2, 1, 15] by kernel_rfl) (by kernel_rfl), ep39arrlrbw]
  unfold p39arrlrb
  rfl
noncomputable def p39arrlr (C : CF) (L : Nat) {β : Type} (x16 : Value) (x17 : Value) (x2 : Value) (x1 : Value) (x15 : Value) (h : H) (kr : Value → H → Option β) (kn : H → Option β) : Option β :=
  p39arrlrb C L x16 x17 x2 x1 x15 h kr kn
theorem ep39arrlr (C : CF) (L : Nat) {β : Type} (x16 : Value) (x17 : Value) (x2 : Value) (x1 : Value) (x15 : Value) (h : H) (K : Ex → T Value → H → Option β) :
    execK Try.prog C L 0 32 [6] c39arrlr [] [] (fs [(16, x16), (17, x17), (2, x2), (1, x1), (15, x15)]) h K =
      p39arrlr C L x16 x17 x2 x1 x15 h (fun x6 h => K .ret (fs [(6, x6)]) h) (fun h => K .normal (fs []) h) := by
  rw [execK_block (b := c39arrlrb) (id := 0) (by kernel_rfl), ep39arrlrb]
  unfold p39arrlr
  rfl
noncomputable def p39arrl (C : CF) (L : Nat) {β : Type} (x0 : Value) (x2 : Value) (x1 : Value) (h : H) (kr : Value → H → Option β) (kn : H → Option β) : Option β :=
  p39arrll C L x0 x2 x1 h (fun x16 x17 x2 x1 x15 h => p39arrlr C L x16 x17 x2 x1 x15 h kr kn)
theorem ep39arrl (C : CF) (L : Nat) {β : Type} (x0 : Value) (x2 : Value) (x1 : Value) (h : H) (K : Ex → T Value → H → Option β) :
    execK Try.prog C L 0 32 [6] c39arrl [] [] (fs [(0, x0), (2, x2), (1, x1)]) h K =
      p39arrl C L x0 x2 x1 h (fun x6 h => K .ret (fs [(6, x6)]) h) (fun h => K .normal (fs []) h) := by
  rw [execK_seq (a := c39arrll) (b := c39arrlr) (by kernel_rfl) (show live [6] c39arrlr [] [] = [16, 17, 2, 1, 15] by kernel_rfl), ep39arrll]
  unfold p39arrl
  exact (congrArg (p39arrll C L x0 x2 x1 h) (funext fun x16 => funext fun x17 => funext fun x2 => funext fun x1 => funext fun x15 => funext fun h => (seqK_n _ _ _).trans (ep39arrlr C L x16 x17 x2 x1 x15 h K)))
noncomputable def c39arrr : Code := cR c39arr
noncomputable def p39arrr (C : CF) (L : Nat) {β : Type} (h : H) (kr : Value → H → Option β) : Option β :=
  kr (.bool true) h
theorem ep39arrr (C : CF) (L : Nat) {β : Type} (h : H) (K : Ex → T Value → H → Option β) :
    execK Try.prog C L 0 32 [6] c39arrr [6] [] (fs []) h K =
      p39arrr C L h (fun x6 h => K .ret (fs [(6, x6)]) h) := by
  kernel_rfl
noncomputable def p39arr (C : CF) (L : Nat) {β : Type} (x0 : Value) (x2 : Value) (x1 : Value) (h : H) (kr : Value → H → Option β) : Option β :=
  p39arrl C L x0 x2 x1 h kr (fun h => p39arrr C L h kr)
theorem ep39arr (C : CF) (L : Nat) {β : Type} (x0 : Value) (x2 : Value) (x1 : Value) (h : H) (K : Ex → T Value → H → Option β) :
    execK Try.prog C L 0 32 [6] c39arr [6] [] (fs [(0, x0), (2, x2), (1, x1)]) h K =
      p39arr C L x0 x2 x1 h (fun x6 h => K .ret (fs [(6, x6)]) h) := by
  rw [execK_seq (a := c39arrl) (b := c39arrr) (by kernel_rfl) (show live [6] c39arrr [6] [] = [] by kernel_rfl), ep39arrl]
  unfold p39arr
  exact (congr (congrArg (p39arrl C L x0 x2 x1 h) (funext fun x6 => funext fun h => seqK_r _ _ _)) (funext fun h => (seqK_n _ _ _).trans (ep39arrr C L h K)))
noncomputable def p39ar (C : CF) (L : Nat) {β : Type} (x0 : Value) (x2 : Value) (x1 : Value) (h : H) (kr : Value → H → Option β) : Option β :=
  p39arl C L x0 x2 x1 h kr (fun x0 x2 x1 h => p39arr C L x0 x2 x1 h kr)
theorem ep39ar (C : CF) (L : Nat) {β : Type} (x0 : Value) (x2 : Value) (x1 : Value) (h : H) (K : Ex → T Value → H → Option β) :
    execK Try.prog C L 0 32 [6] c39ar [6] [] (fs [(0, x0), (2, x2), (1, x1)]) h K =
      p39ar C L x0 x2 x1 h (fun x6 h => K .ret (fs [(6, x6)]) h) := by
  rw [execK_seq (a := c39arl) (b := c39arr) (by kernel_rfl) (show live [6] c39arr [6] [] = [0, 2, 1] by kernel_rfl), ep39arl]
  unfold p39ar
  exact (congr (congrArg (p39arl C L x0 x2 x1 h) (funext fun x6 => funext fun h => seqK_r _ _ _)) (funext fun x0 => funext fun x2 => funext fun x1 => funext fun h => (seqK_n _ _ _).trans (ep39arr C L x0 x2 x1 h K)))
noncomputable def p39a (C : CF) (L : Nat) {β : Type} (x0 : Value) (x1 : Value) (x2 : Value) (h : H) (kr : Value → H → Option β) : Option β :=
  p39al C L x0 x1 x2 h (fun x0 x2 x1 h => p39ar C L x0 x2 x1 h kr)
theorem ep39a (C : CF) (L : Nat) {β : Type} (x0 : Value) (x1 : Value) (x2 : Value) (h : H) (K : Ex → T Value → H → Option β) :
    execK Try.prog C L 0 32 [6] c39a [6] [] (fs [(0, x0), (1, x1), (2, x2)]) h K =
      p39a C L x0 x1 x2 h (fun x6 h => K .ret (fs [(6, x6)]) h) := by
  rw [execK_seq (a := c39al) (b := c39ar) (by kernel_rfl) (show live [6] c39ar [6] [] = [0, 2, 1] by kernel_rfl), ep39al]
  unfold p39a
  exact (congrArg (p39al C L x0 x1 x2 h) (funext fun x0 => funext fun x2 => funext fun x1 => funext fun h => (seqK_n _ _ _).trans (ep39ar C L x0 x2 x1 h K)))
noncomputable def F39 (C : CF) (L : Nat) (x0 : Value) (x1 : Value) (x2 : Value) (h : H) : Option (Value × H) :=
  p39a C L x0 x1 x2 h
    (fun x6 h => some (x6, h))
theorem F39eq (O : List FuncId) (hO : O.any (Nat.beq 39) = false) (n : Nat) (x0 : Value) (x1 : Value) (x2 : Value) (h : H) : callB Try.prog 0 O (n + 1) 39 [x0, x1, x2] h = F39 (callB Try.prog 0 O n) n x0 x1 x2 h := by
  rw [callB_eq hO (c := c39a) (nt := 32) (RR := [6]) (fr := (fs [(0, x0), (1, x1), (2, x2)])) Try.func39 (by kernel_rfl) (by kernel_rfl) (by kernel_rfl) (by kernel_rfl) (by kernel_rfl), ep39a]
  kernel_rfl

/-! F40: relayhouse/mail.same -/
noncomputable def c40a : Code := (Try.f40.body).getD .skip
noncomputable def c40al : Code := cL c40a
noncomputable def p40al (C : CF) (L : Nat) {β : Type} (x0 : Value) (x1 : Value) (h : H) (kn : Value → Value → H → Option β) : Option β :=
  bnd2 (A.box 38 x0 h) fun t2 hq1 =>
  bnd2 (A.box 38 x1 hq1) fun t3 hq2 =>
  kn t2 t3 hq2
theorem ep40al (C : CF) (L : Nat) {β : Type} (x0 : Value) (x1 : Value) (h : H) (K : Ex → T Value → H → Option β) :
    execK Try.prog C L 0 87 [4] c40al [2, 3] [] (fs [(0, x0), (1, x1)]) h K =
      p40al C L x0 x1 h (fun x2 x3 h => K .normal (fs [(2, x2), (3, x3)]) h) := by
  kernel_rfl
noncomputable def c40ar : Code := cR c40a
noncomputable def c40arl : Code := cL c40ar
noncomputable def p40arl (C : CF) (L : Nat) {β : Type} (x2 : Value) (x3 : Value) (h : H) (kn : Value → H → Option β) : Option β :=
  bnd (A.fieldAddr 0 x2) fun t5 =>
  bnd (A.load false 1 t5 h) fun t6 =>
  bnd (A.fieldAddr 0 x3) fun t7 =>
  bnd (A.load false 1 t7 h) fun t8 =>
  bnd (A.bin Try.prog .eql 5 t6 t8) fun t9 =>
  toBK t9 fun b =>
  (bif b then
  bnd (A.fieldAddr 1 x2) fun t11 =>
  bnd (A.load false 1 t11 h) fun t12 =>
  bnd (A.fieldAddr 1 x3) fun t13 =>
  bnd (A.load false 1 t13 h) fun t14 =>
  bnd (A.bin Try.prog .eql 3 t12 t14) fun t15 =>
  toBK t15 fun bq1 =>
  (bif bq1 then
  bnd (A.fieldAddr 2 x2) fun t18 =>
  bnd (A.load false 1 t18 h) fun t19 =>
  bnd (A.fieldAddr 2 x3) fun t20 =>
  bnd (A.load false 1 t20 h) fun t21 =>
  bnd (A.bin Try.prog .eql 3 t19 t21) fun t22 =>
  toBK t22 fun bq2 =>
  (bif bq2 then
  bnd (A.fieldAddr 3 x2) fun t25 =>
  bnd (A.load false 1 t25 h) fun t26 =>
  bnd (A.fieldAddr 3 x3) fun t27 =>
  bnd (A.load false 1 t27 h) fun t28 =>
  bnd (A.bin Try.prog .eql 9 t26 t28) fun t29 =>
  toBK t29 fun bq3 =>
  (bif bq3 then
  bnd (A.fieldAddr 4 x2) fun t32 =>
  bnd (A.load false 1 t32 h) fun t33 =>
  bnd (A.fieldAddr 4 x3) fun t34 =>
  bnd (A.load false 1 t34 h) fun t35 =>
  bnd (A.bin Try.prog .eql 9 t33 t35) fun t36 =>
  toBK t36 fun bq4 =>
  (bif bq4 then
  bnd (A.fieldAddr 5 x2) fun t39 =>
  bnd (A.load true 24 t39 h) fun t40 =>
  bnd (A.fieldAddr 5 x3) fun t41 =>
  bnd (A.load true 24 t41 h) fun t42 =>
  bnd2 (C 50 [t40, t42] h) fun t43 hq1 =>
  toBK t43 fun bq5 =>
  (bif bq5 then
  bnd (A.fieldAddr 29 x2) fun t46 =>
  bnd (A.load true 4 t46 hq1) fun t47 =>
  bnd (A.fieldAddr 29 x3) fun t48 =>
  bnd (A.load true 4 t48 hq1) fun t49 =>
  bnd (A.bin Try.prog .eql 63 t47 t49) fun t50 =>
  toBK t50 fun bq6 =>
  (bif bq6 then
  bnd (A.fieldAddr 33 x2) fun t53 =>
  bnd (A.load false 1 t53 hq1) fun t54 =>
  bnd (A.fieldAddr 33 x3) fun t55 =>
  bnd (A.load false 1 t55 hq1) fun t56 =>
  bnd2 (C 51 [t54, t56] hq1) fun t57 hq2 =>
  toBK t57 fun bq7 =>
  (bif bq7 then
  bnd (A.fieldAddr 34 x2) fun t60 =>
  bnd (A.load false 1 t60 hq2) fun t61 =>
  bnd (A.fieldAddr 34 x3) fun t62 =>
  bnd (A.load false 1 t62 hq2) fun t63 =>
  bnd2 (C 52 [t61, t63] hq2) fun t64 hq3 =>
  toBK t64 fun bq8 =>
  (bif bq8 then
  bnd (A.fieldAddr 35 x2) fun t67 =>
  bnd (A.load false 1 t67 hq3) fun t68 =>
  bnd (A.fieldAddr 35 x3) fun t69 =>
  bnd (A.load false 1 t69 hq3) fun t70 =>
  bnd2 (C 53 [t68, t70, (.func (.func 50) ⟨[]⟩ ⟨[]⟩)] hq3) fun t71 hq4 =>
  toBK t71 fun bq9 =>
  (bif bq9 then
  bnd (A.fieldAddr 36 x2) fun t74 =>
  bnd (A.load false 1 t74 hq4) fun t75 =>
  bnd (A.fieldAddr 36 x3) fun t76 =>
  bnd (A.load false 1 t76 hq4) fun t77 =>
  bnd (A.bin Try.prog .eql 3 t75 t77) fun t78 =>
  toBK t78 fun bq10 =>
  (bif bq10 then
  bnd (A.fieldAddr 37 x2) fun t81 =>
  bnd (A.load false 1 t81 hq4) fun t82 =>
  bnd (A.fieldAddr 37 x3) fun t83 =>
  bnd (A.load false 1 t83 hq4) fun t84 =>
  bnd (A.bin Try.prog .eql 3 t82 t84) fun t85 =>
  toBK t85 fun bq11 =>
  kn (.bool bq11) hq4
  else
  kn (.bool false) hq4)
  else
  kn (.bool false) hq4)
  else
  kn (.bool false) hq3)
  else
  kn (.bool false) hq2)
  else
  kn (.bool false) hq1)
  else
  kn (.bool false) hq1)
  else
  kn (.bool false) h)
  else
  kn (.bool false) h)
  else
  kn (.bool false) h)
  else
  kn (.bool false) h)
  else
  kn (.bool false) h)
theorem ep40arl (C : CF) (L : Nat) {β : Type} (x2 : Value) (x3 : Value) (h : H) (K : Ex → T Value → H → Option β) :
    execK Try.prog C L 0 87 [4] c40arl [4] [] (fs [(2, x2), (3, x3)]) h K =
      p40arl C L x2 x3 h (fun x4 h => K .normal (fs [(4, x4)]) h) := by
  kernel_rfl
noncomputable def c40arr : Code := cR c40ar
noncomputable def p40arr (C : CF) (L : Nat) {β : Type} (x4 : Value) (h : H) (kr : Value → H → Option β) : Option β :=
  kr x4 h
theorem ep40arr (C : CF) (L : Nat) {β : Type} (x4 : Value) (h : H) (K : Ex → T Value → H → Option β) :
    execK Try.prog C L 0 87 [4] c40arr [4] [] (fs [(4, x4)]) h K =
      p40arr C L x4 h (fun x4 h => K .ret (fs [(4, x4)]) h) := by
  kernel_rfl
noncomputable def p40ar (C : CF) (L : Nat) {β : Type} (x2 : Value) (x3 : Value) (h : H) (kr : Value → H → Option β) : Option β :=
  p40arl C L x2 x3 h (fun x4 h => p40arr C L x4 h kr)
theorem ep40ar (C : CF) (L : Nat) {β : Type} (x2 : Value) (x3 : Value) (h : H) (K : Ex → T Value → H → Option β) :
    execK Try.prog C L 0 87 [4] c40ar [4] [] (fs [(2, x2), (3, x3)]) h K =
      p40ar C L x2 x3 h (fun x4 h => K .ret (fs [(4, x4)]) h) := by
  rw [execK_seq (a := c40arl) (b := c40arr) (by kernel_rfl) (show live [4] c40arr [4] [] = [4] by kernel_rfl), ep40arl]
  unfold p40ar
  exact (congrArg (p40arl C L x2 x3 h) (funext fun x4 => funext fun h => (seqK_n _ _ _).trans (ep40arr C L x4 h K)))
noncomputable def p40a (C : CF) (L : Nat) {β : Type} (x0 : Value) (x1 : Value) (h : H) (kr : Value → H → Option β) : Option β :=
  p40al C L x0 x1 h (fun x2 x3 h => p40ar C L x2 x3 h kr)
theorem ep40a (C : CF) (L : Nat) {β : Type} (x0 : Value) (x1 : Value) (h : H) (K : Ex → T Value → H → Option β) :
    execK Try.prog C L 0 87 [4] c40a [4] [] (fs [(0, x0), (1, x1)]) h K =
      p40a C L x0 x1 h (fun x4 h => K .ret (fs [(4, x4)]) h) := by
  rw [execK_seq (a := c40al) (b := c40ar) (by kernel_rfl) (show live [4] c40ar [4] [] = [2, 3] by kernel_rfl), ep40al]
  unfold p40a
  exact (congrArg (p40al C L x0 x1 h) (funext fun x2 => funext fun x3 => funext fun h => (seqK_n _ _ _).trans (ep40ar C L x2 x3 h K)))
noncomputable def F40 (C : CF) (L : Nat) (x0 : Value) (x1 : Value) (h : H) : Option (Value × H) :=
  p40a C L x0 x1 h
    (fun x4 h => some (x4, h))
theorem F40eq (O : List FuncId) (hO : O.any (Nat.beq 40) = false) (n : Nat) (x0 : Value) (x1 : Value) (h : H) : callB Try.prog 0 O (n + 1) 40 [x0, x1] h = F40 (callB Try.prog 0 O n) n x0 x1 h := by
  rw [callB_eq hO (c := c40a) (nt := 87) (RR := [4]) (fr := (fs [(0, x0), (1, x1)])) Try.func40 (by kernel_rfl) (by kernel_rfl) (by kernel_rfl) (by kernel_rfl) (by kernel_rfl), ep40a]
  kernel_rfl

end Go.Proofs.Ytdjhkdogpbiglaa.MailD2
