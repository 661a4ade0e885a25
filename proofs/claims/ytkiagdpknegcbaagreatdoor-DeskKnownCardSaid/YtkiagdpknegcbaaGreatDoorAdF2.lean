/-
  An abstract machine for the model: the same machine in forms that the kernel runs fast: operations, code, calls.
-/
import Derived.Test.YtkiagdpknegcbaaGreatDoorAdF
namespace Go.AM.F
open Go Go.AM

noncomputable section

/-! Numbers held against each other. -/
theorem ieq_eq (x y : Int) : ieq x y = (x == y) := by
  cases x <;> cases y
  · rename_i m n
    show Nat.beq m n = _
    rw [T.beq_dec, Bool.eq_iff_iff]; simp
    omega
  · rename_i m n
    show false = _
    rw [Bool.eq_iff_iff]; simp
  · rename_i m n
    show false = _
    rw [Bool.eq_iff_iff]; simp
  · rename_i m n
    show Nat.beq m n = _
    rw [T.beq_dec, Bool.eq_iff_iff]; simp
theorem ilt_eq (x y : Int) : ilt x y = decide (x < y) := by
  cases x <;> cases y
  · rename_i m n
    show Nat.blt m n = _
    rw [Bool.eq_iff_iff, blt_iff]; simp
  · rename_i m n
    show false = _
    rw [Bool.eq_iff_iff]; simp
    omega
  · rename_i m n
    show true = _
    rw [Bool.eq_iff_iff]; simp
    omega
  · rename_i m n
    show Nat.blt n m = _
    rw [Bool.eq_iff_iff, blt_iff]; simp
    omega

abbrev BI := IntKind → Int → Int → Option Value
def iSlow (op : BinOp) : BI := fun k x y => A.binI op k x y
def iAdd : BI := fun k x y => some (wrapF k (Int.add x y))
def iSub : BI := fun k x y => some (wrapF k (Int.sub x y))
def iEql : BI := fun _ x y => some (.bool (ieq x y))
def iNeq : BI := fun _ x y => some (.bool (Bool.rec true false (ieq x y)))
def iLss : BI := fun _ x y => some (.bool (ilt x y))
def iLeq : BI := fun _ x y => some (.bool (Bool.rec true false (ilt y x)))
def iGtr : BI := fun _ x y => some (.bool (ilt y x))
def iGeq : BI := fun _ x y => some (.bool (Bool.rec true false (ilt x y)))
def binIF (op : BinOp) : BI :=
  BinOp.rec (motive := fun _ => BI) iAdd iSub (iSlow .mul) (iSlow .quo) (iSlow .rem) (iSlow .and) (iSlow .or) (iSlow .xor) (iSlow .shl) (iSlow .shr) (iSlow .andNot)
    iEql iNeq iLss iLeq iGtr iGeq op
theorem notB (b : Bool) : (Bool.rec true false b : Bool) = !b := by cases b <;> rfl
theorem binIF_eq (op : BinOp) (k : IntKind) (x y : Int) : binIF op k x y = A.binI op k x y := by
  cases op <;> try rfl
  · exact congrArg some (wrapF_eq k _)
  · exact congrArg some (wrapF_eq k _)
  · exact congrArg (fun b => some (Value.bool b)) (ieq_eq x y)
  · exact congrArg (fun b => some (Value.bool b)) ((notB _).trans (by rw [ieq_eq]; rfl))
  · exact congrArg (fun b => some (Value.bool b)) (ilt_eq x y)
  · refine congrArg (fun b => some (Value.bool b)) ((notB _).trans ?_)
    rw [ilt_eq, Bool.eq_iff_iff]; simp
  · exact congrArg (fun b => some (Value.bool b)) (ilt_eq y x)
  · refine congrArg (fun b => some (Value.bool b)) ((notB _).trans ?_)
    rw [ilt_eq, Bool.eq_iff_iff]; simp

/-- Two numbers. -/
def bin2 (P : Program) (op : BinOp) (t : TypeId) (k : IntKind) (x : Int) (b : Value) : Option Value :=
  vE (fun c => A.bin P op t (.int k x) (.bool c))
    (fun j y => Bool.rec (A.bin P op t (.int k x) (.int j y)) (BinOp.rec (motive := fun _ => Option Value) (binIF op k x y) (binIF op k x y) (binIF op k x y) (binIF op k x y) (binIF op k x y) (binIF op k x y) (binIF op k x y) (binIF op k x y) (A.bin P op t (.int k x) (.int j y)) (A.bin P op t (.int k x) (.int j y)) (binIF op k x y)
      (binIF op k x y) (binIF op k x y) (binIF op k x y) (binIF op k x y) (binIF op k x y) (binIF op k x y) op) (kEq k j))
    (fun s => A.bin P op t (.int k x) (.string s)) (fun a => A.bin P op t (.int k x) (.pointer a)) (fun a l c => A.bin P op t (.int k x) (.slice a l c)) (fun a => A.bin P op t (.int k x) (.agg a)) (fun a => A.bin P op t (.int k x) (.tuple a))
    (fun v => A.bin P op t (.int k x) v) b
theorem bin2_eq (P : Program) (op : BinOp) (t : TypeId) (k : IntKind) (x : Int) (b : Value) : bin2 P op t k x b = A.bin P op t (.int k x) b := by
  cases b <;> try rfl
  rename_i j y
  show (Bool.rec _ _ (kEq k j) : Option Value) = _
  rw [kEq_eq]
  cases hb : (k == j) with
  | false => rfl
  | true =>
    have : A.bin P op t (.int k x) (.int j y) = (match op with | .shl | .shr => A.shI op k x y | op => bif k == j then A.binI op k x y else none) := by cases op <;> rfl
    cases op <;> first | rfl | (rw [this, hb]; exact binIF_eq _ _ _ _)
def binF (P : Program) (op : BinOp) (t : TypeId) (a b : Value) : Option Value :=
  vE (fun c => A.bin P op t (.bool c) b) (fun k x => bin2 P op t k x b) (fun s => A.bin P op t (.string s) b) (fun a => A.bin P op t (.pointer a) b) (fun a l c => A.bin P op t (.slice a l c) b) (fun a => A.bin P op t (.agg a) b) (fun a => A.bin P op t (.tuple a) b)
    (fun v => A.bin P op t v b) a
theorem binF_eq (P : Program) (op : BinOp) (t : TypeId) (a b : Value) : binF P op t a b = A.bin P op t a b := by
  cases a <;> try rfl
  exact bin2_eq _ _ _ _ _ _

/-! Places. -/
def fieldAddrF (off : Nat) (v : Value) : Option Value := ptr v fun id o => sn (Nat.add o off) fun k => some (.pointer (some ⟨id, k, none⟩))
theorem fieldAddrF_eq (off : Nat) (v : Value) : fieldAddrF off v = A.fieldAddr off v := by
  cases v <;> try rfl
  rename_i a
  cases a with
  | none => rfl
  | some a =>
    obtain ⟨id, o, s⟩ := a
    cases s with
    | some s => rfl
    | none =>
      show sn (Nat.add o off) (fun k => some (Value.pointer (some ⟨id, k, none⟩))) = _
      rw [sn_eq]; rfl

/-- A number that is none below 0. -/
def idx {β : Type} (v : Value) (K : Nat → Option β) : Option β :=
  vE (fun _ => none) (fun _ n => Int.rec (motive := fun _ => Option β) K (fun _ => none) n) (fun _ => none) (fun _ => none) (fun _ _ _ => none) (fun _ => none) (fun _ => none) (fun _ => none) v

def idxSF (size : Nat) (x ix : Value) : Option Value :=
  vE (fun _ => none) (fun _ _ => none) (fun _ => none) (fun _ => none)
    (fun a len _ => Option.rec (motive := fun _ => Option Value) none (fun a => Addr.rec (motive := fun _ => Option Value) (fun id off s => Option.rec (motive := fun _ => Option Value)
      (idx ix fun i => Bool.rec none (sn (Nat.add off (Nat.mul i size)) fun k => some (.pointer (some ⟨id, k, none⟩))) (Nat.blt i len)) (fun _ => none) s) a) a) (fun _ => none) (fun _ => none) (fun _ => none) x
theorem idxSF_eq (size : Nat) (x ix : Value) : idxSF size x ix = A.idxS size x ix := by
  cases x <;> try rfl
  rename_i a len c
  cases a with
  | none => rfl
  | some a =>
    obtain ⟨id, o, s⟩ := a
    cases s with
    | some s => rfl
    | none =>
      cases ix <;> try rfl
      rename_i k n
      cases n with
      | negSucc n => rfl
      | ofNat i =>
        show (Bool.rec none (sn _ _) (Nat.blt i len) : Option Value) = bif Nat.blt i len then _ else _
        rw [sn_eq]
        cases Nat.blt i len <;> rfl

/-! Operands. -/
def evalF (NG : Nat) (fr : T Value) (x : Operand) : Option Value :=
  Operand.rec (motive := fun _ => Nat → T Value → Option Value) (fun t _ fr => tget fr t) (fun v _ _ => Bool.rec none (some v) (plain v)) (fun g NG _ => Bool.rec none (some (.pointer (some ⟨g, 0, none⟩))) (Nat.blt g NG))
    (fun f _ _ => some (.func (.func f) #[] #[])) x NG fr
theorem evalF_eq (NG : Nat) (fr : T Value) (h : H) (x : Operand) : evalF NG fr x = evalA NG fr h x := by
  cases x with
  | tmp t => exact tget_eq _ _
  | const v => show (Bool.rec none (some v) (plain v) : Option Value) = bif plain v then some v else none; cases plain v <;> rfl
  | global g => show (Bool.rec none _ (Nat.blt g NG) : Option Value) = bif Nat.blt g NG then _ else none; cases Nat.blt g NG <;> rfl
  | func f => rfl
theorem evalF_fun (NG : Nat) (fr : T Value) (h : H) : evalF NG fr = evalA NG fr h := funext (evalF_eq NG fr h)

def evalLF {β : Type} (NG : Nat) (fr : T Value) (l : List Operand) : (List Value → Option β) → Option β :=
  List.rec (motive := fun _ => (List Value → Option β) → Option β) (fun K => K []) (fun x _ ih K => ob (evalF NG fr x) fun v => ih fun vs => K (v :: vs)) l
theorem evalLF_eq {β : Type} (NG : Nat) (fr : T Value) (h : H) : ∀ (l : List Operand) (K : List Value → Option β), evalLF NG fr l K = (evalL (evalA NG fr h) l).bind K
  | [], K => rfl
  | x :: l, K => by
    show ob (evalF NG fr x) (fun v => evalLF NG fr l fun vs => K (v :: vs)) = _
    rw [evalF_eq NG fr h, ob_eq]
    simp only [evalL]
    cases evalA NG fr h x with
    | none => rfl
    | some v =>
      simp only [Option.bind_some]
      rw [evalLF_eq NG fr h l]
      cases evalL (evalA NG fr h) l <;> rfl

def appF {α : Type} (a b : List α) : List α := List.rec b (fun x _ ih => x :: ih) a
theorem appF_eq {α : Type} : ∀ (a b : List α), appF a b = a ++ b
  | [], b => rfl
  | x :: a, b => by show x :: appF a b = _; rw [appF_eq a b]; rfl

/-! Operations. -/
section
variable {β : Type}
abbrev AOp (β : Type) := Program → Nat → CF → T Value → H → Oper → (Option Value → H → Option β) → Option β
def oSlow : AOp β := fun P NG C fr h o K => aop P C (evalF NG fr) h o K
def oMove (x : Operand) : AOp β := fun _ NG _ fr h _ K => ob (evalF NG fr x) fun v => K (some v) h
def oAlloc (t : TypeId) : AOp β := fun P _ _ _ h _ K => ob (zeroP P t) fun z => ob (szP P t) fun n => ob2 (boxF t n z h) fun v h' => K (some v) h'
def oBox (t : TypeId) (x : Operand) : AOp β := fun P NG _ fr h _ K => ob (szP P t) fun n => ob (evalF NG fr x) fun v => ob2 (boxF t n v h) fun v h' => K (some v) h'
def oLoad (t : TypeId) (a : Operand) : AOp β := fun P NG _ fr h _ K => ob (aggP P t) fun g => ob (szP P t) fun n => ob (evalF NG fr a) fun p => ob (loadF g n p h) fun v => K (some v) h
def oStore (t : TypeId) (a x : Operand) : AOp β := fun P NG _ fr h _ K => ob (szP P t) fun n => ob (evalF NG fr a) fun p => ob (evalF NG fr x) fun v => ob (storeF n p v h) fun h' => K none h'
def oNil (x : Operand) : AOp β := fun _ NG _ fr h _ K => ob (evalF NG fr x) fun v => ob (A.nilCheck v) fun v => K (some v) h
def oBin (op : BinOp) (t : TypeId) (x y : Operand) (_ : TypeId) : AOp β := fun P NG _ fr h _ K => ob (evalF NG fr x) fun a => ob (evalF NG fr y) fun b => ob (binF P op t a b) fun v => K (some v) h
def oUn (op : UnOp) (_ : TypeId) (x : Operand) : AOp β := fun P NG _ fr h _ K => ob (evalF NG fr x) fun a => ob (A.un P op a) fun v => K (some v) h
def oFieldAddr (t : TypeId) (x : Operand) (i : Nat) : AOp β := fun P NG _ fr h _ K =>
  ob (fieldP P t i) fun f => ob (evalF NG fr x) fun v => ob (sn f.type fun ty => szP P ty) fun n => Bool.rec (ob (fieldAddrF f.offset v) fun v => K (some v) h) none (Nat.beq n 0)
def oField (t : TypeId) (x : Operand) (i : Nat) : AOp β := fun P NG _ fr h _ K =>
  ob (fieldP P t i) fun f => ob (evalF NG fr x) fun v => ob (sn f.type fun ty => aggP P ty) fun g => ob (sn f.type fun ty => szP P ty) fun n => ob (partF g n f.offset v) fun v => K (some v) h
/-- What is gone into by an index: an array's length, and an element's size. -/
def rowP (P : Program) (t : TypeId) : Option (Option Nat × Nat) :=
  match P.underlying t with
  | some (.slice e) => (szP P e).map fun n => (none, n)
  | some (.array len e) => (szP P e).map fun n => (some len, n)
  | _ => none
def oIndexAddr (t : TypeId) (x i : Operand) : AOp β := fun P NG _ fr h _ K =>
  ob (evalF NG fr x) fun v => ob (evalF NG fr i) fun iv => ob2 (rowP P t) fun len n => ob (Option.rec (motive := fun _ => Option Value) (idxSF n v iv) (fun len => A.idxA len n v iv) len) fun v => K (some v) h
def isStrP (P : Program) (t : TypeId) : Bool := match P.underlying t with | some .string => true | _ => false
def indexStrF (x ix : Value) : Option Value :=
  vE (fun _ => none) (fun _ _ => none) (fun s => idx ix fun i => ob (nth s.data.toList i) fun b => some (.int .u8 b.toNat)) (fun _ => none) (fun _ _ _ => none) (fun _ => none) (fun _ => none) (fun _ => none) x
theorem indexStrF_eq (x ix : Value) : indexStrF x ix = A.indexStr x ix := by
  cases x <;> try rfl
  rename_i s
  cases ix <;> try rfl
  rename_i k n
  cases n with
  | negSucc n => rfl
  | ofNat i =>
    show ob (nth s.data.toList i) _ = match s.data.toList[i]? with | some b => _ | none => _
    rw [nth_eq, ob_eq]
    cases s.data.toList[i]? <;> rfl
def oIndex (t : TypeId) (x i : Operand) : AOp β := fun P NG C fr h o K =>
  Bool.rec (oSlow P NG C fr h o K) (ob (evalF NG fr x) fun v => ob (evalF NG fr i) fun iv => ob (indexStrF v iv) fun v => K (some v) h) (isStrP P t)
def oExtract (x : Operand) (i : Nat) : AOp β := fun _ NG _ fr h _ K =>
  ob (evalF NG fr x) fun v => vE (fun _ => none) (fun _ _ => none) (fun _ => none) (fun _ => none) (fun _ _ _ => none) (fun _ => none) (fun a => Array.rec (motive := fun _ => Option β) (fun vs => ob (nth vs i) fun v => K (some v) h) a) (fun _ => none) v
def oBuild (t : TypeId) (ps : Array (Nat × Operand)) : AOp β := fun P NG _ fr h _ K =>
  match zeroP P t, partsP (evalF NG fr) (placeP P t) ps.toList with
    | some (.agg ⟨z⟩), some l => bif fieldsKnown P t then (A.build z l).bind fun v => K (some v) h else none
    | _, _ => none
def callVF (C : CF) (f : Value) (vs : List Value) (h : H) : Option (Value × H) :=
  match f with
  | .func (.func g) ⟨first⟩ ⟨cap⟩ => bif Nat.blt g 1099511627776 then C g (appF first (appF vs cap)) h else none
  | .func (.yield id) _ _ => C 1099511627776 (.int .i64 (.ofNat id) :: vs) h
  | _ => none
theorem callVF_eq (C : CF) (f : Value) (vs : List Value) (h : H) : callVF C f vs h = callV C f vs h := by
  unfold callVF callV
  split <;> simp_all [appF_eq, List.append_assoc]
def callMF (P : Program) (C : CF) (f : Value) (vs : List Value) (h : H) : Option (Value × H) :=
  match f with
  | .func (.methodOf t name) a b => callM P C (.func (.methodOf t name) a b) vs h
  | f => callVF C f vs h
theorem callMF_eq (P : Program) (C : CF) (f : Value) (vs : List Value) (h : H) : callMF P C f vs h = callM P C f vs h := by
  unfold callMF
  split
  · rfl
  · rename_i hn
    rw [callVF_eq]
    unfold callM
    split
    · rename_i t name a b
      exact absurd rfl (hn t name a b)
    · rfl
def oCallV (f : Operand) (args : Array Operand) : AOp β := fun P NG C fr h _ K =>
  ob (evalF NG fr f) fun fv => evalLF NG fr args.toList fun vs => ob2 (callMF P C fv vs h) fun v h' => K (some v) h'
def oPick (c a b : Operand) : AOp β := fun _ NG _ fr h _ K =>
  match evalF NG fr c with
    | some (.bool t) =>
      (match evalF NG fr a, evalF NG fr b with
       | some va, some vb => K (some (bif t then va else vb)) h
       | some va, none => bif t then K (some va) h else none
       | none, some vb => bif t then none else K (some vb) h
       | none, none => none)
    | _ => none
def oBuildSlice (t : TypeId) (len : Nat) (ps : Array (Nat × Operand)) : AOp β := fun P NG _ fr h _ K =>
    match elemP P t with
    | none => none
    | some e => match szP P e, zeroP P e with
      | some n, some z => match cellsL z, partsP (evalF NG fr) (fun i => some (i * n, n)) ps.toList with
        | some zs, some l => bif Nat.beq zs.length n && Nat.blt 0 n && Nat.ble (len * n) (2 ^ 24) && Nat.blt n KB then (A.buildSlice (enc e n) n len zs l h).bind fun (v, h') => K (some v) h' else none
        | _, _ => none
      | _, _ => none
def oConvert (s d : TypeId) (x : Operand) : AOp β := fun P NG _ fr h _ K =>
    match evalF NG fr x with
    | none => none
    | some a => match P.underlying s, P.underlying d with
      | some .string, some (.slice e) => (match P.underlying e with
        | some (.int .u8) => (A.s2b (enc e 1) a h).bind fun (v, h') => K (some v) h'
        | _ => none)
      | some (.slice e), some .string => (match P.underlying e with
        | some (.int .u8) => (A.b2s a h).bind fun v => K (some v) h
        | _ => none)
      | some (.pointer t), some .unsafePointer => (A.toU P t a h).bind fun v => K (some v) h
      | some .unsafePointer, some (.pointer u) => (A.ofU P u a h).bind fun v => K (some v) h
      | _, _ => (A.conv P s d a).bind fun v => K (some v) h
def oMakeFunc (f : Fn) (first captured : Array Operand) : AOp β := fun P NG C fr h o K =>
  match f with
  | .func f => (match evalL (evalF NG fr) first.toList, evalL (evalF NG fr) captured.toList with
    | some a, some b => K (some (.func (.func f) ⟨a⟩ ⟨b⟩)) h
    | _, _ => none)
  | _ => oSlow P NG C fr h o K
def oMakeSlice (t : TypeId) (l c : Operand) : AOp β := fun P NG _ fr h _ K =>
    match elemP P t, evalF NG fr l, evalF NG fr c with
    | some e, some vl, some vc => (match szP P e, bytesP P e, zeroP P e with
      | some n, some bs, some z => match cellsL z with
        | some zs => bif Nat.beq zs.length n && Nat.blt 0 n && Nat.blt n KB then (A.makeSlice (enc e n) n bs zs vl vc h).bind fun (v, h') => K (some v) h' else none
        | none => none
      | _, _, _ => none)
    | _, _, _ => none
def oSlice (t : TypeId) (x : Operand) (lo hi mx : Option Operand) : AOp β := fun P NG _ fr h _ K =>
    match evalF NG fr x, evalO (evalF NG fr) lo, evalO (evalF NG fr) hi, evalO (evalF NG fr) mx with
    | some v, some l, some r, some m => (match P.underlying t with
      | some .string => (match m with | none => (A.sliceStr v l r).bind fun v => K (some v) h | some _ => none)
      | some (.slice e) => (match szP P e with
        | some n => (A.sliceS n v l r m h).bind fun v => K (some v) h
        | none => none)
      | some (.array len e) => (match szP P e with
        | some n => (A.sliceA len n v l r m h).bind fun v => K (some v) h
        | none => none)
      | _ => none)
    | _, _, _, _ => none
def oLookup (t : TypeId) (x k : Operand) (co : Bool) : AOp β := fun P NG _ fr h _ K =>
    match mapP P t, evalF NG fr x, evalF NG fr k with
    | some (kt, et), some v, some kv => (match A.keyT P kt, zeroP P et with
      | some s, some z => (A.lookupK s z co kv v h).bind fun v => K (some v) h
      | _, _ => none)
    | _, _, _ => none
def oMapUpdate (t : TypeId) (x k y : Operand) : AOp β := fun P NG _ fr h _ K =>
    match mapP P t, evalF NG fr x, evalF NG fr k, evalF NG fr y with
    | some (kt, _), some v, some kv, some yv => (match A.keyT P kt with
      | some s => (A.mapUpdateK s kv yv v h).bind fun h' => K none h'
      | none => none)
    | _, _, _, _ => none
def oRange (t : TypeId) (x : Operand) : AOp β := fun P NG _ fr h _ K =>
    match P.underlying t, evalF NG fr x with
    | some .string, some v => (A.rangeS v h).bind fun (v, h') => K (some v) h'
    | some (.map _ _), some v => (A.rangeM v h).bind fun (v, h') => K (some v) h'
    | _, _ => none
def oNext (x : Operand) (str : Bool) : AOp β := fun _ NG _ fr h _ K =>
    match evalF NG fr x with
    | some v => bif str then (A.nextS v h).bind fun (v, h') => K (some v) h' else (A.nextM v h).bind fun (v, h') => K (some v) h'
    | none => none
def oEntry (x : Operand) : AOp β := fun _ NG _ fr h _ K => ((evalF NG fr) x).bind fun v => (A.entry v h).bind fun v => K (some v) h

/-- Of what a length is asked: 1: a slice, 2: a text, 3: a map. -/
def lenP (P : Program) (c : Call) : Nat :=
  match (c.argTypes[0]?).bind P.underlying with
  | some (.slice _) => 1
  | some .string => 2
  | some (.map _ _) => 3
  | _ => 0
def oLen (c : Call) : AOp β := fun P NG C fr h o K =>
  match c.args.toList with
  | [x] => ob (evalF NG fr x) fun v => Nat.rec none (fun p _ => Nat.rec (ob (A.lenS v) fun v => K (some v) h) (fun p _ => Nat.rec (ob (A.lenStr v) fun v => K (some v) h) (fun p _ => ob (A.lenM v h) fun v => K (some v) h) p) p) (lenP P c)
  | _ => oSlow P NG C fr h o K
/-- An append's element: its size, its bytes. -/
def appP (P : Program) (c : Call) : Option (Nat × Nat × Nat) :=
  match (c.argTypes[0]?).bind (elemP P), (c.argTypes[1]?).bind P.underlying with
  | some e, some d => (match d with
    | .int _ => none
    | _ => match szP P e, bytesP P e, (zeroP P e).bind cellsL with
      | some n, some bs, some zs => bif Nat.blt 0 n && Nat.beq zs.length n && Nat.blt 0 bs && Nat.blt n KB then some (enc e n, n, bs) else none
      | _, _, _ => none)
  | _, _ => none
def oAppend (c : Call) : AOp β := fun P NG C fr h o K =>
  match c.args.toList with
  | [x, y] => ob (evalF NG fr x) fun s => ob (evalF NG fr y) fun v => ob2 (appP P c) fun q nb => ob2 (A.append q nb.1 nb.2 s v h) fun v h' => K (some v) h'
  | _ => oSlow P NG C fr h o K
def oBuiltin (b : Builtin) (c : Call) : AOp β :=
  match b with
  | .len => oLen c
  | .append => oAppend c
  | _ => oSlow
def oCall (c : Call) : AOp β := Callee.rec (motive := fun _ => AOp β) (fun f => oCallV f c.args) (fun _ _ => oSlow) (fun b => oBuiltin b c) c.callee

def aopF (op : Op) : AOp β :=
  Op.rec (motive := fun _ => AOp β)
  oMove oMove oPick oAlloc oBox oBuild oBuildSlice (fun _ _ _ _ => oSlow) oLoad oStore (fun _ => oSlow) (fun _ => oSlow) oNil oBin oUn oConvert (fun _ _ => oSlow) (fun _ _ => oSlow) oMakeFunc (fun _ _ => oSlow) (fun _ _ => oSlow) oMakeSlice oSlice oFieldAddr oField oIndexAddr oIndex oLookup oMapUpdate (fun _ _ _ => oSlow) (fun _ _ _ _ => oSlow) oRange oNext oEntry (fun _ _ _ _ => oSlow) oExtract oCall (fun _ => oSlow) (fun _ => oSlow) (fun _ => oSlow) (fun _ _ => oSlow) (fun _ _ _ => oSlow) (fun _ _ => oSlow) op

theorem oSlow_eq (P : Program) (NG : Nat) (C : CF) (fr : T Value) (h : H) (o : Oper) (K : Option Value → H → Option β) : oSlow P NG C fr h o K = aop P C (evalA NG fr h) h o K := by
  unfold oSlow; rw [evalF_fun NG fr h]

theorem aopF_eq (P : Program) (NG : Nat) (C : CF) (fr : T Value) (h : H) (o : Oper) (K : Option Value → H → Option β) : aopF o.op P NG C fr h o K = aop P C (evalA NG fr h) h o K := by
  obtain ⟨dst, op, type, pos, after, guard⟩ := o
  cases op with
  | move x => show oMove x P NG C fr h ⟨dst, .move x, type, pos, after, guard⟩ K = _; simp only [oMove, evalF_eq NG fr h, ob_eq]; rfl
  | assign x => show oMove x P NG C fr h ⟨dst, .assign x, type, pos, after, guard⟩ K = _; simp only [oMove, evalF_eq NG fr h, ob_eq]; rfl
  | alloc t =>
    show oAlloc t P NG C fr h ⟨dst, .alloc t, type, pos, after, guard⟩ K = _
    simp only [oAlloc, ob_eq, ob2_eq, boxF_eq, aop]
    cases zeroP P t <;> cases szP P t <;> rfl
  | box t x =>
    show oBox t x P NG C fr h ⟨dst, .box t x, type, pos, after, guard⟩ K = _
    simp only [oBox, ob_eq, ob2_eq, boxF_eq, aop, evalF_eq NG fr h]
    cases szP P t <;> cases evalA NG fr h x <;> rfl
  | load t a =>
    show oLoad t a P NG C fr h ⟨dst, .load t a, type, pos, after, guard⟩ K = _
    simp only [oLoad, ob_eq, loadF_eq, aop, evalF_eq NG fr h]
    cases aggP P t <;> cases szP P t <;> cases evalA NG fr h a <;> rfl
  | store t a x =>
    show oStore t a x P NG C fr h ⟨dst, .store t a x, type, pos, after, guard⟩ K = _
    simp only [oStore, ob_eq, storeF_eq, aop, evalF_eq NG fr h]
    cases szP P t <;> cases evalA NG fr h a <;> cases evalA NG fr h x <;> rfl
  | nilCheck x => show oNil x P NG C fr h ⟨dst, .nilCheck x, type, pos, after, guard⟩ K = _; simp only [oNil, evalF_eq NG fr h, ob_eq]; rfl
  | binOp op t x y u =>
    show oBin op t x y u P NG C fr h ⟨dst, .binOp op t x y u, type, pos, after, guard⟩ K = _
    simp only [oBin, ob_eq, binF_eq, aop, evalF_eq NG fr h]
    cases evalA NG fr h x <;> cases evalA NG fr h y <;> rfl
  | unOp op t x => show oUn op t x P NG C fr h ⟨dst, .unOp op t x, type, pos, after, guard⟩ K = _; simp only [oUn, evalF_eq NG fr h, ob_eq]; rfl
  | fieldAddr t x i =>
    show oFieldAddr t x i P NG C fr h ⟨dst, .fieldAddr t x i, type, pos, after, guard⟩ K = _
    simp only [oFieldAddr, sn_eq, ob_eq, fieldAddrF_eq, aop, evalF_eq NG fr h]
    cases fieldP P t i <;> cases evalA NG fr h x <;> try rfl
    rename_i f v
    simp only [Option.bind_some]
    cases szP P f.type with
    | none => rfl
    | some n => simp only [Option.bind_some]; cases Nat.beq n 0 <;> rfl
  | field t x i =>
    show oField t x i P NG C fr h ⟨dst, .field t x i, type, pos, after, guard⟩ K = _
    simp only [oField, sn_eq, ob_eq, partF_eq, aop, evalF_eq NG fr h]
    cases fieldP P t i <;> cases evalA NG fr h x <;> try rfl
    rename_i f v
    simp only [Option.bind_some]
    cases aggP P f.type <;> cases szP P f.type <;> rfl
  | indexAddr t x i =>
    show oIndexAddr t x i P NG C fr h ⟨dst, .indexAddr t x i, type, pos, after, guard⟩ K = _
    simp only [oIndexAddr, ob_eq, ob2_eq, idxSF_eq, aop, evalF_eq NG fr h, rowP]
    cases evalA NG fr h x <;> cases evalA NG fr h i <;> try rfl
    rename_i v iv
    simp only [Option.bind_some]
    cases hu : P.underlying t with
    | none => rfl
    | some d =>
      cases d with
      | slice e => simp only []; cases szP P e <;> rfl
      | array len e => simp only []; cases szP P e <;> rfl
      | _ => rfl
  | index t x i =>
    show oIndex t x i P NG C fr h ⟨dst, .index t x i, type, pos, after, guard⟩ K = _
    simp only [oIndex, isStrP, ob_eq, indexStrF_eq, evalF_eq NG fr h, oSlow_eq]
    cases hu : P.underlying t with
    | none => rfl
    | some d =>
      cases d <;> try rfl
      simp only [aop, hu]
      cases evalA NG fr h x <;> cases evalA NG fr h i <;> rfl
  | extract x i =>
    show oExtract x i P NG C fr h ⟨dst, .extract x i, type, pos, after, guard⟩ K = _
    simp only [oExtract, evalF_eq NG fr h, ob_eq, aop]
    cases evalA NG fr h x with
    | none => rfl
    | some v =>
      cases v <;> try rfl
      rename_i a
      obtain ⟨vs⟩ := a
      simp only [Option.bind_some]
      show (nth vs i).bind _ = (vs[i]?).bind _
      rw [nth_eq]
  | build t ps =>
    show oBuild t ps P NG C fr h ⟨dst, .build t ps, type, pos, after, guard⟩ K = _
    simp only [oBuild, evalF_fun NG fr h]; rfl
  | pick c x y =>
    show oPick c x y P NG C fr h ⟨dst, .pick c x y, type, pos, after, guard⟩ K = _
    simp only [oPick, evalF_fun NG fr h]; rfl
  | buildSlice t l ps =>
    show oBuildSlice t l ps P NG C fr h ⟨dst, .buildSlice t l ps, type, pos, after, guard⟩ K = _
    simp only [oBuildSlice, evalF_fun NG fr h]; rfl
  | convert t u x =>
    show oConvert t u x P NG C fr h ⟨dst, .convert t u x, type, pos, after, guard⟩ K = _
    simp only [oConvert, evalF_fun NG fr h]; rfl
  | makeSlice t l c =>
    show oMakeSlice t l c P NG C fr h ⟨dst, .makeSlice t l c, type, pos, after, guard⟩ K = _
    simp only [oMakeSlice, evalF_fun NG fr h]; rfl
  | slice t x lo hi mx =>
    show oSlice t x lo hi mx P NG C fr h ⟨dst, .slice t x lo hi mx, type, pos, after, guard⟩ K = _
    simp only [oSlice, evalF_fun NG fr h]; rfl
  | lookup t x k co =>
    show oLookup t x k co P NG C fr h ⟨dst, .lookup t x k co, type, pos, after, guard⟩ K = _
    simp only [oLookup, evalF_fun NG fr h]; rfl
  | mapUpdate t x k y =>
    show oMapUpdate t x k y P NG C fr h ⟨dst, .mapUpdate t x k y, type, pos, after, guard⟩ K = _
    simp only [oMapUpdate, evalF_fun NG fr h]; rfl
  | range t x =>
    show oRange t x P NG C fr h ⟨dst, .range t x, type, pos, after, guard⟩ K = _
    simp only [oRange, evalF_fun NG fr h]; rfl
  | next x str =>
    show oNext x str P NG C fr h ⟨dst, .next x str, type, pos, after, guard⟩ K = _
    simp only [oNext, evalF_fun NG fr h]; rfl
  | entry x =>
    show oEntry x P NG C fr h ⟨dst, .entry x, type, pos, after, guard⟩ K = _
    simp only [oEntry, evalF_fun NG fr h]; rfl
  | makeFunc f x y =>
    show oMakeFunc f x y P NG C fr h ⟨dst, .makeFunc f x y, type, pos, after, guard⟩ K = _
    cases f with
    | func f => simp only [oMakeFunc, evalF_fun NG fr h]; rfl
    | _ => exact oSlow_eq _ _ _ _ _ _ _
  | call c =>
    obtain ⟨callee, args, ats⟩ := c
    cases callee with
    | value f =>
      show oCallV f args P NG C fr h ⟨dst, .call ⟨.value f, args, ats⟩, type, pos, after, guard⟩ K = _
      simp only [oCallV, evalF_eq NG fr h, ob_eq, ob2_eq, evalLF_eq NG fr h, callMF_eq, aop]
      cases evalA NG fr h f <;> cases evalL (evalA NG fr h) args.toList <;> rfl
    | invoke r m =>
      show oSlow P NG C fr h ⟨dst, .call ⟨.invoke r m, args, ats⟩, type, pos, after, guard⟩ K = _
      exact oSlow_eq _ _ _ _ _ _ _
    | builtin b =>
      show oBuiltin b ⟨.builtin b, args, ats⟩ P NG C fr h ⟨dst, .call ⟨.builtin b, args, ats⟩, type, pos, after, guard⟩ K = _
      unfold oBuiltin
      split
      · unfold oLen
        split
        · rename_i x hx
          have hx' : args.toList = [x] := hx
          simp only [evalF_eq NG fr h, ob_eq, aop, hx', evalL, lenP]
          cases evalA NG fr h x with
          | none => rfl
          | some v =>
            simp only [Option.bind_some]
            cases (ats[0]?).bind P.underlying with
            | none => rfl
            | some d => cases d <;> rfl
        · exact oSlow_eq _ _ _ _ _ _ _
      · unfold oAppend
        split
        · rename_i x y hx
          have hx' : args.toList = [x, y] := hx
          simp only [evalF_eq NG fr h, ob_eq, ob2_eq, aop, hx', evalL, appP]
          cases evalA NG fr h x with
          | none => rfl
          | some s =>
            simp only [Option.bind_some]
            cases evalA NG fr h y with
            | none => rfl
            | some v =>
              simp only [Option.bind_some]
              cases (ats[0]?).bind (elemP P) <;> cases (ats[1]?).bind P.underlying <;> try rfl
              rename_i e d
              simp only []
              cases d <;> try rfl
              all_goals
                cases szP P e <;> cases bytesP P e <;> cases (zeroP P e).bind cellsL <;> try rfl
                rename_i n bs zs
                simp only []
                cases (Nat.blt 0 n && Nat.beq zs.length n && Nat.blt 0 bs && Nat.blt n KB) <;> rfl
        · exact oSlow_eq _ _ _ _ _ _ _
      · exact oSlow_eq _ _ _ _ _ _ _
  | _ => exact oSlow_eq _ _ _ _ _ _ _

/-- A value that must be a bool where its type is bool. -/
def typedF (P : Program) (t : TypeId) (K : Option Value → H → Option β) (rv : Option Value) (h : H) : Option β :=
  sn t fun t => Bool.rec (K rv h) (Option.rec (motive := fun _ => Option β) (K none h) (fun v => vE (fun b => K (some (.bool b)) h) (fun _ _ => none) (fun _ => none) (fun _ => none) (fun _ _ _ => none) (fun _ => none) (fun _ => none) (fun _ => none) v) rv) (isBoolT P t)
theorem typedF_eq (P : Program) (o : Oper) (K : Option Value → H → Option β) (rv : Option Value) (h : H) : typedF P o.type K rv h = typedK P o K rv h := by
  unfold typedF typedK
  rw [sn_eq]
  cases isBoolT P o.type with
  | false => rfl
  | true =>
    cases rv with
    | none => rfl
    | some v => cases v <;> rfl

def putF (fr : T Value) (dst : Option Tmp) (v : Option Value) : T Value := Option.rec (motive := fun _ => T Value) fr (fun d => tset fr d v) dst
theorem putF_eq (fr : T Value) (dst : Option Tmp) (v : Option Value) : putF fr dst v = putA fr dst v := by cases dst <;> first | rfl | exact tset_eq _ _ _

def gd (ops : Array Oper) (j : Nat) : Option Tmp := (ops[j]?).bind (·.dst)

/-- An operation, or none. -/
def opF (P : Program) (C : CF) (NG : Nat) (ops : Array Oper) (o : Oper) (next : T Value → H → Option β) (fr : T Value) (h : H) : Option β :=
  Option.rec (motive := fun _ => Option β) (aopF o.op P NG C fr h o (typedF P o.type fun rv h' => next (putF fr o.dst rv) h'))
    (fun g => Prod.rec (motive := fun _ => Option β) (fun j want =>
      ob (gd ops j) fun d => ob (tget fr d) fun v => vE
        (fun b => Bool.rec (Bool.rec (aopF o.op P NG C (tset fr d (some (.bool false))) h o (typedF P o.type fun rv h' => next (putF (tset fr d (some (.bool false))) o.dst rv) h')) (next (putF (tset fr d (some (.bool false))) o.dst (some undef)) h) want)
          (Bool.rec (next (putF (tset fr d (some (.bool true))) o.dst (some undef)) h) (aopF o.op P NG C (tset fr d (some (.bool true))) h o (typedF P o.type fun rv h' => next (putF (tset fr d (some (.bool true))) o.dst rv) h')) want) b)
        (fun _ _ => none) (fun _ => none) (fun _ => none) (fun _ _ _ => none) (fun _ => none) (fun _ => next (putF fr o.dst (some undef)) h) (fun _ => none) v) g) o.guard

def runOpsF (P : Program) (C : CF) (NG : Nat) (ops : Array Oper) (l : List Oper) : T Value → H → (T Value → H → Option β) → Option β :=
  List.rec (motive := fun _ => T Value → H → (T Value → H → Option β) → Option β) (fun fr h K => K fr h) (fun o _ ih fr h K => opF P C NG ops o (fun fr h => ih fr h K) fr h) l

theorem runOpsF_eq (P : Program) (C : CF) (NG : Nat) (ops : Array Oper) : ∀ (l : List Oper) (fr : T Value) (h : H) (K : T Value → H → Option β), runOpsF P C NG ops l fr h K = runOps P C NG ops l fr h K
  | [], fr, h, K => rfl
  | o :: rest, fr, h, K => by
    show opF P C NG ops o (fun fr h => runOpsF P C NG ops rest fr h K) fr h = _
    have ih := runOpsF_eq P C NG ops rest
    simp only [opF, runOps, aopF_eq, ih, putF_eq, tset_eq, tget_eq]
    have ht : ∀ (K : Option Value → H → Option β), typedF P o.type K = typedK P o K := fun K => funext fun rv => funext fun h => typedF_eq P o K rv h
    simp only [ht]
    cases hg : o.guard with
    | none => rfl
    | some g =>
      obtain ⟨j, want⟩ := g
      simp only [ob_eq]
      show ((ops[j]?).bind (·.dst)).bind _ = _
      cases (ops[j]?).bind (·.dst) with
      | none => rfl
      | some d =>
        simp only [Option.bind_some]
        cases fr.get d with
        | none => rfl
        | some v =>
          cases v <;> try rfl
          rename_i b
          cases b <;> cases want <;> rfl

/-! Regions that draw their order. -/
def isV (rv : Option Value) (v : Value) : Bool := Option.rec (motive := fun _ => Bool) false (fun u => same u v) rv
def recheckF (P : Program) (NG : Nat) (o : Oper) (fr : T Value) (h : H) (v : Value) : Bool :=
  isV (aopF o.op P NG (fun _ _ _ => none) fr h o fun rv _ => rv) v
theorem recheckF_eq (P : Program) (NG : Nat) (o : Oper) (fr : T Value) (h : H) (v : Value) : recheckF P NG o fr h v = recheck P NG o fr h v := by
  unfold recheckF recheck isV
  rw [aopF_eq]
  cases aop P (fun _ _ _ => none) (evalA NG fr h) h o (fun rv _ => rv) <;> rfl

abbrev DS := List (Nat × H)
abbrev DL := List (Nat × Oper × T Value × Value)
def lsOK (P : Program) (NG : Nat) (bef : List Nat) (i : Nat) (h' : H) (ls : DL) : Bool :=
  List.rec (motive := fun _ => Bool) true (fun x _ ih => Prod.rec (motive := fun _ => Bool) (fun j y => Prod.rec (motive := fun _ => Bool) (fun oj z => Prod.rec (motive := fun _ => Bool) (fun frj vj =>
    Bool.rec (Bool.rec false ih (recheckF P NG oj frj h' vj)) ih (Nat.testBit (bef.getD i 0) j)) z) y) x) ls
theorem lsOK_eq (P : Program) (NG : Nat) (bef : List Nat) (i : Nat) (h' : H) : ∀ (ls : DL), lsOK P NG bef i h' ls = ls.all (fun (j, oj, frj, vj) => Nat.testBit (bef.getD i 0) j || recheck P NG oj frj h' vj)
  | [] => rfl
  | (j, oj, frj, vj) :: ls => by
    show (Bool.rec (Bool.rec false (lsOK P NG bef i h' ls) (recheckF P NG oj frj h' vj)) (lsOK P NG bef i h' ls) (Nat.testBit (bef.getD i 0) j) : Bool) = _
    rw [List.all_cons, ← lsOK_eq P NG bef i h' ls, recheckF_eq]
    simp only []
    cases Nat.testBit (bef.getD i 0) j <;> cases recheck P NG oj frj h' vj <;> rfl
def esOKF (P : Program) (NG : Nat) (bef : List Nat) (i : Nat) (o : Oper) (fr : T Value) (v : Value) (es : DS) : Bool :=
  List.rec (motive := fun _ => Bool) true (fun x _ ih => Prod.rec (motive := fun _ => Bool) (fun p hp => Bool.rec (Bool.rec false ih (recheckF P NG o fr hp v)) ih (Nat.testBit (bef.getD i 0) p)) x) es
theorem esOKF_eq (P : Program) (NG : Nat) (bef : List Nat) (i : Nat) (o : Oper) (fr : T Value) (v : Value) : ∀ (es : DS), esOKF P NG bef i o fr v es = es.all (fun (p, hp) => Nat.testBit (bef.getD i 0) p || recheck P NG o fr hp v)
  | [] => rfl
  | (p, hp) :: es => by
    show (Bool.rec (Bool.rec false (esOKF P NG bef i o fr v es) (recheckF P NG o fr hp v)) (esOKF P NG bef i o fr v es) (Nat.testBit (bef.getD i 0) p) : Bool) = _
    rw [List.all_cons, ← esOKF_eq P NG bef i o fr v es, recheckF_eq]
    simp only []
    cases Nat.testBit (bef.getD i 0) p <;> cases recheck P NG o fr hp v <;> rfl

abbrev DN (β : Type) := T Value → H → DS → DL → Option β
def dEffect (P : Program) (C : CF) (NG : Nat) (bef : List Nat) (o : Oper) (i : Nat) (next : DN β) (fr : T Value) (h : H) (es : DS) (ls : DL) : Option β :=
  aopF o.op P NG C fr h o (typedF P o.type fun rv h' => Bool.rec none (next (putF fr o.dst rv) h' ((i, h) :: es) ls) (lsOK P NG bef i h' ls))
def dReads (P : Program) (C : CF) (NG : Nat) (bef : List Nat) (o : Oper) (i : Nat) (next : DN β) (fr : T Value) (h : H) (es : DS) (ls : DL) : Option β :=
  aopF o.op P NG C fr h o (typedF P o.type fun rv h' => ob rv fun v => Bool.rec none (next (putF fr o.dst rv) h' es ((i, o, fr, v) :: ls)) (esOKF P NG bef i o fr v es))
def dPure (P : Program) (C : CF) (NG : Nat) (o : Oper) (next : DN β) (fr : T Value) (h : H) (es : DS) (ls : DL) : Option β :=
  aopF o.op P NG C fr h o (typedF P o.type fun rv h' => next (putF fr o.dst rv) h' es ls)
def dRun (P : Program) (C : CF) (NG : Nat) (bef : List Nat) (o : Oper) (i : Nat) (next : DN β) (fr : T Value) (h : H) (es : DS) (ls : DL) : Option β :=
  ob (kindOf P o) fun k => OK.rec (motive := fun _ => Option β) (dPure P C NG o next fr h es ls) (dReads P C NG bef o i next fr h es ls) (dPure P C NG o next fr h es ls) (dEffect P C NG bef o i next fr h es ls) k
def dOp (P : Program) (C : CF) (NG : Nat) (ops : Array Oper) (bef : List Nat) (o : Oper) (i : Nat) (next : DN β) (fr : T Value) (h : H) (es : DS) (ls : DL) : Option β :=
  Option.rec (motive := fun _ => Option β) (dRun P C NG bef o i next fr h es ls)
    (fun g => Prod.rec (motive := fun _ => Option β) (fun j want =>
      ob (gd ops j) fun d => ob (tget fr d) fun v => vE
        (fun b => Bool.rec (Bool.rec (dRun P C NG bef o i next (tset fr d (some (.bool false))) h es ls) (next (putF (tset fr d (some (.bool false))) o.dst (some undef)) h es ls) want)
          (Bool.rec (next (putF (tset fr d (some (.bool true))) o.dst (some undef)) h es ls) (dRun P C NG bef o i next (tset fr d (some (.bool true))) h es ls) want) b)
        (fun _ _ => none) (fun _ => none) (fun _ => none) (fun _ _ _ => none) (fun _ => none) (fun _ => next (putF fr o.dst (some undef)) h es ls) (fun _ => none) v) g) o.guard
def runDF (P : Program) (C : CF) (NG : Nat) (ops : Array Oper) (bef : List Nat) (l : List Oper) : Nat → T Value → H → DS → DL → (T Value → H → Option β) → Option β :=
  List.rec (motive := fun _ => Nat → T Value → H → DS → DL → (T Value → H → Option β) → Option β) (fun _ fr h _ _ K => K fr h)
    (fun o _ ih i fr h es ls K => dOp P C NG ops bef o i (fun fr h es ls => ih (Nat.succ i) fr h es ls K) fr h es ls) l

theorem runDF_eq (P : Program) (C : CF) (NG : Nat) (ops : Array Oper) (bef : List Nat) : ∀ (l : List Oper) (i : Nat) (fr : T Value) (h : H) (es : DS) (ls : DL) (K : T Value → H → Option β),
    runDF P C NG ops bef l i fr h es ls K = runD P C NG ops bef i l fr h es ls K
  | [], i, fr, h, es, ls, K => rfl
  | o :: rest, i, fr, h, es, ls, K => by
    show dOp P C NG ops bef o i (fun fr h es ls => runDF P C NG ops bef rest (i + 1) fr h es ls K) fr h es ls = _
    have ih : (fun fr h es ls => runDF P C NG ops bef rest (i + 1) fr h es ls K) = fun fr h es ls => runD P C NG ops bef (i + 1) rest fr h es ls K := by
      funext fr h es ls
      exact runDF_eq P C NG ops bef rest (i + 1) fr h es ls K
    rw [ih]
    have ht : ∀ (K : Option Value → H → Option β), typedF P o.type K = typedK P o K := fun K => funext fun rv => funext fun h => typedF_eq P o K rv h
    have hrun : ∀ (fr : T Value), dRun P C NG bef o i (fun fr h es ls => runD P C NG ops bef (i + 1) rest fr h es ls K) fr h es ls =
        (match kindOf P o with
        | some .effect => aop P C (evalA NG fr h) h o <| typedK P o fun rv h' =>
            bif ls.all (fun (j, oj, frj, vj) => Nat.testBit (bef.getD i 0) j || recheck P NG oj frj h' vj) then
              runD P C NG ops bef (i + 1) rest (putA fr o.dst rv) h' ((i, h) :: es) ls K else none
        | some .reads => aop P C (evalA NG fr h) h o <| typedK P o fun rv h' =>
            (match rv with
             | some v => bif es.all (fun (p, hp) => Nat.testBit (bef.getD i 0) p || recheck P NG o fr hp v) then
                runD P C NG ops bef (i + 1) rest (putA fr o.dst rv) h' es ((i, o, fr, v) :: ls) K else none
             | none => none)
        | some _ => aop P C (evalA NG fr h) h o <| typedK P o fun rv h' => runD P C NG ops bef (i + 1) rest (putA fr o.dst rv) h' es ls K
        | none => none) := by
      intro fr
      simp only [dRun, dEffect, dReads, dPure, ob_eq, aopF_eq, ht, putF_eq, lsOK_eq, esOKF_eq]
      cases kindOf P o with
      | none => rfl
      | some k =>
        cases k with
        | pure => rfl
        | makes => rfl
        | reads =>
          simp only [Option.bind_some]
          congr 2
          funext rv h'
          cases rv with
          | none => rfl
          | some v =>
            simp only [Option.bind_some]
            cases es.all (fun (p, hp) => Nat.testBit (bef.getD i 0) p || recheck P NG o fr hp v) <;> rfl
        | effect =>
          simp only [Option.bind_some]
          congr 2
          funext rv h'
          cases ls.all (fun (j, oj, frj, vj) => Nat.testBit (bef.getD i 0) j || recheck P NG oj frj h' vj) <;> rfl
    simp only [dOp, hrun, putF_eq, tset_eq, tget_eq, runD]
    cases hg : o.guard with
    | none => rfl
    | some g =>
      obtain ⟨j, want⟩ := g
      simp only [ob_eq]
      show ((ops[j]?).bind (·.dst)).bind _ = _
      cases (ops[j]?).bind (·.dst) with
      | none => rfl
      | some d =>
        simp only [Option.bind_some]
        cases fr.get d with
        | none => rfl
        | some v =>
          cases v <;> try rfl
          rename_i b
          cases b <;> cases want <;> rfl

/-- Do all regions of code that draw their order stand the test? -/
def drs (P : Program) : Code → Bool
  | .region _ ops draw => !draw || drawOK P ops (before ops)
  | .seq a b => drs P a && drs P b
  | .cond _ a b => drs P a && drs P b
  | .block _ b => drs P b
  | .loop b => drs P b
  | _ => true

/-! Code. -/
abbrev Out := Option (Ex × T Value × H)
abbrev EX := T Value → H → Out

def xSeq (x y : EX) : EX := fun fr h => Option.rec (motive := fun _ => Out) none (fun r => Prod.rec (motive := fun _ => Out) (fun ex p => Prod.rec (motive := fun _ => Out) (fun fr' h' =>
  Ex.rec (motive := fun _ => Out) (y fr' h') (fun j => some (.exit j, fr', h')) (some (.ret, fr', h')) ex) p) r) (x fr h)
def xBlock (id : Nat) (x : EX) : EX := fun fr h => Option.rec (motive := fun _ => Out) none (fun r => Prod.rec (motive := fun _ => Out) (fun ex p => Prod.rec (motive := fun _ => Out) (fun fr' h' =>
  Ex.rec (motive := fun _ => Out) (some (.normal, fr', h')) (fun j => Bool.rec (some (.exit j, fr', h')) (some (.normal, fr', h')) (Nat.beq j id)) (some (.ret, fr', h')) ex) p) r) (x fr h)
def xCond (NG : Nat) (c : Operand) (x y : EX) : EX := fun fr h => ob (evalF NG fr c) fun v => vE (fun b => Bool.rec (y fr h) (x fr h) b) (fun _ _ => none) (fun _ => none) (fun _ => none) (fun _ _ _ => none) (fun _ => none) (fun _ => none) (fun _ => none) v
def xLoop (x : EX) (n : Nat) : EX := Nat.rec (motive := fun _ => EX) (fun _ _ => none) (fun _ ih => xSeq x ih) n
def xRegion (P : Program) (C : CF) (NG nt : Nat) (d : Bool) (ops : Array Oper) (draw : Bool) : EX := fun fr h =>
  Bool.rec none (Bool.rec (runOpsF P C NG ops ops.toList fr h fun fr h => some (.normal, fr, h))
    (Bool.rec none (runDF P C NG ops (before ops) ops.toList 0 fr h [] [] fun fr h => some (.normal, fr, h)) (Bool.rec true (drawOK P ops (before ops)) d)) draw) (dstOK nt ops)

def xRange (P : Program) (C : CF) (NG nt : Nat) (g : Operand) (ps : Array Tmp) (assign body : Code) : EX := fun fr h =>
  ob (evalF NG fr g) fun gv => Bool.rec none (ob2 (callVF C gv [.func (.yield h.next) #[] #[]] (hpush h (.loop nt fr ps.toList assign body .ready))) fun _ h2 =>
    match hget h2 h.next with
    | some (.loop nt' fr' ps' as' bd' st) => (match leftEx st with
      | some ex => some (ex, fr, hput h2 h.next (.loop nt' fr' ps' as' bd' .exhausted))
      | none => none)
    | _ => none) (isFn P gv)

def execF (P : Program) (C : CF) (L NG nt : Nat) (d : Bool) (c : Code) : EX :=
  Code.rec (motive := fun _ => EX) (fun fr h => some (.normal, fr, h)) (fun _ ops draw => xRegion P C NG nt d ops draw) (fun _ _ x y => xSeq x y) (fun c _ _ x y => xCond NG c x y) (fun id _ x => xBlock id x) (fun _ x => xLoop x L)
    (fun g ps as bd _ _ => xRange P C NG nt g ps as bd) (fun id fr h => some (.exit id, fr, h)) (fun _ _ _ _ => none) (fun _ fr h => some (.normal, fr, h)) (fun _ _ _ => none) (fun fr h => some (.ret, fr, h)) (fun _ _ _ => none) c

theorem xLoop_eq (x : EX) (f : T Value → H → Out) (hx : ∀ fr h, x fr h = f fr h) : ∀ (n : Nat) (fr : T Value) (h : H), xLoop x n fr h = loopN f n fr h
  | 0, fr, h => rfl
  | n + 1, fr, h => by
    show xSeq x (xLoop x n) fr h = _
    simp only [xSeq, loopN, hx]
    cases f fr h with
    | none => rfl
    | some r =>
      obtain ⟨ex, fr', h'⟩ := r
      cases ex <;> first | rfl | exact xLoop_eq x f hx n fr' h'

theorem nr2 {d a b : Bool} (h : d = true ∨ (a && b) = true) : (d = true ∨ a = true) ∧ (d = true ∨ b = true) := by
  rcases h with h | h
  · exact ⟨.inl h, .inl h⟩
  · simp only [Bool.and_eq_true] at h; exact ⟨.inr h.1, .inr h.2⟩

theorem execF_eq (P : Program) (C : CF) (L NG nt : Nat) (RR : List Tmp) {d : Bool} : ∀ (c : Code), (d = true ∨ drs P c = true) → ∀ (out : List Tmp) (env : List (Nat × List Tmp)) (fr : T Value) (h : H), execF P C L NG nt d c fr h = exec P C L NG nt RR false c out env fr h := by
  intro c
  induction c with
  | region id ops draw =>
    intro hd out env fr h
    show xRegion P C NG nt d ops draw fr h = _
    simp only [xRegion, exec, runOpsF_eq, runDF_eq, restrict, cond_false]
    cases dstOK nt ops with
    | false => rfl
    | true =>
      cases draw with
      | false => rfl
      | true =>
        have e : (Bool.rec true (drawOK P ops (before ops)) d : Bool) = drawOK P ops (before ops) := by
          cases d with
          | true => rfl
          | false =>
            have := hd.resolve_left (by simp)
            simp only [drs, Bool.not_true, Bool.false_or] at this
            rw [this]
        simp only [cond_true, e]; cases drawOK P ops (before ops) <;> rfl
  | seq a b iha ihb =>
    intro hd out env fr h
    have h2 := nr2 hd
    show xSeq (execF P C L NG nt d a) (execF P C L NG nt d b) fr h = _
    simp only [xSeq, exec]
    rw [iha h2.1 (live RR b out env) env fr h]
    cases exec P C L NG nt RR false a (live RR b out env) env fr h with
    | none => rfl
    | some r =>
      obtain ⟨ex, fr', h'⟩ := r
      cases ex <;> first | rfl | exact ihb h2.2 out env fr' h'
  | cond c a b iha ihb =>
    intro hd out env fr h
    have h2 := nr2 hd
    show xCond NG c (execF P C L NG nt d a) (execF P C L NG nt d b) fr h = _
    simp only [xCond, exec, evalF_eq NG fr h, ob_eq]
    cases evalA NG fr h c with
    | none => rfl
    | some v =>
      cases v <;> try rfl
      rename_i t
      simp only [Option.bind_some]
      cases t
      · exact ihb h2.2 out env fr h
      · exact iha h2.1 out env fr h
  | block id b ih =>
    intro hd out env fr h
    show xBlock id (execF P C L NG nt d b) fr h = _
    simp only [xBlock, exec]
    rw [ih hd out ((id, out) :: env) fr h]
    cases exec P C L NG nt RR false b out ((id, out) :: env) fr h with
    | none => rfl
    | some r =>
      obtain ⟨ex, fr', h'⟩ := r
      cases ex <;> try rfl
      rename_i j
      simp only []
      cases Nat.beq j id <;> rfl
  | loop b ih =>
    intro hd out env fr h
    show xLoop (execF P C L NG nt d b) L fr h = _
    exact xLoop_eq _ _ (fun fr h => ih hd (live RR b [] env) env fr h) L fr h
  | rangeFunc g ps as bd iha ihb =>
    intro hd out env fr h
    show xRange P C NG nt g ps as bd fr h = _
    simp only [xRange, exec, evalF_eq NG fr h, ob_eq, ob2_eq, callVF_eq, hpush_eq, hget_eq, hput_eq]
    cases evalA NG fr h g with
    | none => rfl
    | some gv =>
      simp only [Option.bind_some]
      cases isFn P gv with
      | false => rfl
      | true =>
        simp only [cond_true]
        cases callV C gv [.func (.yield h.next) #[] #[]] (h.push (.loop nt fr ps.toList as bd .ready)) <;> rfl
  | _ => intros; rfl

def argsF (l : List Value) : Nat → T Value := List.rec (motive := fun _ => Nat → T Value) (fun _ => .nil) (fun v _ ih i => tset (ih (Nat.succ i)) i (some v)) l
theorem argsF_eq : ∀ (l : List Value) (i : Nat), argsF l i = argsA i l
  | [], i => rfl
  | v :: l, i => by show tset (argsF l (i + 1)) i (some v) = _; rw [tset_eq, argsF_eq l]; rfl

def resF (P : Program) (fr : T Value) (h : H) (l : List ResultVar) : (List Value → Option β) → Option β :=
  List.rec (motive := fun _ => (List Value → Option β) → Option β) (fun K => K []) (fun r _ ih K => ResultVar.rec (motive := fun _ => Option β) (fun t => ob (tget fr t) fun v => ih fun vs => K (v :: vs))
    (fun t ty => ob (tget fr t) fun p => ob (aggP P ty) fun g => ob (szP P ty) fun n => ob (loadF g n p h) fun v => ih fun vs => K (v :: vs)) r) l
theorem resF_eq (P : Program) (fr : T Value) (h : H) : ∀ (l : List ResultVar) (K : List Value → Option β), resF P fr h l K = (resA P fr h l).bind K
  | [], K => rfl
  | .tmp t :: l, K => by
    show ob (tget fr t) (fun v => resF P fr h l fun vs => K (v :: vs)) = _
    simp only [tget_eq, ob_eq, resA]
    cases fr.get t with
    | none => rfl
    | some v => simp only [Option.bind_some]; rw [resF_eq P fr h l]; cases resA P fr h l <;> rfl
  | .cell t ty :: l, K => by
    show ob (tget fr t) (fun p => ob (aggP P ty) fun g => ob (szP P ty) fun n => ob (loadF g n p h) fun v => resF P fr h l fun vs => K (v :: vs)) = _
    simp only [tget_eq, ob_eq, resA, loadF_eq]
    cases fr.get t <;> cases aggP P ty <;> cases szP P ty <;> try rfl
    rename_i p g n
    simp only [Option.bind_some]
    cases A.load g n p h with
    | none => rfl
    | some v => simp only [Option.bind_some]; rw [resF_eq P fr h l]; cases resA P fr h l <;> rfl
end

def leF (l : List Value) (n : Nat) : Bool := List.rec (motive := fun _ => Nat → Bool) (fun _ => true) (fun _ _ ih n => Nat.rec false (fun p _ => ih p) n) l n
theorem leF_eq : ∀ (l : List Value) (n : Nat), leF l n = Nat.ble l.length n
  | [], n => by
    show true = _
    cases n <;> rfl
  | a :: l, 0 => rfl
  | a :: l, n + 1 => by show leF l n = _; rw [leF_eq l n]; rfl

abbrev Res := Option (Value × H)
def doneF (P : Program) (fn : Func) (r : Out) : Res :=
  Option.rec (motive := fun _ => Res) none (fun r => Prod.rec (motive := fun _ => Res) (fun ex p => Prod.rec (motive := fun _ => Res) (fun fr' h' =>
    Ex.rec (motive := fun _ => Res) (resF P fr' h' fn.results.toList fun vs => some (packA vs, h')) (fun _ => none) (resF P fr' h' fn.results.toList fun vs => some (packA vs, h')) ex) p) r) r

def bodyF (P : Program) (C : CF) (L NG : Nat) (d : Bool) (fn : Func) (args : List Value) (h : H) : Res :=
  Option.rec (motive := fun _ => Res) (externA (extK P fn) args h) (fun c => Bool.rec none (doneF P fn (execF P C L NG fn.ntmps d c (argsF args 0) h)) (leF args fn.ntmps)) fn.body

theorem bodyF_eq (P : Program) (C : CF) (L NG : Nat) {d : Bool} (fn : Func) (hd : d = true ∨ ∀ c, fn.body = some c → drs P c = true) (args : List Value) (h : H) : bodyF P C L NG d fn args h = callBody P C L NG false fn args h := by
  unfold bodyF callBody
  rw [leF_eq]
  cases hb : fn.body with
  | none => rfl
  | some c =>
    simp only []
    cases Nat.ble args.length fn.ntmps with
    | false => rfl
    | true =>
      simp only [cond_true, doneF, execF_eq P C L NG fn.ntmps (resRegs fn) c (hd.imp id fun h => h c hb) (resRegs fn) [], argsF_eq]
      cases exec P C L NG fn.ntmps (resRegs fn) false c (resRegs fn) [] (argsA 0 args) h with
      | none => rfl
      | some r =>
        obtain ⟨ex, fr', h'⟩ := r
        cases ex with
        | exit j => rfl
        | normal => show resF P fr' h' fn.results.toList _ = _; rw [resF_eq]; simp only []; cases resA P fr' h' fn.results.toList <;> rfl
        | ret => show resF P fr' h' fn.results.toList _ = _; rw [resF_eq]; simp only []; cases resA P fr' h' fn.results.toList <;> rfl

def orDF (a : Res) (b : Unit → Res) : Res := Option.rec (motive := fun _ => Res) (b ()) (fun r => some r) a
theorem orDF_eq (a b : Res) : orDF a (fun _ => b) = orD a b := by cases a <;> rfl

/-- Functions whose regions are known to stand the test. -/
def drsAll (P : Program) (fs : List Nat) : Bool := fs.all fun (f : Nat) => match P.funcs[f]? with | some fn => (match fn.body with | some c => drs P c | none => true) | none => true

def callF (P : Program) (NG : Nat) (fs : List Nat) (n : Nat) : CF :=
  Nat.rec (motive := fun _ => CF) (fun _ _ _ => none) (fun n ih f args h => Option.rec (motive := fun _ => Res) (Bool.rec none (yArg args fun id vs => roundA (fun nt c _ fr h => execF P ih n NG nt true c fr h) id vs h) (Nat.beq f 1099511627776))
    (fun fn => orDF (bodyF P ih n NG (!fs.any (Nat.beq f)) fn args h) (fun _ => callD P ih n NG fn args h)) (P.funcs[f]?)) n
theorem callF_eq (P : Program) (NG : Nat) {fs : List Nat} (hfs : drsAll P fs = true) : ∀ (n : Nat), callF P NG fs n = callA P NG false n
  | 0 => rfl
  | n + 1 => by
    funext f args h
    show Option.rec (motive := fun _ => Res) (Bool.rec none (yArg args fun id vs => roundA (fun nt c _ fr h => execF P (callF P NG fs n) n NG nt true c fr h) id vs h) (Nat.beq f 1099511627776)) (fun fn => orDF (bodyF P (callF P NG fs n) n NG (!fs.any (Nat.beq f)) fn args h) (fun _ => callD P (callF P NG fs n) n NG fn args h)) (P.funcs[f]?) = _
    rw [callF_eq P NG hfs n]
    simp only [callA]
    cases hf : P.funcs[f]? with
    | some fn =>
      show orDF _ _ = orD _ _
      rw [orDF_eq]
      refine congrArg (fun q => orD q _) (bodyF_eq _ _ _ _ fn ?_ args h)
      cases hq : fs.any (Nat.beq f) with
      | false => exact .inl rfl
      | true =>
        refine .inr fun c hc => ?_
        obtain ⟨g, hg, hgf⟩ := List.any_eq_true.1 hq
        have hgf := beq_iff.1 hgf
        subst hgf
        have := List.all_eq_true.1 hfs _ hg
        simp only [hf, hc] at this
        exact this
    | none =>
      have e : (fun (nt : Nat) (c : Code) (_ : List Tmp) (fr : T Value) (h : H) => execF P (callA P NG false n) n NG nt true c fr h) = fun nt c out fr h => exec P (callA P NG false n) n NG nt [] false c out [] fr h := by
        funext nt c out fr h
        exact execF_eq P (callA P NG false n) n NG nt [] c (.inl rfl) out [] fr h
      rw [e]
      simp only []
      cases Nat.beq f 1099511627776 <;> rfl
end
end Go.AM.F
