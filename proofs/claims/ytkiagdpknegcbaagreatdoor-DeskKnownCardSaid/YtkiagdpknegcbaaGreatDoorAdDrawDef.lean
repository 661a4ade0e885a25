/-
  An abstract machine for the model: a region that draws its order: run in the text's order, with checks that any order does the same (definitions).
-/
import Derived.Test.YtkiagdpknegcbaaGreatDoorAdExec
namespace Go.AM
open Go

/-! Are two values the same? -/
mutual
def same : Value → Value → Bool
  | .bool a, .bool b => bif a then b else (bif b then false else true)
  | .int k a, .int j b => k == j && a == b
  | .string a, .string b => a.data.toList == b.data.toList
  | .pointer none, .pointer none => true
  | .pointer (some ⟨a, b, none⟩), .pointer (some ⟨c, d, none⟩) => Nat.beq a c && Nat.beq b d
  | .slice none l c, .slice none m d => Nat.beq l m && Nat.beq c d
  | .slice (some ⟨a, b, none⟩) l c, .slice (some ⟨e, f, none⟩) m d => Nat.beq a e && Nat.beq b f && Nat.beq l m && Nat.beq c d
  | .map none, .map none => true
  | .map (some a), .map (some b) => Nat.beq a b
  | .func (.func f) a b, .func (.func g) c d => Nat.beq f g && sameA a c && sameA b d
  | .nilFunc, .nilFunc => true
  | .nilIface, .nilIface => true
  | .iface t v, .iface u w => Nat.beq t u && same v w
  | .agg a, .agg b => sameA a b
  | .tuple a, .tuple b => sameA a b
  | _, _ => false
def sameA : Array Value → Array Value → Bool
  | ⟨a⟩, ⟨b⟩ => sameL a b
def sameL : List Value → List Value → Bool
  | [], [] => true
  | a :: r, b :: s => same a b && sameL r s
  | _, _ => false
end

mutual
theorem same_eq : ∀ (a b : Value), same a b = true → a = b
  | .bool a, b, h => by
    cases b with
    | bool b => cases a <;> cases b <;> simp_all [same]
    | _ => simp [same] at h
  | .int k a, b, h => by
    cases b with
    | int j b => simp only [same, Bool.and_eq_true, beq_iff_eq] at h; rw [h.1, h.2]
    | _ => simp [same] at h
  | .string a, b, h => by
    cases b with
    | string b => simp only [same, beq_iff_eq] at h; rw [bytes_ext h]
    | _ => simp [same] at h
  | .pointer none, b, h => by
    cases b with
    | pointer b => cases b with
      | none => rfl
      | some b => simp [same] at h
    | _ => simp [same] at h
  | .pointer (some ⟨a, o, none⟩), b, h => by
    cases b with
    | pointer b => cases b with
      | none => simp [same] at h
      | some b =>
        obtain ⟨c, d, s⟩ := b
        cases s with
        | none => simp only [same, Bool.and_eq_true, beq_iff] at h; rw [h.1, h.2]
        | some s => simp [same] at h
    | _ => simp [same] at h
  | .pointer (some ⟨a, o, some s⟩), b, h => by simp [same] at h
  | .slice none l c, b, h => by
    cases b with
    | slice b m d => cases b with
      | none => simp only [same, Bool.and_eq_true, beq_iff] at h; rw [h.1, h.2]
      | some b => simp [same] at h
    | _ => simp [same] at h
  | .slice (some ⟨a, o, none⟩) l c, b, h => by
    cases b with
    | slice b m d => cases b with
      | none => simp [same] at h
      | some b =>
        obtain ⟨e, f, s⟩ := b
        cases s with
        | none => simp only [same, Bool.and_eq_true, beq_iff] at h; rw [h.1.1.1, h.1.1.2, h.1.2, h.2]
        | some s => simp [same] at h
    | _ => simp [same] at h
  | .slice (some ⟨a, o, some s⟩) l c, b, h => by simp [same] at h
  | .map none, b, h => by
    cases b with
    | map b => cases b with
      | none => rfl
      | some b => simp [same] at h
    | _ => simp [same] at h
  | .map (some a), b, h => by
    cases b with
    | map b => cases b with
      | none => simp [same] at h
      | some b => simp only [same, beq_iff] at h; rw [h]
    | _ => simp [same] at h
  | .func (.func f) a c, b, h => by
    cases b with
    | func g p q =>
      cases g with
      | func g => simp only [same, Bool.and_eq_true, beq_iff] at h; rw [h.1.1, sameA_eq a p h.1.2, sameA_eq c q h.2]
      | _ => simp [same] at h
    | _ => simp [same] at h
  | .func (.method _) _ _, b, h => by simp [same] at h
  | .func (.methodOf _ _) _ _, b, h => by simp [same] at h
  | .func (.via _ _ _ _) _ _, b, h => by simp [same] at h
  | .func (.yield _) _ _, b, h => by simp [same] at h
  | .nilFunc, b, h => by cases b <;> simp_all [same]
  | .nilIface, b, h => by cases b <;> simp_all [same]
  | .iface t v, b, h => by
    cases b with
    | iface u x => simp only [same, Bool.and_eq_true, beq_iff] at h; rw [h.1, same_eq v x h.2]
    | _ => simp [same] at h
  | .agg a, b, h => by
    cases b with
    | agg b => simp only [same] at h; rw [sameA_eq a b h]
    | _ => simp [same] at h
  | .tuple a, b, h => by
    cases b with
    | tuple b => simp only [same] at h; rw [sameA_eq a b h]
    | _ => simp [same] at h
  | .float _ _, b, h => by simp [same] at h
  | .complex _ _ _, b, h => by simp [same] at h
  | .chan _, b, h => by simp [same] at h
theorem sameA_eq : ∀ (a b : Array Value), sameA a b = true → a = b
  | ⟨a⟩, ⟨b⟩, h => by simp only [sameA] at h; rw [sameL_eq a b h]
theorem sameL_eq : ∀ (a b : List Value), sameL a b = true → a = b
  | [], [], _ => rfl
  | [], _ :: _, h => by simp [sameL] at h
  | _ :: _, [], h => by simp [sameL] at h
  | a :: r, b :: s, h => by
    simp only [sameL, Bool.and_eq_true] at h
    rw [same_eq a b h.1, sameL_eq r s h.2]
end

/-! Kinds of operations. -/
inductive OK where
  | pure | reads | makes | effect
  deriving DecidableEq

def kindOf (P : Program) (o : Oper) : Option OK :=
  match o.op with
  | .move _ | .assign _ | .pick .. | .build .. | .nilCheck _ | .binOp .. | .unOp .. | .makeFunc .. | .fieldAddr .. | .field .. | .indexAddr .. | .index .. | .extract .. => some .pure
  | .slice t .. => (match P.underlying t with | some .string => some .pure | _ => some .reads)
  | .load .. => some .reads
  | .lookup .. => some .reads
  | .alloc _ | .box .. | .buildSlice .. | .makeSlice .. | .makeMap .. => some .makes
  | .store .. => some .effect
  | .mapUpdate .. | .range .. | .next .. => some .effect
  | .call c => match c.callee with
    | .value _ => some .effect
    | .builtin .append | .builtin .copy | .builtin .clear | .builtin .delete | .builtin .unsafeString => some .effect
    | .builtin .len => (match (c.argTypes[0]?).bind P.underlying with | some (.map _ _) => some .reads | _ => some .pure)
    | .builtin .min | .builtin .max | .builtin .cap | .builtin .unsafeSliceData => some .pure
    | _ => none
  | .convert s d _ => (match P.underlying s, P.underlying d with | some (.int _), some (.int _) => some .pure | _, _ => some .effect)
  | _ => none

def before (ops : Array Oper) : List Nat := (Region.before ops).toList

def dstIs (p : Oper) (d : Tmp) : Bool := match p.dst with | some e => Nat.beq d e | none => false

/-- Where what is written in the region is ordered against whoever else names it. -/
def regsOK (ops : Array Oper) (bef : List Nat) : Bool :=
  let l := ops.toList.zipIdx
  l.all fun (o, i) =>
    match o.dst with
    | none => true
    | some d => l.all fun (p, j) =>
      Nat.beq i j || !((tmpsOf p ops).any (Nat.beq d) || dstIs p d) ||
        Nat.testBit (bef.getD (max i j) 0) (min i j)

/-- The operations with effects stand in one row; edges and guards lead back. -/
def drawOK (P : Program) (ops : Array Oper) (bef : List Nat) : Bool :=
  let l := ops.toList.zipIdx
  (l.all fun (o, i) => (kindOf P o).isSome && o.after.toList.all (fun e => Nat.blt e.on i || !Region.binds .any e) &&
    (match o.guard with
     | none => true
     | some (j, _) => Nat.blt j i && Nat.testBit (bef.getD i 0) j)) &&
  (l.all fun (o, i) => l.all fun (p, j) => !(kindOf P o == some .effect && kindOf P p == some .effect && Nat.blt i j) || Nat.testBit (bef.getD j 0) i) &&
  regsOK ops bef

/-- Does an operation that reads come to v at that heap, too? -/
def recheck (P : Program) (NG : Nat) (o : Oper) (fr : T Value) (h : H) (v : Value) : Bool :=
  match aop P (fun _ _ _ => none) (evalA NG fr h) h o (fun rv _ => rv) with
  | some u => same u v
  | none => false

def runD {β : Type} (P : Program) (C : CF) (NG : Nat) (ops : Array Oper) (bef : List Nat) : Nat → List Oper → T Value → H → List (Nat × H) → List (Nat × Oper × T Value × Value) → (T Value → H → Option β) → Option β
  | _, [], fr, h, _, _, K => K fr h
  | i, o :: rest, fr, h, es, ls, K =>
    let run (fr : T Value) : Option β :=
      match kindOf P o with
      | some .effect => aop P C (evalA NG fr h) h o <| typedK P o fun rv h' =>
          bif ls.all (fun (j, oj, frj, vj) => Nat.testBit (bef.getD i 0) j || recheck P NG oj frj h' vj) then
            runD P C NG ops bef (i + 1) rest (putA fr o.dst rv) h' ((i, h) :: es) ls K else none
      | some .reads => aop P C (evalA NG fr h) h o <| typedK P o fun rv h' =>
          (match rv with
           | some v => bif es.all (fun (p, hp) => Nat.testBit (bef.getD i 0) p || recheck P NG o fr hp v) then
              runD P C NG ops bef (i + 1) rest (putA fr o.dst rv) h' es ((i, o, fr, v) :: ls) K else none
           | none => none)
      | some _ => aop P C (evalA NG fr h) h o <| typedK P o fun rv h' => runD P C NG ops bef (i + 1) rest (putA fr o.dst rv) h' es ls K
      | none => none
    match o.guard with
    | none => run fr
    | some (j, want) =>
      match (ops[j]?).bind (·.dst) with
      | none => none
      | some d =>
        match fr.get d with
        | some (.bool b) =>
          bif b then
            (bif want then run (fr.set d (some (.bool true)))
             else runD P C NG ops bef (i + 1) rest (putA (fr.set d (some (.bool true))) o.dst (some undef)) h es ls K)
          else
            (bif want then runD P C NG ops bef (i + 1) rest (putA (fr.set d (some (.bool false))) o.dst (some undef)) h es ls K
             else run (fr.set d (some (.bool false))))
        | some (.tuple _) => runD P C NG ops bef (i + 1) rest (putA fr o.dst (some undef)) h es ls K
        | _ => none

end Go.AM
