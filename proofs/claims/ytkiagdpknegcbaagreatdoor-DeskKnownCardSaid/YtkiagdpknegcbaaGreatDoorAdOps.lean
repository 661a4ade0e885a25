/-
  An abstract machine for the model: its operations (definitions).
-/
import Derived.Test.YtkiagdpknegcbaaGreatDoorAdHeap
namespace Go.AM
open Go

abbrev CF := FuncId → List Value → H → Option (Value × H)

/-- What a computation that neither reads nor writes the world comes to. -/
def ev {α : Type} (P : Program) : Sem α → Option α
  | .pure a => some a
  | .program k => ev P (k P)
  | .mark _ k => ev P k
  | _ => none

theorem ev_run {α : Type} (P : Program) : ∀ (s : Sem α) (a : α), ev P s = some a → ∀ w, s.run P w = .ok a w := by
  intro s
  induction s with
  | pure a => intro b h w; simp only [ev, Option.some.injEq] at h; subst h; rfl
  | program k ih => intro b h w; exact ih P b h w
  | mark m k ih => intro b h w; exact ih b h w
  | _ => intros; simp_all [ev]

/-! The numbers of a type. -/
def szP (P : Program) (t : TypeId) : Option Nat := (P.info? t).map (·.size)
def bytesP (P : Program) (t : TypeId) : Option Nat := (P.info? t).map (·.bytes)
def elemP (P : Program) (t : TypeId) : Option TypeId := match P.underlying t with | some (.slice e) => some e | _ => none
def aggP (P : Program) (t : TypeId) : Option Bool := match P.underlying t with | some (.struct _) | some (.array _ _) => some true | some _ => some false | none => none
/-- The types of a map's keys and values. -/
def mapP (P : Program) (t : TypeId) : Option (TypeId × TypeId) := match P.underlying t with | some (.map k e) => some (k, e) | _ => none
def fieldP (P : Program) (t : TypeId) (i : Nat) : Option Field := match P.underlying t with | some (.struct fs) => fs[i]? | _ => none
def zeroP (P : Program) (t : TypeId) : Option Value := (P.types[t]?).bind (·.zero)
/-- The zero values bear no address. -/
def zerosPlain (P : Program) : Bool := P.types.toList.all fun i => match i.zero with | some z => plain z | none => true

def cellsL : Value → Option (List Value)
  | .agg ⟨cs⟩ => some cs
  | .tuple _ => none
  | v => some [v]

/-! Primitives. -/
namespace A

def load1 (v : Value) (h : H) : Option Value :=
  match v with
  | .pointer (some ⟨id, off, none⟩) => match h.get id with
    | some (.cells cs _) => cs[off]?
    | _ => none
  | _ => none

def loadN (n : Nat) (v : Value) (h : H) : Option Value :=
  match v with
  | .pointer (some ⟨id, off, none⟩) => match h.get id with
    | some (.cells cs _) => bif Nat.ble (off + n) cs.length then some (.agg ⟨(cs.drop off).take n⟩) else none
    | _ => none
  | _ => none

def load (agg : Bool) (n : Nat) (v : Value) (h : H) : Option Value := bif agg then loadN n v h else load1 v h

def store (n : Nat) (p v : Value) (h : H) : Option H :=
  match p with
  | .pointer (some ⟨id, off, none⟩) => match h.get id, cellsL v with
    | some (.cells cs (some es)), some vs => bif Nat.beq vs.length n && Nat.ble (off + n) cs.length then some (h.put id (.cells (splice cs off vs) (some es))) else none
    | _, _ => none
  | _ => none

/-- A new block, and its address. -/
def box (t n : Nat) (v : Value) (h : H) : Option (Value × H) :=
  match cellsL v with
  | some vs => bif Nat.beq vs.length n then some (.pointer (some ⟨h.next, 0, none⟩), h.push (.cells vs (some (enc t 0)))) else none
  | none => none

def fieldAddr (off : Nat) (v : Value) : Option Value :=
  match v with
  | .pointer (some ⟨id, o, none⟩) => some (.pointer (some ⟨id, o + off, none⟩))
  | _ => none

def nilCheck (v : Value) : Option Value :=
  match v with
  | .pointer (some a) => some (.pointer (some a))
  | _ => none

/-- The address of an element of a slice. -/
def idxS (size : Nat) (x ix : Value) : Option Value :=
  match x, ix with
  | .slice (some ⟨id, off, none⟩) len _, .int _ (.ofNat i) => bif Nat.blt i len then some (.pointer (some ⟨id, off + i * size, none⟩)) else none
  | _, _ => none

/-- The address of an element of an array. -/
def idxA (len size : Nat) (x ix : Value) : Option Value :=
  match x, ix with
  | .pointer (some ⟨id, off, none⟩), .int _ (.ofNat i) => bif Nat.blt i len then some (.pointer (some ⟨id, off + i * size, none⟩)) else none
  | _, _ => none

/-- A part of an aggregate. -/
def part (agg : Bool) (n off : Nat) (x : Value) : Option Value :=
  match x with
  | .agg ⟨cs⟩ => bif agg then (bif Nat.ble (off + n) cs.length then some (.agg ⟨(cs.drop off).take n⟩) else none) else cs[off]?
  | _ => none

def index (agg : Bool) (len size : Nat) (x ix : Value) : Option Value :=
  match ix with
  | .int _ (.ofNat i) => bif Nat.blt i len then part agg size (i * size) x else none
  | _ => none

def extract (i : Nat) (x : Value) : Option Value :=
  match x with
  | .tuple ⟨vs⟩ => vs[i]?
  | _ => none

/-- Parts laid into cells. -/
def fillL (cs : List Value) : List (Nat × Nat × Value) → Option (List Value)
  | [] => some cs
  | (off, size, v) :: r => match cellsL v with
    | some vs => bif Nat.beq vs.length size && Nat.ble (off + size) cs.length then fillL (splice cs off vs) r else none
    | none => none

def build (zero : List Value) (parts : List (Nat × Nat × Value)) : Option Value := (fillL zero parts).map fun cs => .agg ⟨cs⟩

def zeros (zero : List Value) : Nat → List Value
  | 0 => []
  | n + 1 => zero ++ zeros zero n

def buildSlice (q size len : Nat) (zero : List Value) (parts : List (Nat × Nat × Value)) (h : H) : Option (Value × H) :=
  (fillL (zeros zero len) parts).map fun cs => (.slice (some ⟨h.next, 0, none⟩) len (2 * len + 1), h.push (.cells cs (some q)))

def makeSlice (q size : Nat) (bytes : Nat) (zero : List Value) (l c : Value) (h : H) : Option (Value × H) :=
  match l, c with
  | .int _ (.ofNat l), .int _ (.ofNat c) =>
    bif Nat.ble l c && Nat.ble (bytes * c) (2 ^ 47) && Nat.ble c (2 ^ 47) then some (.slice (some ⟨h.next, 0, none⟩) l (2 * c + 1), h.push (.cells (zeros zero c) (some q))) else none
  | _, _ => none

def lenS (v : Value) : Option Value :=
  match v with
  | .slice _ n _ => some (.int .i64 n)
  | _ => none

def lenStr (v : Value) : Option Value :=
  match v with
  | .string s => some (.int .i64 s.size)
  | _ => none

def lenM (v : Value) (h : H) : Option Value :=
  match v with
  | .map none => some (.int .i64 0)
  | .map (some id) => match h.get id with
    | some (.map es _) => some (.int .i64 es.length)
    | _ => none
  | _ => none

/-- A bound of a slice expression. -/
def bound (y : Nat) : Option Value → Option (Option Nat)
  | none => some none
  | some (.int _ (.ofNat i)) => bif Nat.ble i y then some (some i) else none
  | _ => none

/-- Are the elements of a growing block of that size? -/
def esOK (size id : Nat) (h : H) : Bool :=
  match h.get id with
  | some (.cells _ (some es)) => Nat.beq (Nat.mod es KB) size
  | _ => false

/-- x[lo:hi:max] at a slice. -/
def sliceS (size : Nat) (x : Value) (lo hi mx : Option Value) (h : H) : Option Value :=
  bif mx.isSome && hi.isNone then none else
  match x with
  | .slice (some ⟨id, off, none⟩) len c =>
    match bound (c / 2) mx with
    | none => none
    | some m => match bound (m.getD (c / 2)) hi with
      | none => none
      | some r => match bound (r.getD len) lo with
        | none => none
        | some l =>
          bif Nat.beq (c % 2) 1 || m.isSome || Nat.beq (l.getD 0) 0 || esOK size id h then
          some (.slice (some ⟨id, off + l.getD 0 * size, none⟩) (r.getD len - l.getD 0)
            (match m with | some m => 2 * (m - l.getD 0) + 1 | none => c - 2 * l.getD 0))
          else none
  | .slice none 0 0 =>
    match bound 0 mx, bound 0 hi, bound 0 lo with
    | some _, some _, some _ => some (.slice none 0 0)
    | _, _, _ => none
  | _ => none

/-- x[lo:hi] at an array's address. -/
def sliceA (len size : Nat) (x : Value) (lo hi mx : Option Value) (h : H) : Option Value :=
  match x with
  | .pointer (some ⟨id, off, none⟩) => sliceS size (.slice (some ⟨id, off, none⟩) len (2 * len + 1)) lo hi mx h
  | _ => none

/-- The cells of what is appended or copied: at most n of it. -/
def elems (size : Nat) (x : Value) (h : H) : Option (List Value) :=
  match x with
  | .slice none 0 0 => some []
  | .slice (some ⟨id, off, none⟩) n _ => bif Nat.beq n 0 then some [] else match h.get id with
    | some (.cells cs _) => bif Nat.ble (off + n * size) cs.length then some ((cs.drop off).take (n * size)) else none
    | _ => none
  | .string s => bif Nat.beq size 1 then some (s.data.toList.map fun b => .int .u8 b.toNat) else none
  | _ => none

def lenOf : Value → Nat
  | .slice _ n _ => n
  | .string s => s.size
  | _ => 0

def append (q size bytes : Nat) (s x : Value) (h : H) : Option (Value × H) :=
  match elems size x h with
  | none => none
  | some new =>
    match s with
    | .slice none 0 0 =>
      bif Nat.beq (lenOf x) 0 then some (.slice none 0 0, h)
      else bif Nat.ble (lenOf x * bytes) (2 ^ 47) && Nat.ble (lenOf x) (2 ^ 47) then some (.slice (some ⟨h.next, 0, none⟩) (lenOf x) (2 * lenOf x), h.push (.cells new (some q))) else none
    | .slice (some ⟨id, off, none⟩) len c =>
      bif Nat.beq (lenOf x) 0 then some (s, h) else
      match h.get id with
      | some (.cells cs (some es)) =>
        bif Nat.ble (len + lenOf x) (c / 2) && (Nat.beq (c % 2) 1 || Nat.ble (off + (len + lenOf x) * size) cs.length) then
          (bif Nat.ble (off + (len + lenOf x) * size) cs.length then some (.slice (some ⟨id, off, none⟩) (len + lenOf x) c, h.put id (.cells (splice cs (off + len * size) new) (some es))) else none)
        else bif Nat.ble ((len + lenOf x) * bytes) (2 ^ 47) && Nat.ble (len + lenOf x) (2 ^ 47) && Nat.ble (off + len * size) cs.length then
          (bif Nat.beq (c % 2) 1 then
            some (.slice (some ⟨h.next, 0, none⟩) (len + lenOf x) (2 * (len + lenOf x)), h.push (.cells ((cs.drop off).take (len * size) ++ new) (some q)))
          else bif Nat.beq (off + len * size) cs.length && Nat.beq es q then
            some (.slice (some ⟨h.next, 0, none⟩) (len + lenOf x) (2 * (len + lenOf x)), (h.kill id).push (.cells (cs.drop off ++ new) (some q)))
          else none)
        else none
      | some (.cells cs none) =>
        bif Nat.ble ((len + lenOf x) * bytes) (2 ^ 47) && Nat.ble (len + lenOf x) (2 ^ 47) && Nat.ble (off + len * size) cs.length && Nat.beq (c % 2) 1 && Nat.blt (c / 2) (len + lenOf x) then
          some (.slice (some ⟨h.next, 0, none⟩) (len + lenOf x) (2 * (len + lenOf x)), h.push (.cells ((cs.drop off).take (len * size) ++ new) (some q)))
        else none
      | _ => none
    | _ => none

def copy (size : Nat) (d x : Value) (h : H) : Option (Value × H) :=
  match elems size x h with
  | none => none
  | some new =>
    match d with
    | .slice none 0 0 => some (.int .i64 0, h)
    | .slice (some ⟨id, off, none⟩) len _ =>
      bif Nat.beq (Nat.min (lenOf x) len) 0 then some (.int .i64 0, h) else
      match h.get id with
      | some (.cells cs (some es)) =>
        bif Nat.ble (off + Nat.min (lenOf x) len * size) cs.length then
          some (.int .i64 (Nat.min (lenOf x) len), h.put id (.cells (splice cs off (new.take (Nat.min (lenOf x) len * size))) (some es)))
        else none
      | _ => none
    | _ => none

def clear (size : Nat) (zs : List Value) (x : Value) (h : H) : Option H :=
  match x with
  | .slice none 0 0 => some h
  | .slice (some ⟨id, off, none⟩) n _ =>
    bif Nat.beq n 0 then some h else
    match h.get id with
    | some (.cells cs (some es)) => bif Nat.ble (off + n * size) cs.length then some (h.put id (.cells (splice cs off (zeros zs n)) (some es))) else none
    | _ => none
  | _ => none

/-- The text of bytes. -/
def toBytes : List Value → Option (List UInt8)
  | [] => some []
  | .int .u8 n :: r => (toBytes r).map fun l => UInt8.ofNat n.toNat :: l
  | _ :: _ => none

def b2s (x : Value) (h : H) : Option Value :=
  match x with
  | .slice none 0 0 => some (.string .empty)
  | .slice (some a) n c => match elems 1 (.slice (some a) n c) h with
    | some vs => (toBytes vs).map fun l => .string ⟨⟨l⟩⟩
    | none => none
  | _ => none

def s2b (q : Nat) (x : Value) (h : H) : Option (Value × H) :=
  match x with
  | .string s => bif Nat.ble s.size (2 ^ 47) then some (.slice (some ⟨h.next, 0, none⟩) s.size (2 * s.size), h.push (.cells (s.data.toList.map fun b => .int .u8 b.toNat) (some q))) else none
  | _ => none

/-- Surely the same place. -/
def sameA : Option Addr → Option Addr → Bool
  | some ⟨a, i, none⟩, some ⟨b, j, none⟩ => Nat.beq a b && Nat.beq i j
  | _, _ => false

/-- Held against nil, or a pointer against itself. -/
def eqNil (P : Program) (t : TypeId) (a b : Value) : Option Bool :=
  match P.underlying t, a, b with
  | some (.pointer e), .pointer x, .pointer y => bif x.isNone then some y.isNone else bif y.isNone then some false else bif sameA x y && (szP P e).isSome then some true else none
  | some (.slice _), .slice x _ _, .slice y _ _ => bif x.isNone then some y.isNone else bif y.isNone then some false else none
  | some (.map _ _), .map x, .map y => bif x.isNone then some y.isNone else bif y.isNone then some false else none
  | some (.func _ _ _), .func _ _ _, .nilFunc => some false
  | some (.func _ _ _), .nilFunc, .func _ _ _ => some false
  | _, _, _ => none

/-- On two numbers of one kind. -/
def binI (op : BinOp) (k : IntKind) (x y : Int) : Option Value :=
  match op with
  | .add => some (.int k (k.wrap (x + y)))
  | .sub => some (.int k (k.wrap (x - y)))
  | .mul => some (.int k (k.wrap (x * y)))
  | .quo => bif y == 0 then none else some (.int k (k.wrap (x.tdiv y)))
  | .rem => bif y == 0 then none else some (.int k (x.tmod y))
  | .and => some (.int k (k.wrap (BitVec.ofInt k.bits x &&& BitVec.ofInt k.bits y).toNat))
  | .or => some (.int k (k.wrap (BitVec.ofInt k.bits x ||| BitVec.ofInt k.bits y).toNat))
  | .xor => some (.int k (k.wrap (BitVec.ofInt k.bits x ^^^ BitVec.ofInt k.bits y).toNat))
  | .andNot => some (.int k (k.wrap (BitVec.ofInt k.bits x &&& ~~~ BitVec.ofInt k.bits y).toNat))
  | .eql => some (.bool (x == y))
  | .neq => some (.bool (x != y))
  | .lss => some (.bool (decide (x < y)))
  | .leq => some (.bool (decide (x ≤ y)))
  | .gtr => some (.bool (decide (y < x)))
  | .geq => some (.bool (decide (y ≤ x)))
  | .shl | .shr => none

def shI (op : BinOp) (k : IntKind) (x y : Int) : Option Value :=
  bif decide (y < 0) then none else
  match op with
  | .shl => some (.int k (k.wrap (x * 2 ^ (min y.toNat k.bits))))
  | .shr => some (.int k (x.fdiv (2 ^ (min y.toNat k.bits))))
  | _ => none

def binS (op : BinOp) (x y : ByteArray) : Option Value :=
  match op with
  | .add => bif Nat.ble (x.size + y.size) 9223372036854775807 then some (.string ⟨⟨x.data.toList ++ y.data.toList⟩⟩) else none
  | .eql => some (.bool (x.data.toList == y.data.toList))
  | .neq => some (.bool (!(x.data.toList == y.data.toList)))
  | .lss => some (.bool (Op.bytesLess x.data.toList y.data.toList))
  | .leq => some (.bool (Op.bytesLess x.data.toList y.data.toList || x.data.toList == y.data.toList))
  | .gtr => some (.bool (!(Op.bytesLess x.data.toList y.data.toList || x.data.toList == y.data.toList)))
  | .geq => some (.bool (!(Op.bytesLess x.data.toList y.data.toList)))
  | _ => none

def binOld (P : Program) (op : BinOp) (t : TypeId) (a b : Value) : Option Value :=
  bif plain a && plain b then
    (match ev P (do eqGuard op t (.tmp 0) (.tmp 0) a b; binOp op t a b) with
     | some v => bif plain v then some v else none
     | none => none)
  else match op with
    | .eql => (eqNil P t a b).map .bool
    | .neq => (eqNil P t a b).map fun x => .bool (!x)
    | _ => none

/-- Fields held against each other, one by one. -/
def eqFs (P : Program) (rec : TypeId → Value → Value → Option Bool) (x y : Value) : List Field → Option Bool
  | [] => some true
  | f :: r =>
    bif f.name == "_" then eqFs P rec x y r else
    match aggP P f.type, szP P f.type with
    | some g, some n =>
      (match part g n f.offset x, part g n f.offset y with
       | some a, some b => (match rec f.type a b with
         | some q => bif q then eqFs P rec x y r else some false
         | none => none)
       | _, _ => none)
    | _, _ => none

/-- Values of a type held against each other. -/
def eqV (P : Program) : Nat → TypeId → Value → Value → Option Bool
  | 0, _, _, _ => none
  | d + 1, t, a, b =>
    match P.underlying t with
    | some .bool => (match a, b with | .bool x, .bool y => some (x == y) | _, _ => none)
    | some (.int _) => (match a, b with | .int k x, .int j y => bif k == j then some (x == y) else none | _, _ => none)
    | some .string => (match a, b with | .string x, .string y => some (x.data.toList == y.data.toList) | _, _ => none)
    | some (.pointer _) => (match a, b with | .pointer x, .pointer y => eqNil P t (.pointer x) (.pointer y) | _, _ => none)
    | some (.struct fs) => (match a, b with | .agg x, .agg y => bif P.stoodInHeld t then none else eqFs P (eqV P d) (.agg x) (.agg y) fs.toList | _, _ => none)
    | _ => none

def eqA (P : Program) (op : BinOp) (t : TypeId) (a b : Value) : Option Value :=
  bif P.eqGuardType P.depth t then none else
  match op with
  | .eql => (match eqV P 20 t a b with | some r => some (.bool r) | none => none)
  | .neq => (match eqV P 20 t a b with | some r => some (.bool (!r)) | none => none)
  | _ => none

def bin (P : Program) (op : BinOp) (t : TypeId) (a b : Value) : Option Value :=
  match a, b with
  | .agg x, .agg y => eqA P op t (.agg x) (.agg y)
  | .bool x, .bool y => (match op with | .eql => (match P.underlying t with | some .bool => some (.bool (x == y)) | _ => none) | .neq => (match P.underlying t with | some .bool => some (.bool (!(x == y))) | _ => none) | _ => none)
  | .int k x, .int j y =>
    (match op with
     | .shl | .shr => shI op k x y
     | op => bif k == j then binI op k x y else none)
  | .string x, .string y => binS op x y
  | a, b => binOld P op t a b

def un (P : Program) (op : UnOp) (a : Value) : Option Value :=
  match op, a with
  | .not, .bool b => some (.bool (!b))
  | op, a => bif plain a then (match ev P (Op.unary op a) with | some v => bif plain v then some v else none | none => none) else none

def conv (P : Program) (s d : TypeId) (a : Value) : Option Value :=
  match P.underlying s, P.underlying d, a with
  | some _, some (.int k), .int _ n => some (.int k (k.wrap n))
  | _, _, a => bif plain a then (match ev P (convert s d a) with | some v => bif plain v then some v else none | none => none) else none

/-- A pointer as an unsafe one. -/
def toU (P : Program) (t : TypeId) (a : Value) (h : H) : Option Value :=
  match a with
  | .pointer none => some (.pointer none)
  | .pointer (some ⟨id, off, none⟩) => (match szP P t, h.get id with
    | some n, some (.cells cs _) => bif Nat.blt 0 n && Nat.blt off cs.length then some (.pointer (some ⟨id, off, none⟩)) else none
    | _, _ => none)
  | _ => none
/-- An unsafe pointer to a box, as a pointer. -/
def ofU (P : Program) (u : TypeId) (a : Value) (h : H) : Option Value :=
  match a with
  | .pointer none => some (.pointer none)
  | .pointer (some ⟨id, off, none⟩) => (match szP P u, h.get id with
    | some _, some (.cells cs (some es)) => bif Nat.beq (Nat.mod es KB) 0 && liesAt P P.depth (Nat.pred (Nat.div es KB)) (cs.length / P.cellsOf (Nat.pred (Nat.div es KB))) off u 1 then some (.pointer (some ⟨id, off, none⟩)) else none
    | _, _ => none)
  | _ => none
/-- What a slice lies on. -/
def sliceData (x : Value) : Option Value :=
  match x with
  | .slice none 0 0 => some (.pointer none)
  | .slice (some ⟨id, off, none⟩) n _ => bif Nat.blt 0 n then some (.pointer (some ⟨id, off, none⟩)) else none
  | _ => none
/-- Bytes turned into a text that shares them: they are the text's alone then. -/
def unsafeStr (P : Program) (e : TypeId) (p n : Value) (h : H) : Option (Value × H) :=
  match p, n with
  | .pointer none, .int _ (.ofNat 0) => some (.string ⟨⟨[]⟩⟩, h)
  | .pointer (some ⟨id, off, none⟩), .int _ (.ofNat n) => (match h.get id with
    | some (.cells cs (some es)) => bif Nat.blt 0 n && Nat.ble n 1000000000000 && Nat.ble (off + n) cs.length && Nat.beq (P.cellsOf (Nat.pred (Nat.div es KB))) 1 && Nat.blt 0 P.depth && sameLayout P P.depth (Nat.pred (Nat.div es KB)) e then (match toBytes ((cs.drop off).take n) with
      | some l => some (.string ⟨⟨l⟩⟩, h.kill id)
      | none => none) else none
    | _ => none)
  | _, _ => none
def capS (v : Value) : Option Value :=
  match v with
  | .slice none 0 0 => some (.int .i64 0)
  | .slice (some _) _ c => bif Nat.beq (c % 2) 1 then some (.int .i64 (c / 2 : Nat)) else none
  | _ => none

/-- s[i] at a string. -/
def indexStr (x ix : Value) : Option Value :=
  match x, ix with
  | .string s, .int _ (.ofNat i) => match s.data.toList[i]? with
    | some b => some (.int .u8 b.toNat)
    | none => none
  | _, _ => none

/-- s[lo:hi] at a string. -/
def sliceStr (x : Value) (lo hi : Option Value) : Option Value :=
  match x with
  | .string s =>
    match bound s.size hi with
    | none => none
    | some h => match bound (h.getD s.size) lo with
      | none => none
      | some l => some (.string ⟨⟨(s.data.toList.drop (l.getD 0)).take (h.getD s.size - l.getD 0)⟩⟩)
  | _ => none

/-- min, max. -/
def pureB (P : Program) (b : Builtin) (argTypes : Array TypeId) (type : TypeId) (vs : List Value) : Option Value :=
  bif plainL vs then
    match (match b with
      | .min => ev P (Builtin.min_ argTypes type ⟨vs⟩)
      | .max => ev P (Builtin.max_ argTypes type ⟨vs⟩)
      | _ => none) with
    | some v => bif plain v then some v else none
    | none => none
  else none

/-! Maps, and rounds over texts and maps. -/

/-- Is that a key of a kind that can be looked for at once? -/
def keyK (P : Program) (t : TypeId) (k : Value) : Bool :=
  match P.underlying t, k with
  | some (.int _), .int _ _ => true
  | some .string, .string _ => true
  | _, _ => false

/-- Of what kind are keys? (some true: texts; some false: numbers.) -/
def keyT (P : Program) (t : TypeId) : Option Bool :=
  match P.underlying t with
  | some (.int _) => some false
  | some .string => some true
  | _ => none

def keyS (s : Bool) (k : Value) : Bool :=
  match k with
  | .int _ _ => bif s then false else true
  | .string _ => s
  | _ => false

def keyEq (k e : Value) : Option Bool :=
  match k, e with
  | .int a x, .int b y => bif a == b then some (x == y) else none
  | .string x, .string y => some (x.data.toList == y.data.toList)
  | _, _ => none

/-- The place of a key, and what lies there. -/
def findE (k : Value) : List Ent → Nat → Option (Option (Nat × Value))
  | [], _ => some none
  | e :: r, i => match keyEq k e.key with
    | some b => bif b then some (some (i, e.val)) else findE k r (i + 1)
    | none => none

def outL (co : Bool) (v : Value) (ok : Bool) : Value := bif co then .tuple ⟨[v, .bool ok]⟩ else v

def lookup (zero : Value) (co : Bool) (k x : Value) (h : H) : Option Value :=
  match x with
  | .map none => some (outL co zero false)
  | .map (some id) => match h.get id with
    | some (.map es _) => match findE k es 0 with
      | some (some (_, v)) => some (outL co v true)
      | some none => some (outL co zero false)
      | none => none
    | _ => none
  | _ => none

/-- Another value at a place. -/
def modV (v : Value) : List Ent → Nat → List Ent
  | [], _ => []
  | e :: r, 0 => ⟨e.key, v, e.born⟩ :: r
  | e :: r, i + 1 => e :: modV v r i

def mapUpdate (k v x : Value) (h : H) : Option H :=
  match x with
  | .map (some id) => match h.get id with
    | some (.map es c) => match findE k es 0 with
      | some (some (i, _)) => some (h.put id (.map (modV v es i) c))
      | some none => some (h.put id (.map (es ++ [⟨k, v, c⟩]) (c + 1)))
      | none => none
    | _ => none
  | _ => none

def delete (k x : Value) (h : H) : Option H :=
  match x with
  | .map none => some h
  | .map (some id) => match h.get id with
    | some (.map es c) => match findE k es 0 with
      | some (some (i, _)) => some (h.put id (.map (es.eraseIdx i) c))
      | some none => some h
      | none => none
    | _ => none
  | _ => none

def lookupK (s : Bool) (zero : Value) (co : Bool) (k x : Value) (h : H) : Option Value := bif keyS s k then lookup zero co k x h else none
def mapUpdateK (s : Bool) (k v x : Value) (h : H) : Option H := bif keyS s k then mapUpdate k v x h else none
def deleteK (s : Bool) (k x : Value) (h : H) : Option H := bif keyS s k then delete k x h else none
def makeMap (h : H) : Option (Value × H) := some (.map (some h.next), h.push (.map [] 0))

def clearM (x : Value) (h : H) : Option H :=
  match x with
  | .map none => some h
  | .map (some id) => match h.get id with
    | some (.map _ c) => some (h.put id (.map [] c))
    | _ => none
  | _ => none

def range (x : Value) (h : H) : Option (Value × H) :=
  match x with
  | .string s => some (.pointer (some ⟨h.next, 0, none⟩), h.push (.siter s 0))
  | .map none => some (.pointer (some ⟨h.next, 0, none⟩), h.push (.miter none 0 [] 0))
  | .map (some id) => match h.get id with
    | some (.map _ c) => some (.pointer (some ⟨h.next, 0, none⟩), h.push (.miter (some id) c [] c))
    | _ => none
  | _ => none

def rangeS (x : Value) (h : H) : Option (Value × H) := match x with | .string s => range (.string s) h | _ => none
def rangeM (x : Value) (h : H) : Option (Value × H) := match x with | .map m => range (.map m) h | _ => none

/-- The character at a place, and its width. -/
def charAt (s : ByteArray) (pos : Nat) : Option (Nat × Nat) :=
  match s.data.toList[pos]? with
  | some b => bif Nat.blt b.toNat 128 then some (b.toNat, 1) else some (Utf8.decode s pos)
  | none => none

def nextS (x : Value) (h : H) : Option (Value × H) :=
  match x with
  | .pointer (some ⟨id, 0, none⟩) => match h.get id with
    | some (.siter s pos) =>
      (match charAt s pos with
       | some (c, w) => some (.tuple ⟨[.bool true, .int .i64 pos, .int .i32 c]⟩, h.put id (.siter s (pos + w)))
       | none => some (.tuple ⟨[.bool false]⟩, h))
    | _ => none
  | _ => none

def bornIn (l : List Nat) (e : Ent) : Bool := l.any (Nat.beq e.born)

/-- A step over a map that has one that is left, or none. -/
def nextM (x : Value) (h : H) : Option (Value × H) :=
  match x with
  | .pointer (some ⟨id, 0, none⟩) => match h.get id with
    | some (.miter none _ _ _) => some (.tuple ⟨[.bool false]⟩, h)
    | some (.miter (some m) since seen last) => match h.get m with
      | some (.map es clock) =>
        bif !seen.isEmpty && !es.isEmpty && es.all (fun e => Nat.ble last e.born) then none else
        (match es.filter fun e => !bornIn seen e with
         | [] => some (.tuple ⟨[.bool false]⟩, h)
         | [e] => bif Nat.blt e.born since then some (.tuple ⟨[.bool true, e.key, e.val]⟩, h.put id (.miter (some m) since (seen ++ [e.born]) clock)) else none
         | _ => none)
      | _ => none
    | _ => none
  | _ => none

def lastL : List Nat → Option Nat
  | [] => none
  | [a] => some a
  | _ :: r => lastL r

def findB (b : Nat) : List Ent → Option Ent
  | [] => none
  | e :: r => bif Nat.beq e.born b then some e else findB b r

/-- The step's entry, as it is now. -/
def entry (x : Value) (h : H) : Option Value :=
  match x with
  | .pointer (some ⟨id, 0, none⟩) => match h.get id with
    | some (.miter (some m) _ seen last) => match lastL seen, h.get m with
      | some b, some (.map es clock) => bif Nat.beq clock last then (match findB b es with | some e => some (.tuple ⟨[e.key, e.val]⟩) | none => none) else none
      | _, _ => none
    | _ => none
  | _ => none

end A

/-! Reading operands. -/
def evalA (NG : Nat) (fr : T Value) (_h : H) : Operand → Option Value
  | .tmp t => fr.get t
  | .const v => bif plain v then some v else none
  | .global g => bif Nat.blt g NG then some (.pointer (some ⟨g, 0, none⟩)) else none
  | .func f => some (.func (.func f) #[] #[])

def evalL (ρ : Operand → Option Value) : List Operand → Option (List Value)
  | [] => some []
  | x :: r => match ρ x with
    | some v => (match evalL ρ r with | some vs => some (v :: vs) | none => none)
    | none => none

def evalO (ρ : Operand → Option Value) : Option Operand → Option (Option Value)
  | none => some none
  | some x => match ρ x with
    | some v => some (some v)
    | none => none

/-- Parts of a struct or an array, with their places. -/
def partsP (ρ : Operand → Option Value) (place : Nat → Option (Nat × Nat)) : List (Nat × Operand) → Option (List (Nat × Nat × Value))
  | [] => some []
  | (i, x) :: r => match place i, ρ x with
    | some (off, size), some v => (match partsP ρ place r with | some ps => some ((off, size, v) :: ps) | none => none)
    | _, _ => none

def placeP (P : Program) (t : TypeId) (i : Nat) : Option (Nat × Nat) :=
  match P.underlying t with
  | some (.struct fs) => match fs[i]? with
    | some f => (szP P f.type).map fun n => (f.offset, n)
    | none => none
  | some (.array _ e) => (szP P e).map fun n => (i * n, n)
  | _ => none

/-- The model asks of every field that its type is known. -/
def fieldsKnown (P : Program) (t : TypeId) : Bool :=
  match P.underlying t with
  | some (.struct fs) => fs.toList.all fun f => (szP P f.type).isSome
  | some (.array _ e) => (szP P e).isSome
  | _ => false

/-- A call of this number means the round of a loop. -/
abbrev Y0 : Nat := 1099511627776
/-- A round's loop, and its arguments. -/
def yArg {α : Type} (args : List Value) (K : Nat → List Value → Option α) : Option α :=
  match args with
  | .int _ (.ofNat id) :: vs => K id vs
  | _ => none

/-- A call of a function value. -/
def callV (C : CF) (f : Value) (vs : List Value) (h : H) : Option (Value × H) :=
  match f with
  | .func (.func g) ⟨first⟩ ⟨cap⟩ => bif Nat.blt g 1099511627776 then C g (first ++ vs ++ cap) h else none
  | .func (.yield id) _ _ => C 1099511627776 (.int .i64 (.ofNat id) :: vs) h
  | _ => none

/-- A method that an embedded pointer has: which function, and where the pointer lies. -/
def promo (P : Program) (t : TypeId) (name : String) : Option (FuncId × Nat) :=
  match P.underlying t, P.info? t with
  | some (.pointer _), some ti => (match ti.methods.find? fun (m : Method) => m.name == name with
    | some m => (match m.path.toList, m.func with
      | [st], some (g, true) => bif st.deref then (match fieldP P st.struct st.index with
        | some f => (match szP P f.type, aggP P f.type, P.underlying f.type with
          | some 1, some false, some (.pointer _) => some (g, f.offset)
          | _, _, _ => none)
        | none => none) else none
      | _, _ => none)
    | none => none)
  | _, _ => none

/-- A call of a function value, or of a method expression. -/
def callM (P : Program) (C : CF) (f : Value) (vs : List Value) (h : H) : Option (Value × H) :=
  match f with
  | .func (.methodOf t name) _ _ => (match promo P t name, vs with
    | some (g, off), x :: xs => bif Nat.blt g 1099511627776 then (A.fieldAddr off x).bind fun p => (A.load false 1 p h).bind fun r => C g (r :: xs) h else none
    | _, _ => none)
  | _ => callV C f vs h

/-- A value of a bool's type is one. -/
def toBK {β : Type} (v : Value) (k : Bool → Option β) : Option β :=
  match v with
  | .bool b => k b
  | _ => none

def isBoolT (P : Program) (t : TypeId) : Bool := match P.underlying t with | some .bool => true | _ => false

/-- What an operation's result goes on as. -/
def typedK {β : Type} (P : Program) (o : Oper) (K : Option Value → H → Option β) (rv : Option Value) (h : H) : Option β :=
  bif isBoolT P o.type then (match rv with | some v => toBK v fun b => K (some (.bool b)) h | none => K none h) else K rv h

theorem typedK_some {β : Type} {P : Program} {o : Oper} {K : Option Value → H → Option β} {rv : Option Value} {h : H} {r : β} (hr : typedK P o K rv h = some r) : K rv h = some r := by
  unfold typedK at hr
  cases hb : isBoolT P o.type with
  | false => rw [hb] at hr; exact hr
  | true =>
    rw [hb] at hr
    simp only [cond_true] at hr
    cases rv with
    | none => exact hr
    | some v =>
      simp only [toBK] at hr
      split at hr
      · exact hr
      · simp at hr

def aop {β : Type} (P : Program) (C : CF) (ρ : Operand → Option Value) (h : H) (o : Oper) (K : Option Value → H → Option β) : Option β :=
  match o.op with
  | .move x | .assign x => (ρ x).bind fun v => K (some v) h
  | .pick c a b =>
    match ρ c with
    | some (.bool t) =>
      (match ρ a, ρ b with
       | some va, some vb => K (some (bif t then va else vb)) h
       | some va, none => bif t then K (some va) h else none
       | none, some vb => bif t then none else K (some vb) h
       | none, none => none)
    | _ => none
  | .alloc t =>
    match zeroP P t, szP P t with
    | some z, some n => (A.box t n z h).bind fun (v, h') => K (some v) h'
    | _, _ => none
  | .box t x =>
    match szP P t, ρ x with
    | some n, some v => (A.box t n v h).bind fun (v, h') => K (some v) h'
    | _, _ => none
  | .build t ps =>
    match zeroP P t, partsP ρ (placeP P t) ps.toList with
    | some (.agg ⟨z⟩), some l => bif fieldsKnown P t then (A.build z l).bind fun v => K (some v) h else none
    | _, _ => none
  | .buildSlice t len ps =>
    match elemP P t with
    | none => none
    | some e => match szP P e, zeroP P e with
      | some n, some z => match cellsL z, partsP ρ (fun i => some (i * n, n)) ps.toList with
        | some zs, some l => bif Nat.beq zs.length n && Nat.blt 0 n && Nat.ble (len * n) (2 ^ 24) && Nat.blt n KB then (A.buildSlice (enc e n) n len zs l h).bind fun (v, h') => K (some v) h' else none
        | _, _ => none
      | _, _ => none
  | .load t a =>
    match aggP P t, szP P t, ρ a with
    | some g, some n, some p => (A.load g n p h).bind fun v => K (some v) h
    | _, _, _ => none
  | .store t a x =>
    match szP P t, ρ a, ρ x with
    | some n, some p, some v => (A.store n p v h).bind fun h' => K none h'
    | _, _, _ => none
  | .nilCheck x => (ρ x).bind fun v => (A.nilCheck v).bind fun v => K (some v) h
  | .binOp op t x y _ =>
    match ρ x, ρ y with
    | some a, some b => (A.bin P op t a b).bind fun v => K (some v) h
    | _, _ => none
  | .unOp op _ x => (ρ x).bind fun a => (A.un P op a).bind fun v => K (some v) h
  | .convert s d x =>
    match ρ x with
    | none => none
    | some a => match P.underlying s, P.underlying d with
      | some .string, some (.slice e) => (match P.underlying e with
        | some (.int .u8) => (A.s2b (enc e 1) a h).bind fun (v, h') => K (some v) h'
        | _ => none)
      | some (.slice e), some .string => (match P.underlying e with
        | some (.int .u8) => (A.b2s a h).bind fun v => K (some v) h
        | _ => none)
      | some (.pointer t), some .unsafePointer => (A.toU P t a h).bind fun v => K (some v) h
      | some .unsafePointer, some (.pointer u) => (A.ofU P u a h).bind fun v => K (some v) h
      | _, _ => (A.conv P s d a).bind fun v => K (some v) h
  | .makeFunc (.func f) first captured =>
    match evalL ρ first.toList, evalL ρ captured.toList with
    | some a, some b => K (some (.func (.func f) ⟨a⟩ ⟨b⟩)) h
    | _, _ => none
  | .makeFunc (.methodOf t m) first captured =>
    match first.toList, captured.toList with
    | [], [] => K (some (.func (.methodOf t m) #[] #[])) h
    | _, _ => none
  | .makeSlice t l c =>
    match elemP P t, ρ l, ρ c with
    | some e, some vl, some vc => (match szP P e, bytesP P e, zeroP P e with
      | some n, some bs, some z => match cellsL z with
        | some zs => bif Nat.beq zs.length n && Nat.blt 0 n && Nat.blt n KB then (A.makeSlice (enc e n) n bs zs vl vc h).bind fun (v, h') => K (some v) h' else none
        | none => none
      | _, _, _ => none)
    | _, _, _ => none
  | .slice t x lo hi mx =>
    match ρ x, evalO ρ lo, evalO ρ hi, evalO ρ mx with
    | some v, some l, some r, some m => (match P.underlying t with
      | some .string => (match m with | none => (A.sliceStr v l r).bind fun v => K (some v) h | some _ => none)
      | some (.slice e) => (match szP P e with
        | some n => (A.sliceS n v l r m h).bind fun v => K (some v) h
        | none => none)
      | some (.array len e) => (match szP P e with
        | some n => (A.sliceA len n v l r m h).bind fun v => K (some v) h
        | none => none)
      | _ => none)
    | _, _, _, _ => none
  | .fieldAddr t x i =>
    match fieldP P t i, ρ x with
    | some f, some v => (match szP P f.type with
      | some n => bif Nat.beq n 0 then none else (A.fieldAddr f.offset v).bind fun v => K (some v) h
      | none => none)
    | _, _ => none
  | .field t x i =>
    match fieldP P t i, ρ x with
    | some f, some v => (match aggP P f.type, szP P f.type with
      | some g, some n => (A.part g n f.offset v).bind fun v => K (some v) h
      | _, _ => none)
    | _, _ => none
  | .indexAddr t x i =>
    match ρ x, ρ i with
    | some v, some iv => (match P.underlying t with
      | some (.slice e) => (match szP P e with
        | some n => (A.idxS n v iv).bind fun v => K (some v) h
        | none => none)
      | some (.array len e) => (match szP P e with
        | some n => (A.idxA len n v iv).bind fun v => K (some v) h
        | none => none)
      | _ => none)
    | _, _ => none
  | .index t x i =>
    match ρ x, ρ i with
    | some v, some iv => (match P.underlying t with
      | some .string => (A.indexStr v iv).bind fun v => K (some v) h
      | some (.array len e) => (match aggP P e, szP P e with
        | some g, some n => (A.index g len n v iv).bind fun v => K (some v) h
        | _, _ => none)
      | _ => none)
    | _, _ => none
  | .extract x i => (ρ x).bind fun v => (A.extract i v).bind fun v => K (some v) h
  | .makeMap _ none => (A.makeMap h).bind fun (v, h') => K (some v) h'
  | .lookup t x k co =>
    match mapP P t, ρ x, ρ k with
    | some (kt, et), some v, some kv => (match A.keyT P kt, zeroP P et with
      | some s, some z => (A.lookupK s z co kv v h).bind fun v => K (some v) h
      | _, _ => none)
    | _, _, _ => none
  | .mapUpdate t x k y =>
    match mapP P t, ρ x, ρ k, ρ y with
    | some (kt, _), some v, some kv, some yv => (match A.keyT P kt with
      | some s => (A.mapUpdateK s kv yv v h).bind fun h' => K none h'
      | none => none)
    | _, _, _, _ => none
  | .insert t x k y =>
    match mapP P t, ρ x, ρ k, ρ y with
    | some (kt, _), some v, some kv, some yv => (match A.keyT P kt with
      | some s => (A.mapUpdateK s kv yv v h).bind fun h' => K none h'
      | none => none)
    | _, _, _, _ => none
  | .range t x =>
    match P.underlying t, ρ x with
    | some .string, some v => (A.rangeS v h).bind fun (v, h') => K (some v) h'
    | some (.map _ _), some v => (A.rangeM v h).bind fun (v, h') => K (some v) h'
    | _, _ => none
  | .next x str =>
    match ρ x with
    | some v => bif str then (A.nextS v h).bind fun (v, h') => K (some v) h' else (A.nextM v h).bind fun (v, h') => K (some v) h'
    | none => none
  | .entry x => (ρ x).bind fun v => (A.entry v h).bind fun v => K (some v) h
  | .call c =>
    match c.callee with
    | .value f =>
      (match ρ f, evalL ρ c.args.toList with
       | some fv, some vs => (callM P C fv vs h).bind fun (v, h') => K (some v) h'
       | _, _ => none)
    | .invoke _ _ => none
    | .builtin b =>
      match evalL ρ c.args.toList with
      | none => none
      | some vs =>
        match b, vs with
        | .len, [v] => (match (c.argTypes[0]?).bind P.underlying with
          | some (.slice _) => (A.lenS v).bind fun v => K (some v) h
          | some .string => (A.lenStr v).bind fun v => K (some v) h
          | some (.map _ _) => (A.lenM v h).bind fun v => K (some v) h
          | _ => none)
        | .append, [s, x] => (match (c.argTypes[0]?).bind (elemP P), (c.argTypes[1]?).bind P.underlying with
          | some e, some d => (match d with
            | .int _ => none
            | _ => match szP P e, bytesP P e, (zeroP P e).bind cellsL with
              | some n, some bs, some zs => bif Nat.blt 0 n && Nat.beq zs.length n && Nat.blt 0 bs && Nat.blt n KB then (A.append (enc e n) n bs s x h).bind fun (v, h') => K (some v) h' else none
              | _, _, _ => none)
          | _, _ => none)
        | .copy, [d, x] => (match (c.argTypes[0]?).bind (elemP P) with
          | some e => (match szP P e with
            | some n => (A.copy n d x h).bind fun (v, h') => K (some v) h'
            | none => none)
          | none => none)
        | .delete, [m, k] => (match (c.argTypes[0]?).bind (mapP P) with
          | some (kt, _) => (match A.keyT P kt with
            | some s => (A.deleteK s k m h).bind fun h' => K (some (.tuple ⟨[]⟩)) h'
            | none => none)
          | none => none)
        | .clear, [x] => (match (c.argTypes[0]?).bind P.underlying with
          | some (.map _ _) => (A.clearM x h).bind fun h' => K (some (.tuple ⟨[]⟩)) h'
          | some (.slice e) => (match szP P e, (zeroP P e).bind cellsL with
            | some n, some zs => bif Nat.beq zs.length n && Nat.blt 0 n then (A.clear n zs x h).bind fun h' => K (some (.tuple ⟨[]⟩)) h' else none
            | _, _ => none)
          | _ => none)
        | .cap, [x] => (match (c.argTypes[0]?).bind P.underlying with
          | some (.slice _) => (A.capS x).bind fun v => K (some v) h
          | _ => none)
        | .unsafeSliceData, [x] => (A.sliceData x).bind fun v => K (some v) h
        | .unsafeString, [p, n] => (match (c.argTypes[0]?).bind P.underlying with
          | some (.pointer e) => (A.unsafeStr P e p n h).bind fun (v, h') => K (some v) h'
          | _ => none)
        | b, vs => (A.pureB P b c.argTypes o.type vs).bind fun v => K (some v) h
  | _ => none

end Go.AM
