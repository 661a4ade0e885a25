/-
  An abstract machine for the model: the same machine in forms that the kernel runs fast.
-/
import Derived.Test.YtkiagdpknegcbaaGreatDoorAdTop
namespace Go.AM.F
open Go Go.AM

noncomputable section

/-! Basics. -/
@[reducible] def ob {α β : Type} (o : Option α) (f : α → Option β) : Option β := Option.rec none f o
@[reducible] def ob2 {α γ β : Type} (o : Option (α × γ)) (f : α → γ → Option β) : Option β := Option.rec none (fun p => Prod.rec f p) o
theorem ob_eq {α β : Type} (o : Option α) (f : α → Option β) : ob o f = o.bind f := by cases o <;> rfl
theorem ob2_eq {α γ β : Type} (o : Option (α × γ)) (f : α → γ → Option β) : ob2 o f = o.bind fun (a, c) => f a c := by cases o <;> rfl
/-- if. -/
@[reducible] def ite' {α : Type} (b : Bool) (x y : α) : α := Bool.rec y x b
theorem ite_eq {α : Type} (b : Bool) (x y : α) : ite' b x y = bif b then x else y := by cases b <;> rfl

/-- A number, reckoned. -/
def sn {α : Type} (n : Nat) (f : Nat → α) : α := Nat.rec (f 0) (fun p _ => f (Nat.succ p)) n
theorem sn_eq {α : Type} (n : Nat) (f : Nat → α) : sn n f = f n := by cases n <;> rfl

def tget {α : Type} (t : T α) : Nat → Option α :=
  T.rec (motive := fun _ => Nat → Option α) (fun _ => none)
    (fun _ v _ gl gr k => Nat.rec v (fun p _ => Bool.rec (gl (Nat.div p 2)) (gr (Nat.div (Nat.sub p 1) 2)) (Nat.beq (Nat.mod p 2) 1)) k) t

theorem tget_eq {α : Type} : ∀ (t : T α) (k : Nat), tget t k = t.get k
  | .nil, k => rfl
  | .node l v r, 0 => rfl
  | .node l v r, p + 1 => by
    show (Bool.rec (tget l (Nat.div p 2)) (tget r (Nat.div (Nat.sub p 1) 2)) (Nat.beq (Nat.mod p 2) 1) : Option α) = _
    rw [T.get_node, tget_eq l, tget_eq r, if_neg (by omega), T.beq_dec]
    have e1 : Nat.mod p 2 = p % 2 := rfl
    have e2 : Nat.div p 2 = p / 2 := rfl
    have e3 : Nat.div (Nat.sub p 1) 2 = (p - 1) / 2 := rfl
    rw [e1, e2, e3]
    by_cases h : p % 2 = 1
    · rw [if_neg (by omega), show (p + 1 - 2) / 2 = (p - 1) / 2 by congr 1]
      simp [h]
    · rw [if_pos (by omega), show (p + 1 - 1) / 2 = p / 2 by congr 1]
      simp [h]

def tsetS {α : Type} (x : Option α) (_ : Nat) (ih : T α → Nat → T α) (t : T α) (k : Nat) : T α :=
  T.rec (motive := fun _ => T α)
    (Nat.rec (.node .nil x .nil) (fun p _ => Bool.rec (.node (ih .nil (Nat.div p 2)) none .nil) (.node .nil none (ih .nil (Nat.div (Nat.sub p 1) 2))) (Nat.beq (Nat.mod p 2) 1)) k)
    (fun l v r _ _ => Nat.rec (.node l x r) (fun p _ => Bool.rec (.node (ih l (Nat.div p 2)) v r) (.node l v (ih r (Nat.div (Nat.sub p 1) 2))) (Nat.beq (Nat.mod p 2) 1)) k) t

def tsetN {α : Type} (x : Option α) (f : Nat) : T α → Nat → T α := Nat.rec (motive := fun _ => T α → Nat → T α) (fun t _ => t) (tsetS x) f
def tset {α : Type} (t : T α) (k : Nat) (x : Option α) : T α := tsetN x (Nat.succ k) t k

theorem tsetN_eq {α : Type} (x : Option α) : ∀ (f : Nat) (t : T α) (k : Nat), tsetN x f t k = T.setF f t k x
  | 0, t, k => rfl
  | f + 1, t, k => by
    show tsetS x f (tsetN x f) t k = _
    have ih := tsetN_eq x f
    have hodd : ∀ p : Nat, Nat.beq (Nat.mod (p + 1) 2) 1 = !Nat.beq (Nat.mod p 2) 1 := fun p => by
      rw [T.beq_dec, T.beq_dec]
      have e1 : Nat.mod p 2 = p % 2 := rfl
      have e2 : Nat.mod (p + 1) 2 = (p + 1) % 2 := rfl
      rw [e1, e2]
      by_cases h : p % 2 = 1
      · have : ¬ (p + 1) % 2 = 1 := by omega
        simp [h, this]
      · have : (p + 1) % 2 = 1 := by omega
        simp [h, this]
    cases t with
    | nil =>
      cases k with
      | zero => rfl
      | succ p =>
        show (Bool.rec (.node (tsetN x f .nil (Nat.div p 2)) none .nil) (.node .nil none (tsetN x f .nil (Nat.div (Nat.sub p 1) 2))) (Nat.beq (Nat.mod p 2) 1) : T α) = _
        rw [T.setF, ih, ih, hodd p]
        cases hb : Nat.beq (Nat.mod p 2) 1 <;> rfl
    | node l v r =>
      cases k with
      | zero => rfl
      | succ p =>
        show (Bool.rec (.node (tsetN x f l (Nat.div p 2)) v r) (.node l v (tsetN x f r (Nat.div (Nat.sub p 1) 2))) (Nat.beq (Nat.mod p 2) 1) : T α) = _
        rw [T.setF, ih, ih, hodd p]
        cases hb : Nat.beq (Nat.mod p 2) 1 <;> rfl

theorem tset_eq {α : Type} (t : T α) (k : Nat) (x : Option α) : tset t k x = t.set k x := tsetN_eq x (k + 1) t k

/-! The heap. -/
def hget (h : H) (id : Nat) : Option Blk := tget h.m id
theorem hget_eq (h : H) (id : Nat) : hget h id = h.get id := tget_eq _ _
def hput (h : H) (id : Nat) (b : Blk) : H := H.rec (fun m n => ⟨tset m id (some b), n⟩) h
theorem hput_eq (h : H) (id : Nat) (b : Blk) : hput h id b = h.put id b := by cases h; simp only [hput, H.put, tset_eq]
def hpush (h : H) (b : Blk) : H := H.rec (fun m n => ⟨tset m n (some b), Nat.succ n⟩) h
theorem hpush_eq (h : H) (b : Blk) : hpush h b = h.push b := by cases h; simp only [hpush, H.push, tset_eq]

/-! Lists. -/
def nth {α : Type} (l : List α) : Nat → Option α :=
  List.rec (motive := fun _ => Nat → Option α) (fun _ => none) (fun a _ ih k => Nat.rec (some a) (fun p _ => ih p) k) l
theorem nth_eq {α : Type} : ∀ (l : List α) (k : Nat), nth l k = l[k]?
  | [], k => by simp [nth]
  | a :: l, 0 => rfl
  | a :: l, k + 1 => by
    show nth l k = _
    rw [nth_eq l k]; simp

def dropF {α : Type} (n : Nat) : List α → List α :=
  Nat.rec (motive := fun _ => List α → List α) (fun l => l) (fun _ ih l => List.rec (motive := fun _ => List α) [] (fun _ t _ => ih t) l) n
theorem dropF_eq {α : Type} : ∀ (n : Nat) (l : List α), dropF n l = l.drop n
  | 0, l => rfl
  | n + 1, [] => rfl
  | n + 1, a :: l => by
    show dropF n l = _
    rw [dropF_eq n l]; rfl

def lenF {α : Type} (l : List α) : Nat := List.rec (motive := fun _ => Nat) 0 (fun _ _ ih => Nat.succ ih) l
theorem lenF_eq {α : Type} : ∀ (l : List α), lenF l = l.length
  | [] => rfl
  | a :: l => by show Nat.succ (lenF l) = _; rw [lenF_eq l]; rfl

/-- Is a list so long? -/
def lenIs {α : Type} (l : List α) : Nat → Bool :=
  List.rec (motive := fun _ => Nat → Bool) (fun n => Nat.beq n 0) (fun _ _ ih n => Nat.rec false (fun p _ => ih p) n) l
theorem lenIs_eq {α : Type} : ∀ (l : List α) (n : Nat), lenIs l n = Nat.beq l.length n
  | [], 0 => rfl
  | [], n + 1 => rfl
  | a :: l, 0 => rfl
  | a :: l, n + 1 => by show lenIs l n = _; rw [lenIs_eq l n]; rfl

section
variable {α β : Type}
/-- The first n of a list; none if there are less. -/
def takeK (n : Nat) : List α → (List α → Option β) → Option β :=
  Nat.rec (motive := fun _ => List α → (List α → Option β) → Option β) (fun _ K => K [])
    (fun _ ih l K => List.rec (motive := fun _ => Option β) none (fun a t _ => ih t fun r => K (a :: r)) l) n
theorem takeK_eq : ∀ (n : Nat) (l : List α) (K : List α → Option β), takeK n l K = bif Nat.ble n l.length then K (l.take n) else none
  | 0, l, K => rfl
  | n + 1, [], K => rfl
  | n + 1, a :: l, K => by
    show takeK n l (fun r => K (a :: r)) = _
    rw [takeK_eq n l]; rfl

/-- vs, n of them, in the place of as many. -/
def replK (n : Nat) : List α → List α → (List α → Option β) → Option β :=
  Nat.rec (motive := fun _ => List α → List α → (List α → Option β) → Option β)
    (fun vs cs K => List.rec (motive := fun _ => Option β) (K cs) (fun _ _ _ => none) vs)
    (fun _ ih vs cs K => List.rec (motive := fun _ => Option β) none (fun v vt _ => List.rec (motive := fun _ => Option β) none (fun _ ct _ => ih vt ct fun r => K (v :: r)) cs) vs) n
theorem replK_eq : ∀ (n : Nat) (vs cs : List α) (K : List α → Option β), replK n vs cs K = bif Nat.beq vs.length n && Nat.ble n cs.length then K (vs ++ cs.drop n) else none
  | 0, [], cs, K => rfl
  | 0, v :: vs, cs, K => rfl
  | n + 1, [], cs, K => rfl
  | n + 1, v :: vs, [], K => by
    show none = _
    have : Nat.ble (n + 1) ([] : List α).length = false := rfl
    rw [this, Bool.and_false]; rfl
  | n + 1, v :: vs, c :: cs, K => by
    show replK n vs cs (fun r => K (v :: r)) = _
    rw [replK_eq n vs cs]; rfl

def spliceK (n : Nat) (vs : List α) (off : Nat) : List α → (List α → Option β) → Option β :=
  Nat.rec (motive := fun _ => List α → (List α → Option β) → Option β) (fun cs K => replK n vs cs K)
    (fun _ ih cs K => List.rec (motive := fun _ => Option β) none (fun c ct _ => ih ct fun r => K (c :: r)) cs) off
end

theorem spliceK_eq {β : Type} (n : Nat) (vs : List Value) : ∀ (off : Nat) (cs : List Value) (K : List Value → Option β),
    spliceK n vs off cs K = bif Nat.beq vs.length n && Nat.ble (off + n) cs.length then K (splice cs off vs) else none
  | 0, cs, K => by
    show replK n vs cs K = _
    rw [replK_eq, Nat.zero_add]
    cases hb : Nat.beq vs.length n && Nat.ble n cs.length with
    | false => rfl
    | true =>
      simp only [Bool.and_eq_true, beq_iff] at hb
      simp [splice, hb.1]
  | off + 1, [], K => by
    show none = _
    have : Nat.ble (off + 1 + n) ([] : List Value).length = false := by
      cases hb : Nat.ble (off + 1 + n) ([] : List Value).length with
      | false => rfl
      | true => have := Nat.le_of_ble_eq_true hb; simp at this
    rw [this, Bool.and_false]; rfl
  | off + 1, c :: cs, K => by
    show spliceK n vs off cs (fun r => K (c :: r)) = _
    rw [spliceK_eq n vs off cs]
    have : Nat.ble (off + 1 + n) (c :: cs).length = Nat.ble (off + n) cs.length := by
      rw [show off + 1 + n = (off + n) + 1 by omega]; rfl
    rw [this]
    have e : splice (c :: cs) (off + 1) vs = c :: splice cs off vs := by
      simp only [splice, List.take_succ_cons, List.cons_append, List.cons.injEq, true_and]
      rw [show off + 1 + vs.length = (off + vs.length) + 1 by omega, List.drop_succ_cons]
    rw [e]

/-! Values. -/
section
variable {γ : Type}
/-- By a value's kind. -/
def vE (fb : Bool → γ) (fi : IntKind → Int → γ) (fs : ByteArray → γ) (fp : Option Addr → γ) (fl : Option Addr → Nat → Nat → γ) (fa : Array Value → γ) (ft : Array Value → γ) (d : Value → γ) (v : Value) : γ :=
  Value.rec (motive_1 := fun _ => γ) (motive_2 := fun _ => PUnit) (motive_3 := fun _ => PUnit) fb fi (fun k b => d (.float k b)) (fun k a b => d (.complex k a b)) fs fp fl (fun r => d (.map r)) (fun r => d (.chan r))
    (fun f a b _ _ => d (.func f a b)) (d .nilFunc) (fun t v _ => d (.iface t v)) (d .nilIface) (fun a _ => fa a) (fun a _ => ft a) (fun _ _ => ⟨⟩) ⟨⟩ (fun _ _ _ _ => ⟨⟩) v
end

/-- A place. -/
def ptr {β : Type} (v : Value) (K : Nat → Nat → Option β) : Option β :=
  vE (fun _ => none) (fun _ _ => none) (fun _ => none) (fun a => Option.rec (motive := fun _ => Option β) none (fun a => Addr.rec (motive := fun _ => Option β) (fun id off s => Option.rec (motive := fun _ => Option β) (K id off) (fun _ => none) s) a) a)
    (fun _ _ _ => none) (fun _ => none) (fun _ => none) (fun _ => none) v

def cellsV : Value → List Value → (List Value) := fun v _ => [v]

/-- The cells of a value. -/
def cellsK {β : Type} (v : Value) (K : List Value → Option β) : Option β :=
  vE (fun b => K [.bool b]) (fun k n => K [.int k n]) (fun s => K [.string s]) (fun a => K [.pointer a]) (fun a l c => K [.slice a l c]) (fun a => Array.rec (motive := fun _ => Option β) (fun cs => K cs) a) (fun _ => none) (fun v => K [v]) v

theorem cellsK_eq {β : Type} (v : Value) (K : List Value → Option β) : cellsK v K = (cellsL v).bind K := by
  cases v <;> rfl

def load1F (v : Value) (h : H) : Option Value := ptr v fun id off => ob (hget h id) fun b => Blk.rec (motive := fun _ => Option Value) (fun cs _ => nth cs off) (fun _ _ => none) (fun _ _ => none) (fun _ _ _ _ => none) (fun _ _ _ _ _ _ => none) b
theorem load1F_eq (v : Value) (h : H) : load1F v h = A.load1 v h := by
  unfold load1F
  cases v <;> try rfl
  rename_i a
  cases a with
  | none => rfl
  | some a =>
    obtain ⟨id, off, s⟩ := a
    cases s with
    | some s => rfl
    | none =>
      show ob (hget h id) _ = _
      rw [hget_eq, ob_eq]
      simp only [A.load1]
      cases hg : h.get id with
      | none => rfl
      | some b => cases b <;> first | exact nth_eq _ _ | rfl

def loadNF (n : Nat) (v : Value) (h : H) : Option Value := ptr v fun id off => ob (hget h id) fun b => Blk.rec (motive := fun _ => Option Value) (fun cs _ => takeK n (dropF off cs) fun l => some (.agg ⟨l⟩)) (fun _ _ => none) (fun _ _ => none) (fun _ _ _ _ => none) (fun _ _ _ _ _ _ => none) b
theorem ble_sub (off n l : Nat) : Nat.ble n (l - off) = (Nat.beq n 0 || Nat.ble (off + n) l) := by
  rw [Bool.eq_iff_iff]; simp; omega
theorem loadNF_eq {n : Nat} (hn : 0 < n) (v : Value) (h : H) : loadNF n v h = A.loadN n v h := by
  unfold loadNF
  cases v <;> try rfl
  rename_i a
  cases a with
  | none => rfl
  | some a =>
    obtain ⟨id, off, s⟩ := a
    cases s with
    | some s => rfl
    | none =>
      show ob (hget h id) _ = _
      rw [hget_eq, ob_eq]
      simp only [A.loadN]
      cases hg : h.get id with
      | none => rfl
      | some b =>
        cases b <;> try rfl
        rename_i cs own
        show takeK n (dropF off cs) _ = _
        rw [takeK_eq, dropF_eq, List.length_drop, ble_sub]
        have : Nat.beq n 0 = false := by cases n with | zero => omega | succ n => rfl
        rw [this, Bool.false_or]

def loadF (agg : Bool) (n : Nat) (v : Value) (h : H) : Option Value := Bool.rec (load1F v h) (Nat.rec (A.loadN 0 v h) (fun _ _ => loadNF n v h) n) agg
theorem loadF_eq (agg : Bool) (n : Nat) (v : Value) (h : H) : loadF agg n v h = A.load agg n v h := by
  cases agg with
  | false => exact load1F_eq v h
  | true => cases n with
    | zero => rfl
    | succ n => exact loadNF_eq (Nat.succ_pos n) v h

def storeF (n : Nat) (p v : Value) (h : H) : Option H :=
  ptr p fun id off => ob (hget h id) fun b => Blk.rec (motive := fun _ => Option H) (fun cs own => ob own fun es => cellsK v fun vs => spliceK n vs off cs fun l => some (hput h id (.cells l (some es)))) (fun _ _ => none) (fun _ _ => none) (fun _ _ _ _ => none) (fun _ _ _ _ _ _ => none) b
theorem storeF_eq (n : Nat) (p v : Value) (h : H) : storeF n p v h = A.store n p v h := by
  unfold storeF
  cases p <;> try rfl
  rename_i a
  cases a with
  | none => rfl
  | some a =>
    obtain ⟨id, off, s⟩ := a
    cases s with
    | some s => rfl
    | none =>
      show ob (hget h id) _ = _
      rw [hget_eq, ob_eq]
      simp only [A.store]
      cases hg : h.get id with
      | none => rfl
      | some b =>
        cases b <;> try rfl
        rename_i cs own
        cases own with
        | none => rfl
        | some es =>
          simp only [Option.bind_some]
          show cellsK v (fun vs => spliceK n vs off cs fun l => some (hput h id (.cells l (some es)))) = _
          rw [cellsK_eq]
          cases hv : cellsL v with
          | none => rfl
          | some vs =>
            simp only [Option.bind_some, spliceK_eq, hput_eq]

def boxF (t n : Nat) (v : Value) (h : H) : Option (Value × H) :=
  cellsK v fun vs => Bool.rec none (some (.pointer (some ⟨h.next, 0, none⟩), hpush h (.cells vs (some (enc t 0))))) (lenIs vs n)
theorem boxF_eq (t n : Nat) (v : Value) (h : H) : boxF t n v h = A.box t n v h := by
  unfold boxF
  rw [cellsK_eq]
  unfold A.box
  cases hv : cellsL v with
  | none => rfl
  | some vs =>
    simp only [Option.bind_some, lenIs_eq, hpush_eq]
    cases Nat.beq vs.length n <;> rfl

def partF (agg : Bool) (n off : Nat) (x : Value) : Option Value :=
  vE (fun _ => none) (fun _ _ => none) (fun _ => none) (fun _ => none) (fun _ _ _ => none)
    (fun a => Array.rec (motive := fun _ => Option Value) (fun cs => Bool.rec (nth cs off) (Nat.rec (A.part true 0 off x) (fun _ _ => takeK n (dropF off cs) fun l => some (.agg ⟨l⟩)) n) agg) a) (fun _ => none) (fun _ => none) x
theorem partF_eq (agg : Bool) (n off : Nat) (x : Value) : partF agg n off x = A.part agg n off x := by
  cases x <;> try rfl
  rename_i a
  obtain ⟨cs⟩ := a
  cases agg with
  | false => exact nth_eq _ _
  | true =>
    cases n with
    | zero => rfl
    | succ n =>
      have e : partF true (n + 1) off (.agg ⟨cs⟩) = takeK (n + 1) (dropF off cs) fun l => some (.agg ⟨l⟩) := rfl
      rw [e, takeK_eq, dropF_eq, List.length_drop, ble_sub]
      rfl

/-! Numbers. -/
def kN (k : IntKind) : Nat := IntKind.rec 0 1 2 3 4 5 6 7 k
def kEq (a b : IntKind) : Bool := Nat.beq (kN a) (kN b)
theorem kEq_eq (a b : IntKind) : kEq a b = (a == b) := by cases a <;> cases b <;> rfl
/-- What stays as it is. -/
def lim (k : IntKind) : Nat := IntKind.rec 128 32768 2147483648 9223372036854775808 256 65536 4294967296 18446744073709551616 k
def wrapF (k : IntKind) (z : Int) : Value :=
  Int.rec (motive := fun _ => Value) (fun n => Bool.rec (.int k (k.wrap (.ofNat n))) (sn n fun n => .int k (.ofNat n)) (Nat.blt n (lim k))) (fun n => .int k (k.wrap (.negSucc n))) z
theorem wrapF_eq (k : IntKind) (z : Int) : wrapF k z = .int k (k.wrap z) := by
  cases z with
  | negSucc n => rfl
  | ofNat n =>
    show (Bool.rec (.int k (k.wrap (.ofNat n))) (sn n fun n => .int k (.ofNat n)) (Nat.blt n (lim k)) : Value) = _
    cases hb : Nat.blt n (lim k) with
    | false => rfl
    | true =>
      rw [sn_eq]
      have hl : n < lim k := blt_iff.1 hb
      have : k.wrap (.ofNat n) = .ofNat n := by
        simp only [IntKind.wrap, Int.ofNat_eq_natCast]
        cases k <;> simp [lim] at hl <;> simp [IntKind.bits, IntKind.signed] <;> omega
      rw [this]
def ieq (x y : Int) : Bool :=
  Int.rec (motive := fun _ => Bool) (fun m => Int.rec (motive := fun _ => Bool) (fun n => Nat.beq m n) (fun _ => false) y) (fun m => Int.rec (motive := fun _ => Bool) (fun _ => false) (fun n => Nat.beq m n) y) x
def ilt (x y : Int) : Bool :=
  Int.rec (motive := fun _ => Bool) (fun m => Int.rec (motive := fun _ => Bool) (fun n => Nat.blt m n) (fun _ => false) y) (fun m => Int.rec (motive := fun _ => Bool) (fun _ => true) (fun n => Nat.blt n m) y) x
end
end Go.AM.F
