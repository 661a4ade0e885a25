/-
  An abstract machine for the model: the base: a binary trie, the relation of values, of heaps, and of a step. No program in sight.
-/
import Derived.Orders
import Derived.LoopN
import Derived.Below
namespace Go.AM
open Go

/-! A binary trie over Nat. -/
inductive T (α : Type) where
  | nil
  | node (l : T α) (v : Option α) (r : T α)

namespace T
variable {α : Type}
def get : T α → Nat → Option α
  | .nil, _ => none
  | .node l v r, k => bif Nat.beq k 0 then v else bif Nat.beq (Nat.mod k 2) 1 then l.get (Nat.div (Nat.sub k 1) 2) else r.get (Nat.div (Nat.sub k 2) 2)

def setF : Nat → T α → Nat → Option α → T α
  | 0, t, _, _ => t
  | f + 1, .nil, k, x => bif Nat.beq k 0 then .node .nil x .nil
      else bif Nat.beq (Nat.mod k 2) 1 then .node (setF f .nil (Nat.div (Nat.sub k 1) 2) x) none .nil
      else .node .nil none (setF f .nil (Nat.div (Nat.sub k 2) 2) x)
  | f + 1, .node l v r, k, x => bif Nat.beq k 0 then .node l x r
      else bif Nat.beq (Nat.mod k 2) 1 then .node (setF f l (Nat.div (Nat.sub k 1) 2) x) v r
      else .node l v (setF f r (Nat.div (Nat.sub k 2) 2) x)

def set (t : T α) (k : Nat) (x : Option α) : T α := setF (k + 1) t k x

theorem beq_dec (a b : Nat) : Nat.beq a b = decide (a = b) := by rw [Bool.eq_iff_iff]; simp

@[simp] theorem get_nil (k : Nat) : (T.nil : T α).get k = none := rfl

theorem get_node (l : T α) (v : Option α) (r : T α) (k : Nat) :
    (T.node l v r).get k = if k = 0 then v else if k % 2 = 1 then l.get ((k - 1) / 2) else r.get ((k - 2) / 2) := by
  rw [get]
  have e0 : Nat.beq k 0 = decide (k = 0) := beq_dec _ _
  have e1 : Nat.beq (Nat.mod k 2) 1 = decide (k % 2 = 1) := beq_dec _ _
  rw [e0, e1]
  by_cases h : k = 0
  · simp [h]
  · by_cases h1 : k % 2 = 1
    · simp [h, h1]; rfl
    · simp [h, h1]; rfl

theorem getF : ∀ (f : Nat) (t : T α) (k : Nat) (x : Option α) (j : Nat), k < f → (setF f t k x).get j = if j = k then x else t.get j := by
  intro f
  induction f with
  | zero => intro t k x j h; omega
  | succ f ih =>
    intro t k x j hk
    have e0 : Nat.beq k 0 = decide (k = 0) := beq_dec _ _
    have e1 : Nat.beq (Nat.mod k 2) 1 = decide (k % 2 = 1) := beq_dec _ _
    have d1 : Nat.div (Nat.sub k 1) 2 = (k - 1) / 2 := rfl
    have d2 : Nat.div (Nat.sub k 2) 2 = (k - 2) / 2 := rfl
    cases t with
    | nil =>
      rw [setF, e0, e1, d1, d2]
      by_cases h : k = 0
      · subst h
        simp only [decide_true, cond_true, get_node, get_nil]
        split <;> simp_all
      · by_cases h1 : k % 2 = 1
        · simp only [h, decide_false, cond_false, h1, decide_true, cond_true, get_node, get_nil]
          rw [ih _ _ _ _ (by omega)]
          by_cases hj : j = k
          · subst hj; simp [h, h1]
          · simp only [hj, if_false]
            split
            · rfl
            · split
              · rw [if_neg (by omega)]; rfl
              · rfl
        · simp only [h, decide_false, cond_false, h1, get_node, get_nil]
          rw [ih _ _ _ _ (by omega)]
          by_cases hj : j = k
          · subst hj; simp [h, h1]
          · simp only [hj, if_false]
            split
            · rfl
            · split
              · rfl
              · rw [if_neg (by omega)]; rfl
    | node l v r =>
      rw [setF, e0, e1, d1, d2]
      by_cases h : k = 0
      · subst h
        simp only [decide_true, cond_true, get_node]
        split <;> simp_all
      · by_cases h1 : k % 2 = 1
        · simp only [h, decide_false, cond_false, h1, decide_true, cond_true, get_node]
          rw [ih _ _ _ _ (by omega)]
          by_cases hj : j = k
          · subst hj; simp [h, h1]
          · simp only [hj, if_false]
            split
            · rfl
            · split
              · rw [if_neg (by omega)]
              · rfl
        · simp only [h, decide_false, cond_false, h1, get_node]
          rw [ih _ _ _ _ (by omega)]
          by_cases hj : j = k
          · subst hj; simp [h, h1]
          · simp only [hj, if_false]
            split
            · rfl
            · split
              · rfl
              · rw [if_neg (by omega)]

theorem get_set (t : T α) (k : Nat) (x : Option α) (j : Nat) : (t.set k x).get j = if j = k then x else t.get j :=
  getF (k + 1) t k x j (Nat.lt_succ_self k)

@[simp] theorem get_set_same (t : T α) (k : Nat) (x : Option α) : (t.set k x).get k = x := by rw [get_set, if_pos rfl]
theorem get_set_ne (t : T α) {k j : Nat} (x : Option α) (h : j ≠ k) : (t.set k x).get j = t.get j := by rw [get_set, if_neg h]
end T

/-! Places, and the relation of values. -/
structure Loc where
  blk : Nat
  off : Nat
  es : Nat
  size : Nat

abbrev Mu := Nat → Option Loc

/-- Not an aggregate: what lies in one cell. -/
def cellish : Value → Bool
  | .agg _ | .tuple _ => false
  | _ => true

/-- What a block of the call's own is owned in: the size of its elements (0: a box), and its type. -/
abbrev KB : Nat := 4294967296
def enc (t n : Nat) : Nat := Nat.add n (Nat.mul KB (Nat.succ t))
theorem enc_mod {t n : Nat} (h : n < KB) : enc t n % KB = n := by
  show (n + KB * (t + 1)) % KB = n
  rw [Nat.add_mul_mod_self_left, Nat.mod_eq_of_lt h]
theorem enc_div {t n : Nat} (h : n < KB) : enc t n / KB = t + 1 := by
  show (n + KB * (t + 1)) / KB = t + 1
  rw [Nat.add_mul_div_left _ _ (by decide), Nat.div_eq_of_lt h, Nat.zero_add]
/-- A capacity is written 2 * c + e: e = 1: it is c; e = 0: it is at least c. -/
def CapOK (l : Loc) (off c c' : Nat) : Prop :=
  if c % 2 = 1 then c' = c / 2 else c / 2 ≤ c' ∧ l.off + off + c' * (l.es % KB) ≤ l.size

inductive VR (μ : Mu) : Value → Value → Prop
  | bool (b : Bool) : VR μ (.bool b) (.bool b)
  | int (k : IntKind) (n : Int) : VR μ (.int k n) (.int k n)
  | float (k : FloatKind) (b : Nat) : VR μ (.float k b) (.float k b)
  | string (s : ByteArray) : VR μ (.string s) (.string s)
  | ptrNil : VR μ (.pointer none) (.pointer none)
  | ptr {id off : Nat} {l : Loc} (h : μ id = some l) : VR μ (.pointer (some ⟨id, off, none⟩)) (.pointer (some ⟨l.blk, l.off + off, none⟩))
  | sliceNil : VR μ (.slice none 0 0) (.slice none 0 0)
  | slice {id off len c c' : Nat} {l : Loc} {a' : Addr} (h : μ id = some l) (hc : CapOK l off c c') (hl : len ≤ c / 2)
      (ha : c' ≠ 0 → a' = ⟨l.blk, l.off + off, none⟩) : VR μ (.slice (some ⟨id, off, none⟩) len c) (.slice (some a') len c')
  | mapNil : VR μ (.map none) (.map none)
  | map {id : Nat} {l : Loc} (h : μ id = some l) : VR μ (.map (some id)) (.map (some l.blk))
  | nilFunc : VR μ .nilFunc .nilFunc
  | func (f : FuncId) (cs ds : List Value) (cs' ds' : List Value) (h1 : cs.length = cs'.length) (h2 : ds.length = ds'.length)
      (g1 : ∀ (i : Nat) (a b : Value), cs[i]? = some a → cs'[i]? = some b → VR μ a b)
      (g2 : ∀ (i : Nat) (a b : Value), ds[i]? = some a → ds'[i]? = some b → VR μ a b) :
      VR μ (.func (.func f) ⟨cs⟩ ⟨ds⟩) (.func (.func f) ⟨cs'⟩ ⟨ds'⟩)
  | yield {id : Nat} {l : Loc} (h : μ id = some l) : VR μ (.func (.yield id) #[] #[]) (.func (.yield l.blk) #[] #[])
  | methOf (t : TypeId) (m : String) : VR μ (.func (.methodOf t m) #[] #[]) (.func (.methodOf t m) #[] #[])
  | nilIface : VR μ .nilIface .nilIface
  | iface (t : TypeId) {v v' : Value} (h : VR μ v v') : VR μ (.iface t v) (.iface t v')
  | agg (cs ds : List Value) (h : cs.length = ds.length) (g : ∀ (i : Nat) (a b : Value), cs[i]? = some a → ds[i]? = some b → VR μ a b)
      (hc : ∀ a ∈ cs, cellish a = true) : VR μ (.agg ⟨cs⟩) (.agg ⟨ds⟩)
  | tuple (cs ds : List Value) (h : cs.length = ds.length) (g : ∀ (i : Nat) (a b : Value), cs[i]? = some a → ds[i]? = some b → VR μ a b) :
      VR μ (.tuple ⟨cs⟩) (.tuple ⟨ds⟩)

/-- Two lists of related values. -/
def LR (μ : Mu) (cs ds : List Value) : Prop :=
  cs.length = ds.length ∧ ∀ (i : Nat) (a b : Value), cs[i]? = some a → ds[i]? = some b → VR μ a b

def Mu.le (μ μ' : Mu) : Prop := ∀ id l, μ id = some l → μ' id = some l

theorem VR.mono {μ μ' : Mu} (h : μ.le μ') {v w : Value} (r : VR μ v w) : VR μ' v w := by
  induction r with
  | bool b => exact .bool b
  | int k n => exact .int k n
  | float k b => exact .float k b
  | string s => exact .string s
  | ptrNil => exact .ptrNil
  | ptr hl => exact .ptr (h _ _ hl)
  | sliceNil => exact .sliceNil
  | slice hl hc hn ha => exact .slice (h _ _ hl) hc hn ha
  | mapNil => exact .mapNil
  | map hl => exact .map (h _ _ hl)
  | nilFunc => exact .nilFunc
  | func f cs ds cs' ds' h1 h2 g1 g2 i1 i2 => exact .func f cs ds cs' ds' h1 h2 i1 i2
  | yield hl => exact .yield (h _ _ hl)
  | methOf t m => exact .methOf t m
  | nilIface => exact .nilIface
  | iface t _ ih => exact .iface t ih
  | agg cs ds hl g hc ih => exact .agg cs ds hl ih hc
  | tuple cs ds hl g ih => exact .tuple cs ds hl ih

theorem LR.mono {μ μ' : Mu} (h : μ.le μ') {v w : List Value} (r : LR μ v w) : LR μ' v w :=
  ⟨r.1, fun i a b ha hb => (r.2 i a b ha hb).mono h⟩

theorem VR.cell_eq {μ : Mu} {v w : Value} (h : VR μ v w) : AM.cellish v = AM.cellish w := by
  cases h <;> rfl

/-! Values without an address. -/
mutual
def plain : Value → Bool
  | .bool _ | .int _ _ | .float _ _ | .string _ | .nilFunc | .nilIface => true
  | .complex _ _ _ => false
  | .pointer a => a.isNone
  | .slice a l c => a.isNone && Nat.beq l 0 && Nat.beq c 0
  | .map r => r.isNone
  | .chan _ => false
  | .func (.func _) f c => plainA f && plainA c
  | .func _ _ _ => false
  | .iface _ v => plain v
  | .agg cs => plainC cs
  | .tuple vs => plainA vs
def plainA : Array Value → Bool
  | ⟨l⟩ => plainL l
def plainL : List Value → Bool
  | [] => true
  | v :: r => plain v && plainL r
def plainC : Array Value → Bool
  | ⟨l⟩ => plainCL l
def plainCL : List Value → Bool
  | [] => true
  | v :: r => plain v && cellish v && plainCL r
end

theorem plainL_get : ∀ (l : List Value), plainL l = true → ∀ (i : Nat) (a : Value), l[i]? = some a → plain a = true
  | [], _, i, a, h => by simp at h
  | v :: r, hp, i, a, h => by
    simp only [plainL, Bool.and_eq_true] at hp
    cases i with
    | zero => simp at h; exact h ▸ hp.1
    | succ i => exact plainL_get r hp.2 i a (by simpa using h)
theorem plainCL_get : ∀ (l : List Value), plainCL l = true → ∀ (i : Nat) (a : Value), l[i]? = some a → plain a = true ∧ cellish a = true
  | [], _, i, a, h => by simp at h
  | v :: r, hp, i, a, h => by
    simp only [plainCL, Bool.and_eq_true] at hp
    cases i with
    | zero => simp at h; exact h ▸ hp.1
    | succ i => exact plainCL_get r hp.2 i a (by simpa using h)

/-- A plain value is related to itself alone. -/
theorem VR.eq_of_plain {μ : Mu} {v w : Value} (r : VR μ v w) (hp : plain v = true) : w = v := by
  induction r with
  | bool b => rfl
  | int k n => rfl
  | float k b => rfl
  | string s => rfl
  | ptrNil => rfl
  | ptr hl => simp [plain] at hp
  | sliceNil => rfl
  | slice hl hc hn ha => simp [plain] at hp
  | mapNil => rfl
  | map hl => simp [plain] at hp
  | nilFunc => rfl
  | func f cs ds cs' ds' h1 h2 g1 g2 i1 i2 =>
    simp only [plain, plainA, Bool.and_eq_true] at hp
    have e1 : cs' = cs := List.ext_getElem? fun i => by
      cases ha : cs[i]? with
      | none => rw [List.getElem?_eq_none_iff] at ha ⊢; omega
      | some a =>
        have hi : i < cs'.length := by rw [← h1]; exact (List.getElem?_eq_some_iff.1 ha).1
        rw [List.getElem?_eq_getElem hi]
        rw [i1 i a _ ha (List.getElem?_eq_getElem hi) (plainL_get _ hp.1 i a ha)]
    have e2 : ds' = ds := List.ext_getElem? fun i => by
      cases ha : ds[i]? with
      | none => rw [List.getElem?_eq_none_iff] at ha ⊢; omega
      | some a =>
        have hi : i < ds'.length := by rw [← h2]; exact (List.getElem?_eq_some_iff.1 ha).1
        rw [List.getElem?_eq_getElem hi]
        rw [i2 i a _ ha (List.getElem?_eq_getElem hi) (plainL_get _ hp.2 i a ha)]
    rw [e1, e2]
  | yield hl => simp [plain] at hp
  | methOf t m => rfl
  | nilIface => rfl
  | iface t _ ih => simp only [plain] at hp; rw [ih hp]
  | agg cs ds hl g hc ih =>
    simp only [plain, plainC] at hp
    have e1 : ds = cs := List.ext_getElem? fun i => by
      cases ha : cs[i]? with
      | none => rw [List.getElem?_eq_none_iff] at ha ⊢; omega
      | some a =>
        have hi : i < ds.length := by rw [← hl]; exact (List.getElem?_eq_some_iff.1 ha).1
        rw [List.getElem?_eq_getElem hi]
        rw [ih i a _ ha (List.getElem?_eq_getElem hi) (plainCL_get _ hp i a ha).1]
    rw [e1]
  | tuple cs ds hl g ih =>
    simp only [plain, plainA] at hp
    have e1 : ds = cs := List.ext_getElem? fun i => by
      cases ha : cs[i]? with
      | none => rw [List.getElem?_eq_none_iff] at ha ⊢; omega
      | some a =>
        have hi : i < ds.length := by rw [← hl]; exact (List.getElem?_eq_some_iff.1 ha).1
        rw [List.getElem?_eq_getElem hi]
        rw [ih i a _ ha (List.getElem?_eq_getElem hi) (plainL_get _ hp i a ha)]
    rw [e1]

mutual
theorem VR.of_plain (μ : Mu) : ∀ (v : Value), plain v = true → VR μ v v
  | .bool b, _ => .bool b
  | .int k n, _ => .int k n
  | .float k b, _ => .float k b
  | .string s, _ => .string s
  | .nilFunc, _ => .nilFunc
  | .nilIface, _ => .nilIface
  | .complex _ _ _, h => by simp [plain] at h
  | .pointer none, _ => .ptrNil
  | .pointer (some a), h => by simp [plain] at h
  | .slice (some a) l c, h => by simp [plain] at h
  | .slice none l c, h => by
    simp [plain] at h
    obtain ⟨rfl, rfl⟩ := h
    exact .sliceNil
  | .map none, _ => .mapNil
  | .map (some r), h => by simp [plain] at h
  | .chan _, h => by simp [plain] at h
  | .func (.func f) ⟨cs⟩ ⟨ds⟩, h => by
    simp only [plain, plainA, Bool.and_eq_true] at h
    exact .func f cs ds cs ds rfl rfl (of_plainL μ cs h.1) (of_plainL μ ds h.2)
  | .func (.method _) _ _, h => by simp [plain] at h
  | .func (.methodOf _ _) _ _, h => by simp [plain] at h
  | .func (.via _ _ _ _) _ _, h => by simp [plain] at h
  | .func (.yield _) _ _, h => by simp [plain] at h
  | .iface t v, h => .iface t (VR.of_plain μ v (by simpa [plain] using h))
  | .agg ⟨cs⟩, h => by
    simp only [plain, plainC] at h
    exact .agg cs cs rfl (of_plainCL μ cs h) (fun a ha => by
      obtain ⟨i, hi⟩ := List.mem_iff_getElem?.1 ha
      exact (plainCL_get cs h i a hi).2)
  | .tuple ⟨cs⟩, h => by
    simp only [plain, plainA] at h
    exact .tuple cs cs rfl (of_plainL μ cs h)
theorem of_plainL (μ : Mu) : ∀ (l : List Value), plainL l = true → ∀ (i : Nat) (a b : Value), l[i]? = some a → l[i]? = some b → VR μ a b
  | [], _, i, a, b, h, _ => by simp at h
  | v :: r, hp, i, a, b, ha, hb => by
    simp only [plainL, Bool.and_eq_true] at hp
    cases i with
    | zero => simp at ha hb; subst ha; subst hb; exact VR.of_plain μ v hp.1
    | succ i => exact of_plainL μ r hp.2 i a b (by simpa using ha) (by simpa using hb)
theorem of_plainCL (μ : Mu) : ∀ (l : List Value), plainCL l = true → ∀ (i : Nat) (a b : Value), l[i]? = some a → l[i]? = some b → VR μ a b
  | [], _, i, a, b, h, _ => by simp at h
  | v :: r, hp, i, a, b, ha, hb => by
    simp only [plainCL, Bool.and_eq_true] at hp
    cases i with
    | zero => simp at ha hb; subst ha; subst hb; exact VR.of_plain μ v hp.1.1
    | succ i => exact of_plainCL μ r hp.2 i a b (by simpa using ha) (by simpa using hb)
end

/-! The abstract heap. -/
structure Ent where
  key : Value
  val : Value
  born : Nat

/-- How a loop over a function stands; done: a round has left it, by ret (none) or for a block. -/
inductive LSt where
  | ready | busy | done (j : Option Nat) | exhausted

inductive Blk where
  /-- cells; own: none: they may only be read; some es: they are the call's own, and lie in elements of es cells -/
  | cells (cs : List Value) (own : Option Nat)
  | map (es : List Ent) (clock : Nat)
  | siter (s : ByteArray) (pos : Nat)
  | miter (m : Option Nat) (since : Nat) (seen : List Nat) (last : Nat)
  /-- a loop over a function: its frame, what each round fills, its code -/
  | loop (nt : Nat) (fr : T Value) (ps : List Tmp) (assign body : Code) (st : LSt)

def Blk.owned : Blk → Bool
  | .cells _ own => own.isSome
  | _ => true

structure H where
  m : T Blk
  next : Nat

namespace H
def get (h : H) (id : Nat) : Option Blk := h.m.get id
def push (h : H) (b : Blk) : H := ⟨h.m.set h.next (some b), h.next + 1⟩
def put (h : H) (id : Nat) (b : Blk) : H := ⟨h.m.set id (some b), h.next⟩
def kill (h : H) (id : Nat) : H := ⟨h.m.set id none, h.next⟩
theorem get_push (h : H) (b : Blk) (j : Nat) : (h.push b).get j = if j = h.next then some b else h.get j := T.get_set _ _ _ _
theorem get_put (h : H) (id : Nat) (b : Blk) (j : Nat) : (h.put id b).get j = if j = id then some b else h.get j := T.get_set _ _ _ _
theorem get_kill (h : H) (id : Nat) (j : Nat) : (h.kill id).get j = if j = id then none else h.get j := T.get_set _ _ _ _
@[simp] theorem next_push (h : H) (b : Blk) : (h.push b).next = h.next + 1 := rfl
@[simp] theorem next_put (h : H) (id : Nat) (b : Blk) : (h.put id b).next = h.next := rfl
@[simp] theorem next_kill (h : H) (id : Nat) : (h.kill id).next = h.next := rfl
end H

/-- What an entry of a map is related to. -/
def ER (μ : Mu) (e : Ent) (c : MapEntry) : Prop := c.key = e.key ∧ c.born = e.born ∧ VR μ e.val c.val

/-- What a map's name in an iterator is related to. -/
def MR (μ : Mu) : Option Nat → Option Nat → Prop
  | none, none => True
  | some a, some b => ∃ l, μ a = some l ∧ l.blk = b
  | _, _ => False

/-- The jump that is left. -/
def jumpOf : Option Nat → Code
  | none => .ret
  | some id => .exit id

def LStR (st : LSt) (r : Loop) : Prop :=
  match st with
  | .ready => r.state = .ready ∧ r.pending = none
  | .busy => r.state = .busy
  | .done j => r.state = .done ∧ r.pending = some (jumpOf j)
  | .exhausted => r.state = .exhausted

def BR (μ : Mu) (b : Blk) (l : Loc) (w : World) : Prop :=
  match b with
  | .cells cs own => ∃ ccs ty fz, w.heap[l.blk]? = some (.cells ccs ty fz) ∧ ccs.size = l.size ∧ l.off + cs.length ≤ l.size ∧
      (∀ (i : Nat) (v : Value), cs[i]? = some v → ∃ c, ccs[l.off + i]? = some c ∧ VR μ v c ∧ cellish v = true) ∧
      (own.isSome = true → ∀ (i : Nat), i < l.size → ¬ (fz.1 ≤ i ∧ i < fz.2)) ∧ (∀ es, own = some es → l.es = es ∧ ty + 1 = es / KB ∧ (es % KB = 0 → l.off = 0 ∧ l.size = cs.length))
  | .map es clock => ∃ ces, w.heap[l.blk]? = some (.map ces clock) ∧ ces.size = es.length ∧ (∀ (i : Nat) (e : Ent), es[i]? = some e → plain e.key = true ∧ ∃ c, ces[i]? = some c ∧ ER μ e c)
  | .siter s pos => l.off = 0 ∧ w.heap[l.blk]? = some (.stringIter s pos)
  | .miter m since seen last => l.off = 0 ∧ ∃ m', MR μ m m' ∧ w.heap[l.blk]? = some (.mapIter m' since ⟨seen⟩ last)
  | .loop nt fr ps assign body st => l.off = 0 ∧ ∃ r : Loop, w.heap[l.blk]? = some (.loop r) ∧ LStR st r ∧ r.params = ⟨ps⟩ ∧ r.assign = assign ∧ r.body = body ∧ nt ≤ r.tmps.size ∧
      ∀ (t : Tmp) (v : Value), fr.get t = some v → t < nt ∧ VR μ v (r.tmps.getD t undef)

structure RH (NG : Nat) (μ : Mu) (h : H) (w : World) : Prop where
  ng : NG ≤ h.next
  wf : ∀ id b, h.get id = some b → id < h.next
  br : ∀ id b l, h.get id = some b → μ id = some l → BR μ b l w
  inj : ∀ id b l id' b' l', h.get id = some b → b.owned = true → μ id = some l → h.get id' = some b' → μ id' = some l' → id' ≠ id → l'.blk ≠ l.blk
  bd : ∀ id l, μ id = some l → l.blk < w.heap.size
  gl : ∀ g, g < NG → ∃ l, μ g = some l ∧ l.blk = g ∧ l.off = 0

structure Step (NG : Nat) (μ : Mu) (h : H) (w : World) (μ' : Mu) (h' : H) (w' : World) : Prop where
  wf : ∀ id b, h.get id = some b → id < h.next
  le : μ.le μ'
  old : ∀ id, id < h.next → μ' id = μ id
  out : ∀ id, h'.next ≤ id → μ' id = μ id
  next : h.next ≤ h'.next
  rh : RH NG μ' h' w'
  size : w.heap.size ≤ w'.heap.size
  os : w'.os = w.os
  tape : w'.tape = w.tape
  output : w'.output = w.output
  frame : ∀ b, b < w.heap.size → (∀ id k l, h.get id = some k → k.owned = true → μ id = some l → l.blk ≠ b) → w'.heap[b]? = w.heap[b]?
  src : ∀ id k l, h'.get id = some k → k.owned = true → μ' id = some l → w.heap.size ≤ l.blk ∨ ∃ id0 k0 l0, h.get id0 = some k0 ∧ k0.owned = true ∧ μ id0 = some l0 ∧ l0.blk = l.blk
  unm : ∀ id k, h.get id = some k → μ id = none → h'.get id = some k
  dead : ∀ id, id < h.next → h.get id = none → h'.get id = none
  ro : ∀ id k, h'.get id = some k → k.owned = false → h.get id = some k

/-- The names that a step may give out are free. -/
def Fresh (μ : Mu) (lo hi : Nat) : Prop := ∀ id, lo ≤ id → id < hi → μ id = none

variable {NG : Nat}

theorem Step.refl {μ : Mu} {h : H} {w : World} (r : RH NG μ h w) : Step NG μ h w μ h w :=
  ⟨r.wf, fun _ _ h => h, fun _ _ => rfl, fun _ _ => rfl, Nat.le_refl _, r, Nat.le_refl _, rfl, rfl, rfl, fun _ _ _ => rfl,
    fun id k l hk ho hl => .inr ⟨id, k, l, hk, ho, hl, rfl⟩, fun _ _ h _ => h, fun _ _ h => h, fun _ _ h _ => h⟩

theorem Step.trans {μ μ1 μ2 : Mu} {h h1 h2 : H} {w w1 w2 : World} (a : Step NG μ h w μ1 h1 w1) (b : Step NG μ1 h1 w1 μ2 h2 w2) :
    Step NG μ h w μ2 h2 w2 where
  wf := a.wf
  le := fun id l hl => b.le _ _ (a.le _ _ hl)
  old := fun id hi => (b.old id (Nat.lt_of_lt_of_le hi a.next)).trans (a.old id hi)
  out := fun id hi => (b.out id hi).trans (a.out id (Nat.le_trans b.next hi))
  next := Nat.le_trans a.next b.next
  rh := b.rh
  size := Nat.le_trans a.size b.size
  os := b.os.trans a.os
  tape := b.tape.trans a.tape
  output := b.output.trans a.output
  frame := fun k hk hf => by
    rw [b.frame k (Nat.lt_of_lt_of_le hk a.size) ?_, a.frame k hk hf]
    intro id c l hc ho hl he
    rcases a.src id c l hc ho hl with hs | ⟨id0, k0, l0, h0, o0, m0, e0⟩
    · omega
    · exact hf id0 k0 l0 h0 o0 m0 (e0.trans he)
  src := fun id k l hk ho hl => by
    rcases b.src id k l hk ho hl with hs | ⟨id0, k0, l0, h0, o0, m0, e0⟩
    · exact .inl (Nat.le_trans a.size hs)
    · rcases a.src id0 k0 l0 h0 o0 m0 with hs | ⟨id1, k1, l1, h1, o1, m1, e1⟩
      · exact .inl (e0 ▸ hs)
      · exact .inr ⟨id1, k1, l1, h1, o1, m1, e1.trans e0⟩
  unm := fun id k hk hm => b.unm id k (a.unm id k hk hm) (by
    rw [a.old id (a.wf id k hk)]; exact hm)
  dead := fun id hi hd => b.dead id (Nat.lt_of_lt_of_le hi a.next) (a.dead id hi hd)
  ro := fun id k hk ho => a.ro id k (b.ro id k hk ho) ho

end Go.AM
