/-
  The document's own pool: a row of ids, rising. Its functions that only look.
-/
import Derived.Test.YtlhppeikbgolbaaDoorIdsS8
namespace Go.Proofs.YtlhppeikbgolbaaDoor.IdsD
open Go Go.AM Go.IdsN

/-- The document's pool holds a row. -/
structure RefP (h : H) (q : Nat) (v : Value) (R : List Nat) : Prop where
  hq : h.get q = some (.cells [v] (some 0))
  s : Vec 1 h v (cu R)
  lt : q < h.next

theorem RefP.load {h : H} {q : Nat} {v : Value} {R : List Nat} (r : RefP h q v R) : A.load false 1 (.pointer (some ⟨q, 0, none⟩)) h = some v := by rw [load1_eq, r.hq]; rfl
theorem RefP.len {h : H} {q : Nat} {v : Value} {R : List Nat} (r : RefP h q v R) : A.lenS v = some (.int .i64 (R.length : Int)) := by
  have := r.s.slice.len.1
  rw [show (cu R).length = R.length by simp [cu]] at this
  exact this
theorem RefP.at {h : H} {q : Nat} {v : Value} {R : List Nat} (r : RefP h q v R) {i : Nat} (hi : i < R.length) : ∃ a, A.idxS 1 v (.int .i64 (i : Int)) = some (.pointer (some a)) ∧ A.load false 1 (.pointer (some a)) h = some (.int .u16 (R[i] : Int)) := by
  obtain ⟨id, off, cells, own, g1, g2, g3, g4, g5, g6⟩ := r.s.slice.at (cu_at hi) .i64
  exact ⟨_, g1, by rw [load1_eq, g3]; exact g6 0 (by omega)⟩

/-- Where an id stands, or would stand. -/
def plc (R : List Nat) (id : Nat) : Nat := (R.takeWhile fun x => decide (x < id)).length

theorem plc_cons (x : Nat) (R : List Nat) (id : Nat) : plc (x :: R) id = if x < id then plc R id + 1 else 0 := by
  unfold plc
  rw [List.takeWhile_cons]
  by_cases h : x < id
  · simp [h]
  · simp [h]

theorem loop25 (C : CF) (L : Nat) {β : Type} (kx0 : Value → H → Option β) {h : H} {q : Nat} {v : Value} {R : List Nat} (r : RefP h q v R) (hR : R.length < 2 ^ 40) (id : Nat) :
    ∀ (d i m : Nat), i + d = R.length → d < m → p25arrlbw C L kx0 m (.pointer (some ⟨q, 0, none⟩)) (.int .u16 (id : Int)) (.int .i64 (i : Int)) h = kx0 (.int .i64 ((i + plc (R.drop i) id : Nat) : Int)) h := by
  intro d
  induction d with
  | zero =>
    intro i m hi hm
    obtain ⟨m, rfl⟩ : ∃ u, m = u + 1 := ⟨m - 1, by omega⟩
    have hd : decide ((i : Int) < (R.length : Int)) = false := by rw [decide_eq_false_iff_not]; omega
    rw [List.drop_eq_nil_of_le (by omega)]
    simp only [p25arrlbw, p25arrlbo, nilCheck_eq, bnd_some, fieldAddr_eq, Nat.zero_add, r.load, r.len, bin_lss, hd, toBK_bool, cond_false]
    rfl
  | succ d ih =>
    intro i m hi hm
    obtain ⟨m, rfl⟩ : ∃ u, m = u + 1 := ⟨m - 1, by omega⟩
    have hil : i < R.length := by omega
    have hd : decide ((i : Int) < (R.length : Int)) = true := by rw [decide_eq_true_iff]; omega
    obtain ⟨a, g1, g2⟩ := r.at hil
    have hs := wrap_succ (n := i) (by omega)
    rw [List.drop_eq_getElem_cons hil, plc_cons]
    by_cases e : R[i] < id
    · have he : decide ((R[i] : Int) < (id : Int)) = true := by rw [decide_eq_true_iff]; omega
      rw [if_pos e]
      simp only [p25arrlbw, p25arrlbo, nilCheck_eq, bnd_some, fieldAddr_eq, Nat.zero_add, r.load, r.len, bin_lss, hd, toBK_bool, cond_true, g1, g2, he, bin_add, hs]
      rw [ih (i + 1) m (by omega) (by omega)]
      congr 3
      omega
    · have he : decide ((R[i] : Int) < (id : Int)) = false := by rw [decide_eq_false_iff_not]; omega
      rw [if_neg e]
      simp only [p25arrlbw, p25arrlbo, nilCheck_eq, bnd_some, fieldAddr_eq, Nat.zero_add, r.load, r.len, bin_lss, hd, toBK_bool, cond_true, g1, g2, he, cond_false]
      rfl

theorem S25 (k : Nat) {h : H} {q : Nat} {v : Value} {R : List Nat} (r : RefP h q v R) (hR : R.length < 2 ^ 40) (hk : R.length < k) (id : Nat) : callB Tryd.prog 1 [] (k + 1) 25 [ptrV q, .int .u16 (id : Int)] h = some (.int .i64 (plc R id : Int), h) := by
  rw [F25eq [] rfl]
  have lp := loop25 (callB Tryd.prog 1 [] k) k (fun x5 h => p25arrr (callB Tryd.prog 1 [] k) k x5 h (fun x4 h => some (x4, h))) r hR id R.length 0 k (by omega) hk
  rw [List.drop_zero, Nat.zero_add] at lp
  simp only [F25, p25a, p25al, p25ar, p25arl, p25arr, p25arrl, p25arrlb]
  rw [show (Value.int .i64 0) = Value.int .i64 ((0 : Nat) : Int) from rfl, lp]
  rfl

/-- In a rising row, what stands at an id's place is that id, if it is there. -/
theorem plc_mem : ∀ (R : List Nat) (id : Nat), R.Pairwise (· < ·) → (id ∈ R ↔ R[plc R id]? = some id)
  | [], id, _ => by simp
  | x :: t, id, hp => by
    obtain ⟨p1, p2⟩ := List.pairwise_cons.1 hp
    rw [plc_cons]
    by_cases h : x < id
    · rw [if_pos h, List.getElem?_cons_succ, ← plc_mem t id p2, List.mem_cons]
      exact ⟨fun h' => h'.resolve_left (by omega), .inr⟩
    · rw [if_neg h, List.getElem?_cons_zero, List.mem_cons]
      constructor
      · rintro (e | e)
        · rw [e]
        · have := p1 id e; omega
      · intro e; exact .inl (Option.some.inj e).symm

theorem S18 (k : Nat) {h : H} {q : Nat} {v : Value} {R : List Nat} (r : RefP h q v R) (hR : R.length < 2 ^ 40) (hk : R.length < k) (hp : R.Pairwise (· < ·)) (id : Nat) : callB Tryd.prog 1 [] (k + 2) 18 [ptrV q, .int .u16 (id : Int)] h = some (.bool (decide (id ∈ R)), h) := by
  rw [F18eq [] rfl]
  have e25 := S25 k r hR hk id
  have pm := plc_mem R id hp
  by_cases hl : plc R id < R.length
  · have hd : decide ((plc R id : Int) < (R.length : Int)) = true := by rw [decide_eq_true_iff]; omega
    obtain ⟨a, g1, g2⟩ := r.at hl
    rw [List.getElem?_eq_getElem hl] at pm
    have hb : decide ((R[plc R id] : Int) = (id : Int)) = decide (id ∈ R) := by
      rw [decide_eq_decide, pm]
      constructor
      · intro e; exact congrArg some (by omega)
      · intro e; have := Option.some.inj e; omega
    simp only [F18, p18a, e25, bnd2_some, nilCheck_eq, bnd_some, fieldAddr_eq, Nat.zero_add, r.load, r.len, bin_lss, hd, toBK_bool, cond_true, g1, g2, bin_eql, hb]
  · have hd : decide ((plc R id : Int) < (R.length : Int)) = false := by rw [decide_eq_false_iff_not]; omega
    rw [List.getElem?_eq_none (by omega)] at pm
    have hb : decide (id ∈ R) = false := by rw [decide_eq_false_iff_not, pm]; simp
    simp only [F18, p18a, e25, bnd2_some, nilCheck_eq, bnd_some, fieldAddr_eq, Nat.zero_add, r.load, r.len, bin_lss, hd, toBK_bool, cond_false, hb]
end Go.Proofs.YtlhppeikbgolbaaDoor.IdsD
