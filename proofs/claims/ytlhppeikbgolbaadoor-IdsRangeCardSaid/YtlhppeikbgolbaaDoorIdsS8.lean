/-
  The chapter's examples: awake answers true.
-/
import Derived.Test.YtlhppeikbgolbaaDoorIdsS7
namespace Go.Proofs.YtlhppeikbgolbaaDoor.IdsD
open Go Go.AM Go.IdsN

theorem T9 (k : Nat) {h : H} {p b : Nat} {S : List Nat} (r : PoolS h p b S) (hn : S.length < 65535) {id : Nat} (h1 : 1 ≤ id) (hin : id ∉ S) (hb : ∀ i, 1 ≤ i → i < id → i ∈ S) :
    ∃ h', callB Tryd.prog 1 [] (k + 1027) 9 [ptrV p, .int .u16 (id : Int)] h = some (.bool true, h') ∧ PoolS h' p b (id :: S) ∧ ExtBut (Two p b) h h' ∧ h'.next = h.next := by
  obtain ⟨i0, h', b1, b2, b3, b4, e, r', y, n⟩ := T10 k r hn
  obtain rfl : i0 = id := by
    rcases Nat.lt_trichotomy i0 id with h | h | h
    · exact absurd (hb i0 b1 h) b3
    · exact h
    · exact absurd (b4 id h1 h) hin
  rw [F9eq [] rfl]
  refine ⟨h', ?_, r', y, n⟩
  have ex0 : A.extract 0 (.tuple ⟨[.int .u16 (i0 : Int), .int .i64 0]⟩) = some (.int .u16 (i0 : Int)) := rfl
  have ex1 : A.extract 1 (.tuple ⟨[.int .u16 (i0 : Int), .int .i64 0]⟩) = some (.int .i64 0) := rfl
  simp only [F9, p9a, e, bnd2_some, ex0, ex1, bnd_some, bin_eql, decide_true, toBK_bool, cond_true]

theorem cu_at {R : List Nat} {i : Nat} (hi : i < R.length) : (cu R)[i]? = some [.int .u16 (R[i] : Int)] := by
  simp [cu, hi]

theorem loop20 (C : CF) (L : Nat) {β : Type} (kr : Value → H → Option β) (kx0 : H → Option β) {h : H} {x0 x1 : Value} {R : List Nat} (s0 : SliceE 1 h x0 (cu R)) (s1 : SliceE 1 h x1 (cu R)) (hR : R.length < 2 ^ 40) :
    ∀ (d i m : Nat), i + d = R.length → d < m → p20arrlrbw C L kr kx0 m (.int .i64 (i : Int)) x1 x0 h = kx0 h := by
  have hlen := s0.len.1
  rw [show (cu R).length = R.length by simp [cu]] at hlen
  intro d
  induction d with
  | zero =>
    intro i m hi hm
    obtain ⟨m, rfl⟩ : ∃ q, m = q + 1 := ⟨m - 1, by omega⟩
    have hd : decide ((i : Int) < (R.length : Int)) = false := by rw [decide_eq_false_iff_not]; omega
    simp only [p20arrlrbw, p20arrlrbo, hlen, bnd_some, bin_lss, hd, toBK_bool, cond_false]
  | succ d ih =>
    intro i m hi hm
    obtain ⟨m, rfl⟩ : ∃ q, m = q + 1 := ⟨m - 1, by omega⟩
    have hd : decide ((i : Int) < (R.length : Int)) = true := by rw [decide_eq_true_iff]; omega
    obtain ⟨id, off, cells, own, g1, g2, g3, g4, g5, g6⟩ := s0.at (cu_at (R := R) (i := i) (by omega)) .i64
    obtain ⟨id', off', cells', own', f1, f2, f3, f4, f5, f6⟩ := s1.at (cu_at (R := R) (i := i) (by omega)) .i64
    have a0 : A.load false 1 (.pointer (some ⟨id, off, none⟩)) h = some (.int .u16 (R[i] : Int)) := by rw [load1_eq, g3]; exact g6 0 (by omega)
    have a1 : A.load false 1 (.pointer (some ⟨id', off', none⟩)) h = some (.int .u16 (R[i] : Int)) := by rw [load1_eq, f3]; exact f6 0 (by omega)
    have hs := wrap_succ (n := i) (by omega)
    simp only [p20arrlrbw, p20arrlrbo, hlen, bnd_some, bin_lss, hd, toBK_bool, cond_true, g1, a0, f1, a1, bin_neq, decide_true, Bool.not_true, cond_false, bin_add, hs]
    exact ih (i + 1) m (by omega) (by omega)

theorem S20 (k : Nat) {h : H} {x0 x1 : Value} {R : List Nat} (s0 : SliceE 1 h x0 (cu R)) (s1 : SliceE 1 h x1 (cu R)) (hR : R.length < 2 ^ 40) (hk : R.length < k) : callB Tryd.prog 1 [] (k + 1) 20 [x0, x1] h = some (.bool true, h) := by
  have l0 := s0.len.1
  have l1 := s1.len.1
  rw [show (cu R).length = R.length by simp [cu]] at l0 l1
  rw [F20eq [] rfl]
  have lp := loop20 (callB Tryd.prog 1 [] k) k (fun x4 h => some (x4, h)) (fun h => p20arrr (callB Tryd.prog 1 [] k) k h (fun x4 h => some (x4, h))) s0 s1 hR R.length 0 k (by omega) hk
  simp only [F20, p20a, p20al, p20ar, p20arl, l0, l1, bnd_some, bin_neq, decide_true, Bool.not_true, toBK_bool, cond_false, p20arr, p20arrl, p20arrll, p20arrlr, p20arrlrb]
  rw [show (Value.int .i64 0) = Value.int .i64 ((0 : Nat) : Int) from rfl, lp]
  rfl

theorem sorted_eq : ∀ (a b : List Nat), a.Pairwise (· < ·) → b.Pairwise (· < ·) → (∀ i, i ∈ a ↔ i ∈ b) → a = b
  | [], [], _, _, _ => rfl
  | [], y :: t, _, _, h => by have := (h y).2 (by simp); simp at this
  | x :: s, [], _, _, h => by have := (h x).1 (by simp); simp at this
  | x :: s, y :: t, ha, hb, h => by
    obtain ⟨a1, a2⟩ := List.pairwise_cons.1 ha
    obtain ⟨b1, b2⟩ := List.pairwise_cons.1 hb
    have hxy : x = y := by
      rcases List.mem_cons.1 ((h x).1 (by simp)) with e | e
      · exact e
      · rcases List.mem_cons.1 ((h y).2 (by simp)) with e' | e'
        · exact e'.symm
        · have := a1 y e'; have := b1 x e; omega
    subst hxy
    rw [sorted_eq s t a2 b2 fun i => by
      have := h i
      simp only [List.mem_cons] at this
      constructor
      · intro hi
        rcases this.1 (.inr hi) with e | e
        · have := a1 i hi; omega
        · exact e
      · intro hi
        rcases this.2 (.inr hi) with e | e
        · have := b1 i hi; omega
        · exact e]

/-- What is told of a pool is its row in order. -/
theorem Upto.row {S R : List Nat} (u : Upto (fun i => decide (i = 0) || S.contains i) 65536 R) (rg : ∀ i ∈ S, 0 < i ∧ i < 65536) : ∀ i, i ∈ R ↔ i ∈ S := by
  intro i
  rw [u.2 i]
  constructor
  · rintro ⟨h1, _, h3⟩
    have h3' : (decide (i = 0) || S.contains i) = true := h3
    rw [tk_iff h1] at h3'
    exact of_decide_eq_true h3'
  · intro hi
    obtain ⟨h1, h2⟩ := rg i hi
    exact ⟨h1, h2, by show (decide (i = 0) || S.contains i) = true; rw [tk_iff h1]; exact decide_eq_true hi⟩

theorem S15 (k : Nat) {h : H} (ht : TabAt h) (h0 : 0 < h.next) : ∃ h', callB Tryd.prog 1 [] (k + 1040) 15 [] h = some (.bool true, h') ∧ Ext h h' := by
  rw [F15eq [] rfl]
  obtain ⟨h1, e1, r1, x1, n1⟩ := T8 (k + 1038) ht h0
  obtain ⟨h2, e2, r2, y2, n2⟩ := T9 (k + 12) r1 (by simp) (id := 1) (by omega) (by simp) (fun i _ _ => by omega)
  obtain ⟨h3, e3, r3, y3, n3⟩ := T9 (k + 12) r2 (by simp) (id := 2) (by omega) (by simp) (fun i _ _ => by simp; omega)
  obtain ⟨h4, e4, r4, y4, n4⟩ := T9 (k + 12) r3 (by simp) (id := 3) (by omega) (by simp) (fun i _ _ => by simp; omega)
  obtain ⟨h5, e5, r5, y5, n5⟩ := T12 (k + 1036) r4 (id := 2) (by omega) (by simp)
  rw [show ([3, 2, 1] : List Nat).erase 2 = [3, 1] by decide] at r5
  obtain ⟨h6, e6, r6, y6, n6⟩ := T9 (k + 12) r5 (by simp) (id := 2) (by omega) (by simp) (fun i _ _ => by simp; omega)
  obtain ⟨h7, e7, r7, y7, n7⟩ := T9 (k + 12) r6 (by simp) (id := 4) (by omega) (by simp) (fun i _ _ => by simp; omega)
  have X : Ext h h7 := by
    have a : ∀ {u v : H}, Ext h u → ExtBut (Two (h.next + 1) h.next) u v → Ext h v := fun x y => ⟨Nat.le_trans x.next y.next, fun i hi => by
      rw [y.get i (Nat.lt_of_lt_of_le hi x.next) (fun e => by rcases e with e | e <;> omega)]; exact x.get i hi⟩
    exact a (a (a (a (a (a x1 y2) y3) y4) y5) y6) y7
  obtain ⟨v, R, h8, e8, s8, u8, x8, _⟩ := S14 (k + 8) r7.pool (by have := X.next; omega)
  have hR : R = [1, 2, 3, 4] := sorted_eq _ _ u8.1 (by decide) fun i => by rw [u8.row r7.rg i]; simp; omega
  subst hR
  have r8 := r7.ext x8
  have c1 := T13 (k + 1037) r8 (id := 4) (by omega)
  have c2 := T13 (k + 1037) r8 (id := 5) (by omega)
  have c3 := T13 (k + 1037) r8 (id := 0) (by omega)
  have c4 := T12n (k + 1036) r8 (id := 5) (by omega) (by simp)
  have c5 := T11 (k + 1037) r8
  rw [show decide (4 ∈ ([4, 2, 3, 1] : List Nat)) = true by decide] at c1
  rw [show decide (5 ∈ ([4, 2, 3, 1] : List Nat)) = false by decide] at c2
  rw [show decide (0 ∈ ([4, 2, 3, 1] : List Nat)) = false by decide] at c3
  have eb : A.buildSlice 1 4 Z25L [(0, 1, (.int .u16 1)), (1, 1, (.int .u16 2)), (2, 1, (.int .u16 3)), (3, 1, (.int .u16 4))] h8 = some (.slice (some ⟨h8.next, 0, none⟩) 4 9, h8.push (.cells [.int .u16 1, .int .u16 2, .int .u16 3, .int .u16 4] (some 1))) := rfl
  have s9 : SliceE 1 (h8.push (.cells [.int .u16 1, .int .u16 2, .int .u16 3, .int .u16 4] (some 1))) (.slice (some ⟨h8.next, 0, none⟩) 4 9) (cu [1, 2, 3, 4]) := by
    refine ⟨fun e he => ?_, .inr ⟨h8.next, 0, 9, rfl, by simp [cu], Nat.lt_succ_self _, fun _ => ⟨_, some 1, by rw [H.get_push, if_pos rfl], by simp [cu], rfl⟩⟩⟩
    obtain ⟨w, _, rfl⟩ := List.mem_map.1 he; rfl
  have c6 := S20 (k + 1038) (s8.ext (Ext.push h8 _)) s9 (by simp) (by simp)
  refine ⟨h8.push (.cells [.int .u16 1, .int .u16 2, .int .u16 3, .int .u16 4] (some 1)), ?_, (X.trans x8).trans (Ext.push _ _)⟩
  have e2' : callB Tryd.prog 1 [] (k + 1039) 9 [ptrV (h.next + 1), .int .u16 1] h1 = some (.bool true, h2) := e2
  have e3' : callB Tryd.prog 1 [] (k + 1039) 9 [ptrV (h.next + 1), .int .u16 2] h2 = some (.bool true, h3) := e3
  have e4' : callB Tryd.prog 1 [] (k + 1039) 9 [ptrV (h.next + 1), .int .u16 3] h3 = some (.bool true, h4) := e4
  have e5' : callB Tryd.prog 1 [] (k + 1039) 12 [ptrV (h.next + 1), .int .u16 2] h4 = some (.bool true, h5) := e5
  have e6' : callB Tryd.prog 1 [] (k + 1039) 9 [ptrV (h.next + 1), .int .u16 2] h5 = some (.bool true, h6) := e6
  have e7' : callB Tryd.prog 1 [] (k + 1039) 9 [ptrV (h.next + 1), .int .u16 4] h6 = some (.bool true, h7) := e7
  have c1' : callB Tryd.prog 1 [] (k + 1039) 13 [ptrV (h.next + 1), .int .u16 4] h8 = some (.bool true, h8) := c1
  have c2' : callB Tryd.prog 1 [] (k + 1039) 13 [ptrV (h.next + 1), .int .u16 5] h8 = some (.bool false, h8) := c2
  have c3' : callB Tryd.prog 1 [] (k + 1039) 13 [ptrV (h.next + 1), .int .u16 0] h8 = some (.bool false, h8) := c3
  have c4' : callB Tryd.prog 1 [] (k + 1039) 12 [ptrV (h.next + 1), .int .u16 5] h8 = some (.bool false, h8) := c4
  have c5' : callB Tryd.prog 1 [] (k + 1039) 11 [ptrV (h.next + 1)] h8 = some (.int .i64 4, h8) := c5
  have e1' : callB Tryd.prog 1 [] (k + 1039) 8 [] h = some (ptrV (h.next + 1), h1) := e1
  have e8' : callB Tryd.prog 1 [] (k + 1039) 14 [ptrV (h.next + 1)] h7 = some (.tuple ⟨[v, .bool true]⟩, h8) := e8
  have c6' : callB Tryd.prog 1 [] (k + 1039) 20 [v, .slice (some ⟨h8.next, 0, none⟩) 4 9] (h8.push (.cells [.int .u16 1, .int .u16 2, .int .u16 3, .int .u16 4] (some 1))) = some (.bool true, h8.push (.cells [.int .u16 1, .int .u16 2, .int .u16 3, .int .u16 4] (some 1))) := c6
  have ex0 : A.extract 0 (.tuple ⟨[v, .bool true]⟩) = some v := rfl
  have ex1 : A.extract 1 (.tuple ⟨[v, .bool true]⟩) = some (.bool true) := rfl
  simp only [F15, p15a, p15al, p15ar, p15arl, e1', bnd2_some, p15arr, p15arrl, p15arrll, e2', e3', e4', e5', e6', e7', toBK_bool, un_not, bnd_some, Bool.not_true, cond_false, p15arrlr, condV_bool, p15arrr, p15arrrl, e8', ex0, ex1,
    p15arrrr, p15arrrrl, c1', cond_true, c2', Bool.not_false, c3', c4', c5', bin_eql, decide_true, eb, c6', p15arrrrr]
end Go.Proofs.YtlhppeikbgolbaaDoor.IdsD
