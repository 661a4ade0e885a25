/-
  A pool as a row of ids that are taken: its functions, told by that row.
-/
import Derived.Test.YtlhppeikbgolbaaDoorIdsS3
namespace Go.Proofs.YtlhppeikbgolbaaDoor.IdsD
open Go Go.AM Go.IdsN

/-- As many ids as there are from 1 to m: no shorter row has them all. -/
theorem many_le : ∀ (m : Nat) (S : List Nat), (∀ i, 1 ≤ i → i ≤ m → i ∈ S) → m ≤ S.length
  | 0, _, _ => Nat.zero_le _
  | m + 1, S, h => by
    have hm : m + 1 ∈ S := h (m + 1) (by omega) (Nat.le_refl _)
    have := many_le m (S.erase (m + 1)) fun i h1 h2 => (List.mem_erase_of_ne (by omega)).2 (h i h1 (by omega))
    rw [List.length_erase_of_mem hm] at this
    have hp : 0 < S.length := List.length_pos_of_mem hm
    omega

theorem least_upto (S : List Nat) : ∀ n, (∀ i, 1 ≤ i → i ≤ n → i ∈ S) ∨ ∃ i0, 1 ≤ i0 ∧ i0 ≤ n ∧ i0 ∉ S ∧ ∀ i, 1 ≤ i → i < i0 → i ∈ S
  | 0 => .inl fun i h1 h2 => by omega
  | n + 1 => by
    rcases least_upto S n with h | ⟨i0, h1, h2, h3, h4⟩
    · by_cases hn : n + 1 ∈ S
      · refine .inl fun i h1 h2 => ?_
        rcases Nat.lt_or_ge i (n + 1) with hl | hl
        · exact h i h1 (by omega)
        · rw [show i = n + 1 by omega]; exact hn
      · exact .inr ⟨n + 1, by omega, Nat.le_refl _, hn, fun i h1 h2 => h i h1 (by omega)⟩
    · exact .inr ⟨i0, h1, by omega, h3, h4⟩

/-- The least id that is free. -/
theorem least_free (S : List Nat) : ∃ i0, 1 ≤ i0 ∧ i0 ≤ S.length + 1 ∧ i0 ∉ S ∧ ∀ i, 1 ≤ i → i < i0 → i ∈ S := by
  rcases least_upto S (S.length + 1) with h | h
  · have := many_le _ _ h; omega
  · exact h

/-- A pool of which just these are taken. -/
structure PoolS (h : H) (p b : Nat) (S : List Nat) : Prop where
  pool : Pool h p b (fun i => decide (i = 0) || S.contains i) S.length
  nd : S.Nodup
  rg : ∀ i ∈ S, 0 < i ∧ i < 65536

theorem PoolS.extBut {P : Nat → Prop} {h h' : H} {p b : Nat} {S : List Nat} (r : PoolS h p b S) (x : ExtBut P h h') (h0 : ¬ P 0) (hp : ¬ P p) (hb : ¬ P b) : PoolS h' p b S :=
  ⟨r.pool.extBut x h0 hp hb, r.nd, r.rg⟩
theorem PoolS.ext {h h' : H} {p b : Nat} {S : List Nat} (r : PoolS h p b S) (x : Ext h h') : PoolS h' p b S := ⟨r.pool.ext x, r.nd, r.rg⟩
theorem PoolS.perm {h : H} {p b : Nat} {S S' : List Nat} (r : PoolS h p b S) (e : S.Perm S') : PoolS h p b S' := by
  refine ⟨?_, e.nodup_iff.1 r.nd, fun i hi => r.rg i (e.mem_iff.2 hi)⟩
  have e1 : (fun i => decide (i = 0) || S'.contains i) = fun i => decide (i = 0) || S.contains i := by
    funext i
    rw [Bool.eq_iff_iff]
    simp [e.mem_iff]
  rw [e1, ← e.length_eq]
  exact r.pool

theorem tk_iff {S : List Nat} {i : Nat} (h : 0 < i) : (decide (i = 0) || S.contains i) = decide (i ∈ S) := by
  rw [Bool.eq_iff_iff]; simp; omega

theorem T8 (k : Nat) {h : H} (ht : TabAt h) (h0 : 0 < h.next) : ∃ h', callB Tryd.prog 1 [] (k + 1) 8 [] h = some (ptrV (h.next + 1), h') ∧ PoolS h' (h.next + 1) h.next [] ∧ Ext h h' ∧ h'.next = h.next + 2 := by
  obtain ⟨h', e, r, x, n⟩ := S8 k ht h0
  refine ⟨h', e, ⟨?_, List.nodup_nil, fun i hi => by simp at hi⟩, x, n⟩
  have e1 : (fun i => decide (i = 0) || ([] : List Nat).contains i) = fun i => decide (i = 0) := by funext i; simp
  rw [e1]; exact r

theorem T11 (k : Nat) {h : H} {p b : Nat} {S : List Nat} (r : PoolS h p b S) : callB Tryd.prog 1 [] (k + 2) 11 [ptrV p] h = some (.int .i64 (S.length : Int), h) := S11 k r.pool

theorem T13 (k : Nat) {h : H} {p b : Nat} {S : List Nat} (r : PoolS h p b S) {id : Nat} (hid : id < 65536) : callB Tryd.prog 1 [] (k + 2) 13 [ptrV p, .int .u16 (id : Int)] h = some (.bool (decide (id ∈ S)), h) := by
  rw [S13 k r.pool hid]
  congr 3
  rcases Nat.eq_zero_or_pos id with h | h
  · subst h
    have : ¬ 0 ∈ S := fun h => by have := r.rg 0 h; omega
    simp [this]
  · rw [tk_iff h]; simp [h]

theorem in_iff {S : List Nat} (rg : ∀ i ∈ S, 0 < i ∧ i < 65536) (id : Nat) : (decide (0 < id) && (decide (id = 0) || S.contains id)) = decide (id ∈ S) := by
  rcases Nat.eq_zero_or_pos id with h | h
  · subst h
    have : ¬ 0 ∈ S := fun h => by have := rg 0 h; omega
    simp [this]
  · rw [tk_iff h]; simp [h]

theorem T12 (k : Nat) {h : H} {p b : Nat} {S : List Nat} (r : PoolS h p b S) {id : Nat} (hid : id < 65536) (hin : id ∈ S) :
    ∃ h', callB Tryd.prog 1 [] (k + 3) 12 [ptrV p, .int .u16 (id : Int)] h = some (.bool true, h') ∧ PoolS h' p b (S.erase id) ∧ ExtBut (Two p b) h h' ∧ h'.next = h.next := by
  obtain ⟨h', e, r', x, n⟩ := S12 k r.pool hid (by rw [in_iff r.rg]; simp [hin]) (List.length_pos_of_mem hin)
  refine ⟨h', e, ⟨?_, r.nd.erase _, fun i hi => r.rg i (List.mem_of_mem_erase hi)⟩, x, n⟩
  rw [List.length_erase_of_mem hin]
  have e1 : (fun i => decide (i = 0) || (S.erase id).contains i) = fun i => if i = id then false else (decide (i = 0) || S.contains i) := by
    funext i
    have hp := (r.rg id hin).1
    have := r.nd.mem_erase_iff (a := i) (b := id)
    rw [Bool.eq_iff_iff]
    by_cases hi : i = id
    · subst hi
      simp [this]; omega
    · simp [this, hi]
  rw [e1]; exact r'

theorem T12n (k : Nat) {h : H} {p b : Nat} {S : List Nat} (r : PoolS h p b S) {id : Nat} (hid : id < 65536) (hin : id ∉ S) :
    callB Tryd.prog 1 [] (k + 3) 12 [ptrV p, .int .u16 (id : Int)] h = some (.bool false, h) :=
  S12n k r.pool hid (by rw [in_iff r.rg]; simp [hin])

theorem T10 (k : Nat) {h : H} {p b : Nat} {S : List Nat} (r : PoolS h p b S) (hn : S.length < 65535) :
    ∃ i0 h', 1 ≤ i0 ∧ i0 ≤ S.length + 1 ∧ i0 ∉ S ∧ (∀ i, 1 ≤ i → i < i0 → i ∈ S) ∧
      callB Tryd.prog 1 [] (k + 1026) 10 [ptrV p] h = some (.tuple ⟨[.int .u16 (i0 : Int), .int .i64 0]⟩, h') ∧ PoolS h' p b (i0 :: S) ∧ ExtBut (Two p b) h h' ∧ h'.next = h.next := by
  obtain ⟨i0, h1, h2, h3, h4⟩ := least_free S
  obtain ⟨h', e, r', x, n⟩ := S10 k r.pool (i0 := i0) (by omega) (by rw [tk_iff (by omega)]; simp [h3]) (fun i hi => by
    rcases Nat.eq_zero_or_pos i with h | h
    · subst h; simp
    · rw [tk_iff h]; simp [h4 i h hi]) hn
  refine ⟨i0, h', h1, h2, h3, h4, e, ⟨?_, List.nodup_cons.2 ⟨h3, r.nd⟩, fun i hi => ?_⟩, x, n⟩
  · have e1 : (fun i => decide (i = 0) || (i0 :: S).contains i) = fun i => if i = i0 then true else (decide (i = 0) || S.contains i) := by
      funext i
      rw [Bool.eq_iff_iff]
      by_cases hi : i = i0
      · simp [hi]
      · simp [hi]
    rw [e1]; exact r'
  · rcases List.mem_cons.1 hi with h | h
    · subst h; omega
    · exact r.rg i h
end Go.Proofs.YtlhppeikbgolbaaDoor.IdsD
