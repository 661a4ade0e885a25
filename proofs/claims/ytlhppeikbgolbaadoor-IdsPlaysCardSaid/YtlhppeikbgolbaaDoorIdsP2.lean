/-
  Parts of a row, and rows that grow by them.
-/
import Derived.Test.YtlhppeikbgolbaaDoorIdsP
namespace Go.Proofs.YtlhppeikbgolbaaDoor.IdsD
open Go Go.AM Go.IdsN

/-- append, be it of none. -/
theorem app {n bs : Nat} {h : H} {v x : Value} {es new : List (List Value)} (vv : Vec n h v es) (sx : SliceE n h x new) (hn : 0 < n) (hb : (es.length + new.length) * bs ≤ 2 ^ 47) (hl : es.length + new.length ≤ 2 ^ 47) :
    ∃ v' h', A.append n bs v x h = some (v', h') ∧ Vec n h' v' (es ++ new) ∧ ExtBut (fun i => sid v = some i) h h' ∧ (∀ i, sid v' = some i → sid v = some i ∨ h.next ≤ i) := by
  by_cases hne : new = []
  · subst hne
    obtain ⟨_, hlen⟩ := sx.len
    have hel := sx.elems
    refine ⟨v, h, ?_, by rw [List.append_nil]; exact vv, ⟨Nat.le_refl _, fun _ _ _ => rfl⟩, fun i hi => .inl hi⟩
    rcases vv.2 with ⟨rfl, _⟩ | ⟨q, rfl, _, _⟩
    · simp only [A.append, hel, hlen]; rfl
    · simp only [A.append, hel, hlen]; rfl
  · obtain ⟨h', e, v', _, y⟩ := append_vec (bs := bs) vv sx hne hn hb hl
    exact ⟨_, h', e, v', y, fun i hi => .inr (by simp [sid] at hi; omega)⟩

theorem cu_len (R : List Nat) : (cu R).length = R.length := by simp [cu]
theorem cu_flat (R : List Nat) : (cu R).flatten = R.map fun (i : Nat) => Value.int .u16 (i : Int) := flatten_single _ R

/-- The first ones. -/
theorem vec_pre {h : H} {v : Value} {R : List Nat} (s : Vec 1 h v (cu R)) {k : Nat} (hk : k ≤ R.length) : ∃ v', A.sliceS 1 v none (some (.int .i64 (k : Int))) none h = some v' ∧ SliceE 1 h v' (cu (R.take k)) := by
  rcases s.2 with ⟨hv, e⟩ | ⟨q, hv, hq, hg⟩
  · have hR : R = [] := by simpa [cu] using e
    subst hR
    obtain rfl : k = 0 := by simpa using hk
    rw [hv]
    exact ⟨.slice none 0 0, rfl, ⟨by simp [cu], .inl ⟨rfl, by simp [cu]⟩⟩⟩
  · rw [cu_len] at hv
    refine ⟨.slice (some ⟨q, 0, none⟩) k (2 * R.length), ?_, ⟨fun e he => ?_, .inr ⟨q, 0, _, by rw [cu_len, List.length_take, Nat.min_eq_left hk], by rw [cu_len, List.length_take, Nat.min_eq_left hk]; omega, hq, fun _ => ⟨_, _, hg, ?_, ?_⟩⟩⟩⟩
    · rw [hv]
      have hle : k ≤ 2 * R.length / 2 := by omega
      simp [A.sliceS, A.bound, hk]
    · obtain ⟨w, _, rfl⟩ := List.mem_map.1 he; rfl
    · rw [cu_flat, cu_len, List.length_take, List.length_map]; omega
    · rw [cu_flat, cu_flat, cu_len, List.length_take, Nat.min_eq_left hk, Nat.mul_one, List.drop_zero, List.map_take]

/-- The last ones. -/
theorem vec_suf {h : H} {v : Value} {R : List Nat} (s : Vec 1 h v (cu R)) {k : Nat} (hk : k ≤ R.length) : ∃ v', A.sliceS 1 v (some (.int .i64 (k : Int))) none none h = some v' ∧ SliceE 1 h v' (cu (R.drop k)) := by
  rcases s.2 with ⟨hv, e⟩ | ⟨q, hv, hq, hg⟩
  · have hR : R = [] := by simpa [cu] using e
    subst hR
    obtain rfl : k = 0 := by simpa using hk
    rw [hv]
    exact ⟨.slice none 0 0, rfl, ⟨by simp [cu], .inl ⟨rfl, by simp [cu]⟩⟩⟩
  · rw [cu_len] at hv
    refine ⟨.slice (some ⟨q, k, none⟩) (R.length - k) (2 * R.length - 2 * k), ?_, ⟨fun e he => ?_, .inr ⟨q, k, _, by rw [cu_len, List.length_drop], by rw [cu_len, List.length_drop]; omega, hq, fun _ => ⟨_, _, hg, ?_, ?_⟩⟩⟩⟩
    · rw [hv]
      have hle : k ≤ 2 * R.length / 2 := by omega
      have hes : A.esOK 1 q h = true := by unfold A.esOK; rw [hg]; rfl
      simp [A.sliceS, A.bound, hk, hes]
    · obtain ⟨w, _, rfl⟩ := List.mem_map.1 he; rfl
    · rw [cu_flat, cu_len, List.length_drop, List.length_map]; omega
    · rw [cu_flat, cu_flat, cu_len, List.length_drop, Nat.mul_one, ← List.map_drop, List.take_of_length_le (by simp)]
end Go.Proofs.YtlhppeikbgolbaaDoor.IdsD
