/-
  The document's pool: freeing.
-/
import Derived.Test.YtlhppeikbgolbaaDoorIdsP2
namespace Go.Proofs.YtlhppeikbgolbaaDoor.IdsD
open Go Go.AM Go.IdsN

theorem plc_erase : ∀ (R : List Nat) (id : Nat), R.Pairwise (· < ·) → id ∈ R → plc R id < R.length ∧ R.take (plc R id) ++ R.drop (plc R id + 1) = R.erase id
  | [], id, _, h => by simp at h
  | x :: t, id, hp, h => by
    obtain ⟨p1, p2⟩ := List.pairwise_cons.1 hp
    rw [plc_cons]
    by_cases hx : x < id
    · have ht : id ∈ t := (List.mem_cons.1 h).resolve_left (by omega)
      obtain ⟨a1, a2⟩ := plc_erase t id p2 ht
      have hne : ¬ (x == id) = true := by simp; omega
      rw [if_pos hx, List.take_succ_cons, List.drop_succ_cons, List.cons_append, a2, List.erase_cons, if_neg hne]
      exact ⟨by simp only [List.length_cons]; omega, rfl⟩
    · have he : id = x := by
        rcases List.mem_cons.1 h with e | e
        · exact e
        · have := p1 id e; omega
      subst he
      rw [if_neg hx]
      exact ⟨by simp, by simp⟩

theorem S19n (k : Nat) {h : H} {q : Nat} {v : Value} {R : List Nat} (r : RefP h q v R) (hR : R.length < 2 ^ 40) (hk : R.length < k) (hp : R.Pairwise (· < ·)) {id : Nat} (hin : id ∉ R) : callB Tryd.prog 1 [] (k + 3) 19 [ptrV q, .int .u16 (id : Int)] h = some (.bool false, h) := by
  rw [F19eq [] rfl]
  have e := S18 k r hR hk hp id
  rw [decide_eq_false hin] at e
  simp only [F19, p19a, e, bnd2_some, toBK_bool, un_not, Bool.not_false, bnd_some, cond_true]

theorem S19 (k : Nat) {h : H} {q : Nat} {v : Value} {R : List Nat} (r : RefP h q v R) (hR : R.length < 2 ^ 30) (hk : R.length < k) (hp : R.Pairwise (· < ·)) {id : Nat} (hin : id ∈ R) :
    ∃ v' h', callB Tryd.prog 1 [] (k + 3) 19 [ptrV q, .int .u16 (id : Int)] h = some (.bool true, h') ∧ RefP h' q v' (R.erase id) ∧ ExtBut (fun i => i = q) h h' ∧ (∀ i, sid v' = some i → h.next ≤ i) := by
  rw [F19eq [] rfl]
  have e18 := S18 k r (by omega) hk hp id
  rw [decide_eq_true hin] at e18
  have e25 : callB Tryd.prog 1 [] (k + 2) 25 [ptrV q, .int .u16 (id : Int)] h = some (.int .i64 (plc R id : Int), h) := S25 (k + 1) r (by omega) (by omega) id
  obtain ⟨hl, her⟩ := plc_erase R id hp hin
  obtain ⟨w1, s1, t1⟩ := vec_pre r.s (k := plc R id) (by omega)
  obtain ⟨w2, h2, a2, v2, y2, n2⟩ := app (bs := 2) (Vec.nil 1 h) t1 (by omega) (by rw [cu_len, List.length_take]; simp; omega) (by rw [cu_len, List.length_take]; simp; omega)
  rw [List.nil_append] at v2
  have x2 : Ext h h2 := ⟨y2.next, fun i hi => y2.get i hi (by simp [sid])⟩
  have hq2 : h2.get q = some (.cells [v] (some 0)) := by rw [x2.get q r.lt]; exact r.hq
  have l2 : A.load false 1 (.pointer (some ⟨q, 0, none⟩)) h2 = some v := by rw [load1_eq, hq2]; rfl
  obtain ⟨w3, s3, t3⟩ := vec_suf (r.s.ext x2) (k := plc R id + 1) (by omega)
  obtain ⟨w4, h4, a4, v4, y4, n4⟩ := app (bs := 2) v2 t3 (by omega) (by rw [cu_len, cu_len, List.length_take, List.length_drop]; omega) (by rw [cu_len, cu_len, List.length_take, List.length_drop]; omega)
  have hw2 : ∀ i, sid w2 = some i → h.next ≤ i := fun i hi => (n2 i hi).resolve_left (by simp [sid])
  have hq4 : h4.get q = some (.cells [v] (some 0)) := by
    rw [y4.get q (Nat.lt_of_lt_of_le r.lt x2.next) (fun e => by have := hw2 _ e; have := r.lt; omega)]; exact hq2
  have hw4 : ∀ i, sid w4 = some i → h.next ≤ i := fun i hi => (n4 i hi).elim (hw2 i) fun e => Nat.le_trans x2.next e
  have hc : cellsL w4 = some [w4] := v4.slice.cells
  have st : A.store 1 (.pointer (some ⟨q, 0, none⟩)) w4 h4 = some (h4.put q (.cells [w4] (some 0))) := by
    rw [store_eq, hq4]; simp [hc, splice]
  have hw := wrap_succ (n := plc R id) (by omega)
  have hcu : cu (R.take (plc R id)) ++ cu (R.drop (plc R id + 1)) = cu (R.erase id) := by rw [← her]; simp [cu]
  rw [hcu] at v4
  refine ⟨w4, h4.put q (.cells [w4] (some 0)), ?_, ⟨by rw [H.get_put, if_pos rfl], ?_, Nat.lt_of_lt_of_le r.lt (Nat.le_trans x2.next y4.next)⟩, ?_, hw4⟩
  · simp only [F19, p19a, e18, bnd2_some, toBK_bool, un_not, Bool.not_true, bnd_some, cond_false, e25, nilCheck_eq, fieldAddr_eq, Nat.zero_add, r.load, s1, a2, l2, bin_add, hw, s3, a4, st]
  · exact v4.extBut (S := fun i => i = q) (ExtBut.put ⟨Nat.le_refl _, fun _ _ _ => rfl⟩ q _ rfl) fun i hi e => by have := hw4 i hi; have := r.lt; omega
  · refine ExtBut.put ⟨Nat.le_trans x2.next y4.next, fun i hi hn => ?_⟩ q _ rfl
    rw [y4.get i (Nat.lt_of_lt_of_le hi x2.next) (fun e => by have := hw2 _ e; omega), x2.get i hi]
end Go.Proofs.YtlhppeikbgolbaaDoor.IdsD
