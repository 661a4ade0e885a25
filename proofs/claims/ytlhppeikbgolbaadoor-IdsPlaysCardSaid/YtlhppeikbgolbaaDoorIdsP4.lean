/-
  The document's pool: taking.
-/
import Derived.Test.YtlhppeikbgolbaaDoorIdsP3
namespace Go.Proofs.YtlhppeikbgolbaaDoor.IdsD
open Go Go.AM Go.IdsN

/-- How many ids, from j + 1 on, stand one behind the other. -/
def tpl : List Nat → Nat → Nat
  | [], _ => 0
  | x :: t, j => if x = j + 1 then tpl t (j + 1) + 1 else 0

theorem tpl_le : ∀ (R : List Nat) (j : Nat), tpl R j ≤ R.length
  | [], _ => Nat.le_refl _
  | x :: t, j => by
    unfold tpl
    split
    · have := tpl_le t (j + 1); simp only [List.length_cons]; omega
    · exact Nat.zero_le _

/-- In a rising row of ids above j: the least free one, and where it goes. -/
theorem tpl_spec : ∀ (R : List Nat) (j : Nat), R.Pairwise (· < ·) → (∀ x ∈ R, j < x) →
    (j + tpl R j + 1 ∉ R ∧ (∀ i, j < i → i ≤ j + tpl R j → i ∈ R) ∧ (R.take (tpl R j) ++ (j + tpl R j + 1) :: R.drop (tpl R j)).Pairwise (· < ·))
  | [], j, _, _ => by
    refine ⟨by simp, fun i h1 h2 => ?_, by simp [tpl]⟩
    simp [tpl] at h2; omega
  | x :: t, j, hp, hj => by
    obtain ⟨p1, p2⟩ := List.pairwise_cons.1 hp
    have hx := hj x (by simp)
    unfold tpl
    by_cases h : x = j + 1
    · rw [if_pos h]
      obtain ⟨a1, a2, a3⟩ := tpl_spec t (j + 1) p2 fun y hy => by have := p1 y hy; omega
      have e : j + (tpl t (j + 1) + 1) + 1 = j + 1 + tpl t (j + 1) + 1 := by omega
      rw [e]
      refine ⟨fun hm => ?_, fun i h1 h2 => ?_, ?_⟩
      · rcases List.mem_cons.1 hm with h' | h'
        · omega
        · exact a1 h'
      · by_cases hi : i = j + 1
        · rw [hi, h]; exact List.mem_cons_self
        · exact List.mem_cons_of_mem _ (a2 i (by omega) (by omega))
      · rw [List.take_succ_cons, List.drop_succ_cons, List.cons_append]
        refine List.pairwise_cons.2 ⟨fun y hy => ?_, a3⟩
        rcases List.mem_append.1 hy with h' | h'
        · exact p1 y (List.mem_of_mem_take h')
        · rcases List.mem_cons.1 h' with h'' | h''
          · omega
          · exact p1 y (List.mem_of_mem_drop h'')
    · rw [if_neg h]
      refine ⟨fun hm => ?_, fun i h1 h2 => by omega, ?_⟩
      · rcases List.mem_cons.1 hm with h' | h'
        · exact h h'.symm
        · have := p1 _ h'; omega
      · simp only [List.take_zero, List.nil_append, List.drop_zero, Nat.add_zero]
        refine List.pairwise_cons.2 ⟨fun y hy => ?_, hp⟩
        rcases List.mem_cons.1 hy with h' | h'
        · omega
        · have := p1 y h'; omega

theorem loop17 (C : CF) (L : Nat) {β : Type} (kx0 : Value → Value → H → Option β) {h : H} {q : Nat} {v : Value} {R : List Nat} (r : RefP h q v R) (hR : R.length < 2 ^ 40) (hub : ∀ x ∈ R, x < 65536) :
    ∀ (d i m : Nat), i + d = R.length → d < m → p17arrrlbw C L kx0 m (.pointer (some ⟨q, 0, none⟩)) (.int .i64 (i : Int)) h = kx0 (.pointer (some ⟨q, 0, none⟩)) (.int .i64 ((i + tpl (R.drop i) i : Nat) : Int)) h := by
  intro d
  induction d with
  | zero =>
    intro i m hi hm
    obtain ⟨m, rfl⟩ : ∃ u, m = u + 1 := ⟨m - 1, by omega⟩
    have hd : decide ((i : Int) < (R.length : Int)) = false := by rw [decide_eq_false_iff_not]; omega
    rw [List.drop_eq_nil_of_le (by omega)]
    simp only [p17arrrlbw, p17arrrlbo, nilCheck_eq, bnd_some, fieldAddr_eq, Nat.zero_add, r.load, r.len, bin_lss, hd, toBK_bool, cond_false]
    rfl
  | succ d ih =>
    intro i m hi hm
    obtain ⟨m, rfl⟩ : ∃ u, m = u + 1 := ⟨m - 1, by omega⟩
    have hil : i < R.length := by omega
    have hd : decide ((i : Int) < (R.length : Int)) = true := by rw [decide_eq_true_iff]; omega
    obtain ⟨a, g1, g2⟩ := r.at hil
    have hs := wrap_succ (n := i) (by omega)
    rw [List.drop_eq_getElem_cons hil]
    unfold tpl
    have hb : R[i] < 2 ^ 63 := by have := hub _ (List.getElem_mem hil); omega
    have ec : A.conv Tryd.prog 25 3 (.int .u16 (R[i] : Int)) = some (.int .i64 (R[i] : Int)) := by
      have : A.conv Tryd.prog 25 3 (.int .u16 (R[i] : Int)) = some (.int .i64 (IntKind.i64.wrap (R[i] : Int))) := rfl
      rw [this, wrap_nat hb]
    by_cases e : R[i] = i + 1
    · have he : decide ((R[i] : Int) = ((i + 1 : Nat) : Int)) = true := by rw [decide_eq_true_iff]; omega
      rw [if_pos e]
      simp only [p17arrrlbw, p17arrrlbo, nilCheck_eq, bnd_some, fieldAddr_eq, Nat.zero_add, r.load, r.len, bin_lss, hd, toBK_bool, cond_true, g1, g2, ec, bin_add, hs, bin_eql, he]
      rw [ih (i + 1) m (by omega) (by omega)]
      congr 3
      omega
    · have he : decide ((R[i] : Int) = ((i + 1 : Nat) : Int)) = false := by rw [decide_eq_false_iff_not]; omega
      rw [if_neg e]
      simp only [p17arrrlbw, p17arrrlbo, nilCheck_eq, bnd_some, fieldAddr_eq, Nat.zero_add, r.load, r.len, bin_lss, hd, toBK_bool, cond_true, g1, g2, ec, bin_add, hs, bin_eql, he, cond_false]
      rfl

theorem S17 (k : Nat) {h : H} {q : Nat} {v : Value} {R : List Nat} (r : RefP h q v R) (hR : R.length < 65535) (hub : ∀ x ∈ R, x < 65536) (hk : R.length < k) :
    ∃ v' h', callB Tryd.prog 1 [] (k + 1) 17 [ptrV q] h = some (.tuple ⟨[.int .u16 ((tpl R 0 + 1 : Nat) : Int), .int .i64 0]⟩, h') ∧ RefP h' q v' (R.take (tpl R 0) ++ (tpl R 0 + 1) :: R.drop (tpl R 0)) ∧ ExtBut (fun i => i = q) h h' ∧ (∀ i, sid v' = some i → h.next ≤ i) := by
  rw [F17eq [] rfl]
  have hd : decide ((R.length : Int) = 65535) = false := by rw [decide_eq_false_iff_not]; omega
  have lp := loop17 (callB Tryd.prog 1 [] k) k (fun x0 x4 h => p17arrrr (callB Tryd.prog 1 [] k) k x0 x4 h (fun x2 x3 h => some (Value.tuple ⟨[x2, x3]⟩, h))) r (by omega) hub R.length 0 k (by omega) hk
  rw [List.drop_zero, Nat.zero_add] at lp
  have hl := tpl_le R 0
  obtain ⟨w1, s1, t1⟩ := vec_pre r.s (k := tpl R 0) hl
  obtain ⟨w2, h2, a2, v2, y2, n2⟩ := app (bs := 2) (Vec.nil 1 h) t1 (by omega) (by rw [cu_len, List.length_take]; simp; omega) (by rw [cu_len, List.length_take]; simp; omega)
  rw [List.nil_append] at v2
  have x2 : Ext h h2 := ⟨y2.next, fun i hi => y2.get i hi (by simp [sid])⟩
  have hw2 : ∀ i, sid w2 = some i → h.next ≤ i := fun i hi => (n2 i hi).resolve_left (by simp [sid])
  have hw := wrap_succ (n := tpl R 0) (by omega)
  have ec : A.conv Tryd.prog 3 25 (.int .i64 ((tpl R 0 + 1 : Nat) : Int)) = some (.int .u16 ((tpl R 0 + 1 : Nat) : Int)) := by
    have : A.conv Tryd.prog 3 25 (.int .i64 ((tpl R 0 + 1 : Nat) : Int)) = some (.int .u16 (IntKind.u16.wrap ((tpl R 0 + 1 : Nat) : Int))) := rfl
    rw [this, IntWalk.u16_in _ ⟨by omega, by omega⟩]
  have hb1 := buildSlice_one (n := 1) (zs := Z25L) h2 rfl (cellsL_int .u16 ((tpl R 0 + 1 : Nat) : Int)) rfl
  have sx := slice_one (h := h2) (n := 1) (vs := [.int .u16 ((tpl R 0 + 1 : Nat) : Int)]) rfl
  obtain ⟨h3, hh3⟩ : ∃ h3, h3 = h2.push (.cells [.int .u16 ((tpl R 0 + 1 : Nat) : Int)] (some 1)) := ⟨_, rfl⟩
  rw [← hh3] at hb1 sx
  have x3 : Ext h2 h3 := hh3 ▸ Ext.push h2 _
  obtain ⟨w4, h4, a4, v4, y4, n4⟩ := app (bs := 2) (v2.ext x3) sx (by omega) (by rw [cu_len, List.length_take]; simp; omega) (by rw [cu_len, List.length_take]; simp; omega)
  have x23 := x2.trans x3
  have x4 : Ext h h4 := ⟨Nat.le_trans x23.next y4.next, fun i hi => by
    rw [y4.get i (Nat.lt_of_lt_of_le hi x23.next) (fun e => by have := hw2 _ e; omega), x23.get i hi]⟩
  have hw4 : ∀ i, sid w4 = some i → h.next ≤ i := fun i hi => (n4 i hi).elim (hw2 i) fun e => Nat.le_trans x23.next e
  have hq4 : h4.get q = some (.cells [v] (some 0)) := by rw [x4.get q r.lt]; exact r.hq
  have l4 : A.load false 1 (.pointer (some ⟨q, 0, none⟩)) h4 = some v := by rw [load1_eq, hq4]; rfl
  obtain ⟨w5, s5, t5⟩ := vec_suf (r.s.ext x4) (k := tpl R 0) hl
  obtain ⟨w6, h6, a6, v6, y6, n6⟩ := app (bs := 2) v4 t5 (by omega) (by rw [List.length_append, cu_len, cu_len, List.length_take, List.length_drop]; simp; omega) (by rw [List.length_append, cu_len, cu_len, List.length_take, List.length_drop]; simp; omega)
  have hw6 : ∀ i, sid w6 = some i → h.next ≤ i := fun i hi => (n6 i hi).elim (hw4 i) fun e => Nat.le_trans x4.next e
  have hq6 : h6.get q = some (.cells [v] (some 0)) := by
    rw [y6.get q (Nat.lt_of_lt_of_le r.lt x4.next) (fun e => by have := hw4 _ e; have := r.lt; omega)]; exact hq4
  have hc : cellsL w6 = some [w6] := v6.slice.cells
  have st : A.store 1 (.pointer (some ⟨q, 0, none⟩)) w6 h6 = some (h6.put q (.cells [w6] (some 0))) := by
    rw [store_eq, hq6]; simp [hc, splice]
  have hcu : cu (R.take (tpl R 0)) ++ [[Value.int .u16 ((tpl R 0 + 1 : Nat) : Int)]] ++ cu (R.drop (tpl R 0)) = cu (R.take (tpl R 0) ++ (tpl R 0 + 1) :: R.drop (tpl R 0)) := by simp [cu]
  rw [hcu] at v6
  refine ⟨w6, h6.put q (.cells [w6] (some 0)), ?_, ⟨by rw [H.get_put, if_pos rfl], ?_, Nat.lt_of_lt_of_le r.lt (Nat.le_trans x4.next y6.next)⟩, ?_, hw6⟩
  · simp only [F17, p17a, p17al, p17ar, p17arl, nilCheck_eq, bnd_some, fieldAddr_eq, Nat.zero_add, r.load, r.len, bin_eql, hd, toBK_bool, cond_false, p17arr, p17arrl, p17arrr, p17arrrl, p17arrrlb]
    rw [show (Value.int .i64 0) = Value.int .i64 ((0 : Nat) : Int) from rfl, lp]
    simp only [p17arrrr, nilCheck_eq, bnd_some, bnd2_some, fieldAddr_eq, Nat.zero_add, r.load, s1, a2, bin_add, hw, ec, hb1, a4, l4, s5, a6, st]
    rfl
  · exact v6.extBut (S := fun i => i = q) (ExtBut.put ⟨Nat.le_refl _, fun _ _ _ => rfl⟩ q _ rfl) fun i hi e => by have := hw6 i hi; have := r.lt; omega
  · refine ExtBut.put ⟨Nat.le_trans x4.next y6.next, fun i hi hn => ?_⟩ q _ rfl
    rw [y6.get i (Nat.lt_of_lt_of_le hi x4.next) (fun e => by have := hw4 _ e; omega), x4.get i hi]
end Go.Proofs.YtlhppeikbgolbaaDoor.IdsD
