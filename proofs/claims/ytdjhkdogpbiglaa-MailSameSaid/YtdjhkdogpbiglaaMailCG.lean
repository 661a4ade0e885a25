/-
  Mail: any command is copied: a slice comes of it, and memory grows.
-/
import Derived.Test.YtdjhkdogpbiglaaMailH1
import Derived.Test.YtdjhkdogpbiglaaMailP
namespace Go.Proofs.Ytdjhkdogpbiglaa.MailD
open Go Go.AM

/-- What a clone is: nothing, or cells of its own. -/
def Cl (n : Nat) (h : H) (v : Value) (els : List (List Value)) (base : Nat) : Prop :=
  (∀ e ∈ els, e.length = n) ∧ ((els = [] ∧ A.lenS v = some (.int .i64 0) ∧ cellsL v = some [v] ∧ AM.same v v = true ∧ ∀ i, AM.sid v = some i → base ≤ i) ∨ ∃ q, v = .slice (some ⟨q, 0, none⟩) els.length (2 * els.length) ∧ base ≤ q ∧ q < h.next ∧ h.get q = some (.cells els.flatten (some n)))

theorem Cl.len {n : Nat} {h : H} {v : Value} {els : List (List Value)} {base : Nat} (c : Cl n h v els base) : A.lenS v = some (.int .i64 (els.length : Int)) := by
  rcases c.2 with ⟨rfl, hl, _⟩ | ⟨q, rfl, _⟩
  · exact hl
  · rfl
theorem Cl.cells {n : Nat} {h : H} {v : Value} {els : List (List Value)} {base : Nat} (c : Cl n h v els base) : cellsL v = some [v] := by
  rcases c.2 with ⟨_, _, hc, _⟩ | ⟨q, rfl, _⟩
  · exact hc
  · rfl
theorem Cl.same {n : Nat} {h : H} {v : Value} {els : List (List Value)} {base : Nat} (c : Cl n h v els base) : AM.same v v = true := by
  rcases c.2 with ⟨_, _, _, hs, _⟩ | ⟨q, rfl, _⟩
  · exact hs
  · exact same_slice _ _ _ (fun b h => by cases h; rfl)
theorem Cl.sid {n : Nat} {h : H} {v : Value} {els : List (List Value)} {base : Nat} (c : Cl n h v els base) : ∀ i, AM.sid v = some i → base ≤ i := by
  rcases c.2 with ⟨_, _, _, _, hs⟩ | ⟨q, rfl, hb, _⟩
  · exact hs
  · intro i hi
    have : q = i := by simpa [AM.sid] using hi
    omega
theorem Cl.extBut {S : Nat → Prop} {n : Nat} {h h' : H} {v : Value} {els : List (List Value)} {base : Nat} (c : Cl n h v els base) (x : ExtBut S h h') (hs : ∀ i, AM.sid v = some i → ¬ S i) : Cl n h' v els base := by
  refine ⟨c.1, ?_⟩
  rcases c.2 with hz | ⟨q, rfl, hb, hq, hg⟩
  · exact .inl hz
  · exact .inr ⟨q, rfl, hb, Nat.lt_of_lt_of_le hq x.next, by rw [x.get q hq (hs q rfl)]; exact hg⟩
theorem Cl.ext {n : Nat} {h h' : H} {v : Value} {els : List (List Value)} {base : Nat} (c : Cl n h v els base) (x : Ext h h') : Cl n h' v els base := c.extBut (S := fun _ => False) x.but (by simp)

theorem flatten_splice {n : Nat} {w : List Value} : ∀ (es : List (List Value)) (i : Nat), (∀ x ∈ es, x.length = n) → w.length = n → i < es.length → splice es.flatten (i * n) w = (es.set i w).flatten
  | [], i, _, _, h => by simp at h
  | x :: es, 0, hs, hw, _ => by
    have hx := hs x (by simp)
    simp only [splice, Nat.zero_mul, List.take_zero, List.nil_append, Nat.zero_add, List.set_cons_zero, List.flatten_cons, hw]
    rw [← hx, List.drop_left]
  | x :: es, i + 1, hs, hw, h => by
    have hx := hs x (by simp)
    have ih := flatten_splice es i (fun y hy => hs y (by simp [hy])) hw (by simpa using h)
    simp only [List.set_cons_succ, List.flatten_cons]
    rw [← ih]
    simp only [splice]
    have e1 : (i + 1) * n = x.length + i * n := by rw [Nat.succ_mul, hx]; omega
    rw [e1, List.take_length_add_append, Nat.add_assoc, List.drop_length_add_append]
    simp only [List.append_assoc]

theorem Cl.at {n : Nat} {h : H} {v : Value} {els : List (List Value)} {base : Nat} (c : Cl n h v els base) {i : Nat} (hi : i < els.length) : ∃ q, A.idxS n v (.int .i64 (i : Int)) = some (.pointer (some ⟨q, i * n, none⟩)) ∧ base ≤ q ∧ AM.sid v = some q ∧
    A.load true n (.pointer (some ⟨q, i * n, none⟩)) h = some (.agg ⟨els[i]⟩) ∧
    ∀ (w : List Value) (g : H), w.length = n → g.get q = h.get q → h.next ≤ g.next → A.store n (.pointer (some ⟨q, i * n, none⟩)) (.agg ⟨w⟩) g = some (g.put q (.cells (els.set i w).flatten (some n))) ∧ Cl n (g.put q (.cells (els.set i w).flatten (some n))) v (els.set i w) base := by
  rcases c.2 with ⟨rfl, _⟩ | ⟨q, rfl, hb, hq, hg⟩
  · simp at hi
  have hfl := flatten_len c.1
  have hle : (i + 1) * n ≤ els.length * n := Nat.mul_le_mul_right n hi
  rw [Nat.succ_mul] at hle
  have ix := idxS_eq n q 0 els.length (2 * els.length) i .i64 hi
  rw [Nat.zero_add] at ix
  have hs : SliceE n h (.slice (some ⟨q, 0, none⟩) els.length (2 * els.length)) els := ⟨c.1, .inr ⟨q, 0, _, rfl, by omega, hq, fun _ => ⟨_, _, hg, by omega, by rw [List.drop_zero, List.take_of_length_le (by omega)]⟩⟩⟩
  obtain ⟨id, off, cells, own, e1, _, e3, e4, e5, _⟩ := hs.at (List.getElem?_eq_getElem hi) .i64
  rw [ix] at e1
  have eid : q = id ∧ i * n = off := by
    injection e1 with e1; injection e1 with e1; injection e1 with e1; injection e1 with a b _
    exact ⟨a, b⟩
  obtain ⟨rfl, rfl⟩ := eid
  refine ⟨q, ix, hb, rfl, ?_, fun w g hw hgq hgn => ?_⟩
  · rw [loadN_eq, e3]
    have : Nat.ble (i * n + n) cells.length = true := by rw [ble_dec, decide_eq_true_iff]; exact e4
    simp only [this, cond_true, e5]
  · rw [store_eq, hgq, hg]
    have c1 : Nat.beq w.length n = true := by rw [beq_dec', decide_eq_true_iff]; exact hw
    have c2 : Nat.ble (i * n + n) els.flatten.length = true := by rw [ble_dec, decide_eq_true_iff]; omega
    refine ⟨?_, fun e he => ?_, .inr ⟨q, by rw [List.length_set], hb, Nat.lt_of_lt_of_le hq hgn, by rw [H.get_put, if_pos rfl]⟩⟩
    · simp only [cellsL_agg, c1, c2, Bool.and_self, cond_true, flatten_splice els i c.1 hw hi]
    · rcases List.mem_or_eq_of_mem_set he with h1 | h1
      · exact c.1 e h1
      · rw [h1]; exact hw

/-- slices.Clone's append. -/
theorem clone_app {n bs : Nat} {h : H} {v : Value} {els : List (List Value)} (s : SliceE n h v els) (z : List Value) (hb : els.length * bs ≤ 2 ^ 47) (hl : els.length ≤ 2 ^ 47) :
    ∃ h1 v' h', A.buildSlice n 0 z [] h = some (.slice (some ⟨h.next, 0, none⟩) 0 1, h1) ∧ A.append n bs (.slice (some ⟨h.next, 0, none⟩) 0 1) v h1 = some (v', h') ∧ Cl n h' v' els h.next ∧ Ext h h' := by
  obtain ⟨h1, hh1⟩ : ∃ h1, h1 = h.push (.cells [] (some n)) := ⟨_, rfl⟩
  have x1 : Ext h h1 := hh1 ▸ Ext.push h _
  have n1 : h1.next = h.next + 1 := by rw [hh1]; rfl
  have gt : h1.get h.next = some (.cells [] (some n)) := by rw [hh1, H.get_push, if_pos rfl]
  have s1 := s.ext x1
  obtain ⟨_, hlen⟩ := s1.len
  have hel := s1.elems
  have bsl : A.buildSlice n 0 z [] h = some (.slice (some ⟨h.next, 0, none⟩) 0 1, h1) := by rw [hh1]; rfl
  by_cases h0 : els = []
  · subst h0
    refine ⟨h1, .slice (some ⟨h.next, 0, none⟩) 0 1, h1, bsl, ?_, ⟨by simp, .inl ⟨rfl, rfl, rfl, same_slice _ _ _ (fun b h => by cases h; rfl), fun i hi => by
      have e : h.next = i := (by simpa [AM.sid] using hi)
      omega⟩⟩, x1⟩
    simp only [A.append, hel, hlen]; rfl
  · have hpos : 0 < els.length := List.length_pos_iff.2 h0
    have hfl : els.flatten.length = els.length * n := flatten_len s.1
    refine ⟨h1, .slice (some ⟨h1.next, 0, none⟩) els.length (2 * els.length), h1.push (.cells els.flatten (some n)), bsl, ?_, ⟨s.1, .inr ⟨h1.next, rfl, by omega, Nat.lt_succ_self _, by rw [H.get_push, if_pos rfl]⟩⟩, x1.pushed _⟩
    simp only [A.append, hel, hlen, gt]
    have e0 : Nat.beq els.length 0 = false := by rw [T.beq_dec]; simp; omega
    have e1 : Nat.ble (0 + els.length) (1 / 2) = false := by rw [ble_dec, decide_eq_false_iff_not]; omega
    have e2 : Nat.ble ((0 + els.length) * bs) (2 ^ 47) = true := ble_iff.2 (by simpa using hb)
    have e3 : Nat.ble (0 + els.length) (2 ^ 47) = true := ble_iff.2 (by simpa using hl)
    have e4 : Nat.ble (0 + 0 * n) ([] : List Value).length = true := ble_iff.2 (by simp)
    rw [e0, e1, e2, e3, e4]
    simp

theorem nil_cl (n : Nat) (h : H) (base : Nat) : Cl n h (.slice none 0 0) [] base := ⟨by simp, .inl ⟨rfl, rfl, rfl, rfl, fun i hi => by simp [AM.sid] at hi⟩⟩

theorem T41g (k : Nat) {h : H} {v : Value} {els : List (List Value)} (s : SliceE 38 h v els) (hl : els.length ≤ 100) : ∃ v' h', callB Try.prog 0 [9] (k + 1) 41 [v] h = some (v', h') ∧ Cl 38 h' v' els h.next ∧ Ext h h' := by
  rw [F41eq [9] rfl]
  rcases s.nil_or with ⟨rfl, rfl⟩ | ⟨a, c, rfl⟩
  · have e : A.bin Try.prog .eql 29 (.slice none 0 0) (.slice none 0 0) = some (.bool true) := by kernel_rfl
    exact ⟨_, h, by simp only [F41, p41a, e, bnd_some, toBK_bool, cond_true], nil_cl 38 h _, Ext.refl h⟩
  · obtain ⟨h1, v', h', e1, e2, c', x'⟩ := clone_app (bs := 384) s Z71L (by omega) (by omega)
    exact ⟨v', h', by simp only [F41, p41a, bin_slice_nil Try.underlying29, bnd_some, toBK_bool, cond_false, e1, bnd2_some, e2], c', x'⟩
theorem T43g (k : Nat) {h : H} {v : Value} {els : List (List Value)} (s : SliceE 4 h v els) (hl : els.length ≤ 100) : ∃ v' h', callB Try.prog 0 [9] (k + 1) 43 [v] h = some (v', h') ∧ Cl 4 h' v' els h.next ∧ Ext h h' := by
  rw [F43eq [9] rfl]
  rcases s.nil_or with ⟨rfl, rfl⟩ | ⟨a, c, rfl⟩
  · have e : A.bin Try.prog .eql 67 (.slice none 0 0) (.slice none 0 0) = some (.bool true) := by kernel_rfl
    exact ⟨_, h, by simp only [F43, p43a, e, bnd_some, toBK_bool, cond_true], nil_cl 4 h _, Ext.refl h⟩
  · obtain ⟨h1, v', h', e1, e2, c', x'⟩ := clone_app (bs := 40) s Z63L (by omega) (by omega)
    exact ⟨v', h', by simp only [F43, p43a, bin_slice_nil Try.underlying67, bnd_some, toBK_bool, cond_false, e1, bnd2_some, e2], c', x'⟩
theorem T44g (k : Nat) {h : H} {v : Value} {els : List (List Value)} (s : SliceE 1 h v els) (hl : els.length ≤ 100) : ∃ v' h', callB Try.prog 0 [9] (k + 1) 44 [v] h = some (v', h') ∧ Cl 1 h' v' els h.next ∧ Ext h h' := by
  rw [F44eq [9] rfl]
  rcases s.nil_or with ⟨rfl, rfl⟩ | ⟨a, c, rfl⟩
  · have e : A.bin Try.prog .eql 68 (.slice none 0 0) (.slice none 0 0) = some (.bool true) := by kernel_rfl
    exact ⟨_, h, by simp only [F44, p44a, e, bnd_some, toBK_bool, cond_true], nil_cl 1 h _, Ext.refl h⟩
  · obtain ⟨h1, v', h', e1, e2, c', x'⟩ := clone_app (bs := 16) s Z9L (by omega) (by omega)
    exact ⟨v', h', by simp only [F44, p44a, bin_slice_nil Try.underlying68, bnd_some, toBK_bool, cond_false, e1, bnd2_some, e2], c', x'⟩
theorem T45g (k : Nat) {h : H} {v : Value} {els : List (List Value)} (s : SliceE 24 h v els) (hl : els.length ≤ 100) : ∃ v' h', callB Try.prog 0 [9] (k + 1) 45 [v] h = some (v', h') ∧ Cl 24 h' v' els h.next ∧ Ext h h' := by
  rw [F45eq [9] rfl]
  rcases s.nil_or with ⟨rfl, rfl⟩ | ⟨a, c, rfl⟩
  · have e : A.bin Try.prog .eql 69 (.slice none 0 0) (.slice none 0 0) = some (.bool true) := by kernel_rfl
    exact ⟨_, h, by simp only [F45, p45a, e, bnd_some, toBK_bool, cond_true], nil_cl 24 h _, Ext.refl h⟩
  · obtain ⟨h1, v', h', e1, e2, c', x'⟩ := clone_app (bs := 200) s Z66L (by omega) (by omega)
    exact ⟨v', h', by simp only [F45, p45a, bin_slice_nil Try.underlying69, bnd_some, toBK_bool, cond_false, e1, bnd2_some, e2], c', x'⟩

/-- append to nil. -/
theorem app_nil {n bs : Nat} {h : H} {v : Value} {els : List (List Value)} (s : SliceE n h v els) (hb : els.length * bs ≤ 2 ^ 47) (hl : els.length ≤ 2 ^ 47) : ∃ v' h', A.append n bs (.slice none 0 0) v h = some (v', h') ∧ cellsL v' = some [v'] ∧ Ext h h' := by
  obtain ⟨_, hlen⟩ := s.len
  have hel := s.elems
  by_cases h0 : els.length = 0
  · refine ⟨.slice none 0 0, h, ?_, rfl, Ext.refl h⟩
    have e0 : Nat.beq els.length 0 = true := by rw [T.beq_dec]; simpa using h0
    simp only [A.append, hel, hlen, e0, cond_true]
  · have e0 : Nat.beq els.length 0 = false := by rw [T.beq_dec]; simpa using h0
    have e2 : Nat.ble (els.length * bs) (2 ^ 47) = true := ble_iff.2 hb
    have e3 : Nat.ble els.length (2 ^ 47) = true := ble_iff.2 hl
    refine ⟨.slice (some ⟨h.next, 0, none⟩) els.length (2 * els.length), h.push (.cells els.flatten (some n)), ?_, rfl, Ext.push h _⟩
    simp only [A.append, hel, hlen, e0, cond_false, e2, e3, Bool.and_self, cond_true]

/-- A packet is copied. -/
theorem T42g (k : Nat) {h : H} {f : PkF} {els : List (List Value)} (s : SliceE 2 h f.w els) (hl : els.length ≤ 100) : ∃ cs h', callB Try.prog 0 [9] (k + 1) 42 [.agg ⟨f.cells⟩] h = some (.agg ⟨cs⟩, h') ∧ cs.length = 24 ∧ Ext h h' := by
  rw [F42eq [9] rfl]
  obtain ⟨h1, hh1⟩ : ∃ h1, h1 = h.push (.cells f.cells (some 0)) := ⟨_, rfl⟩
  have b1 : A.box 24 (.agg ⟨f.cells⟩) h = some (ptrV h.next, h1) := by rw [hh1]; rfl
  have n1 : h1.next = h.next + 1 := by rw [hh1]; rfl
  have x1 : Ext h h1 := hh1 ▸ Ext.push h _
  have g1 : h1.get h.next = some (.cells f.cells (some 0)) := by rw [hh1, H.get_push, if_pos rfl]
  obtain ⟨h2, hh2⟩ : ∃ h2, h2 = h1.push (.cells Z66L (some 0)) := ⟨_, rfl⟩
  have b2 : A.box 24 Z66 h1 = some (ptrV h1.next, h2) := by rw [hh2]; rfl
  have n2 : h2.next = h1.next + 1 := by rw [hh2]; rfl
  have x2 : Ext h1 h2 := hh2 ▸ Ext.push h1 _
  have g2a : h2.get h.next = some (.cells f.cells (some 0)) := by rw [x2.get _ (by omega)]; exact g1
  have g2b : h2.get h1.next = some (.cells Z66L (some 0)) := by rw [hh2, H.get_push, if_pos rfl]
  have l22 : A.load false 1 (.pointer (some ⟨h.next, 22, none⟩)) h2 = some f.w := by rw [load1_eq, g2a]; rfl
  obtain ⟨v', h3, ap, hcl, x3⟩ := app_nil (bs := 24) ((s.ext x1).ext x2) (by omega) (by omega)
  have nx3 := x3.next
  have g3a : h3.get h.next = some (.cells f.cells (some 0)) := by rw [x3.get _ (by omega)]; exact g2a
  have g3b : h3.get h1.next = some (.cells Z66L (some 0)) := by rw [x3.get _ (by omega)]; exact g2b
  have fl : f.cells.length = 24 := rfl
  obtain ⟨cs, hcs⟩ : ∃ cs, cs = f.cells.set 22 v' := ⟨_, rfl⟩
  have csl : cs.length = 24 := by rw [hcs, List.length_set]; exact fl
  obtain ⟨h4, hh4⟩ : ∃ h4, h4 = h3.put h.next (.cells cs (some 0)) := ⟨_, rfl⟩
  have s1 : A.store 1 (.pointer (some ⟨h.next, 22, none⟩)) v' h3 = some h4 := by
    rw [store_eq, g3a, hcl, hh4, hcs, ← splice_one (by rw [fl]; omega)]
    rfl
  have g4a : h4.get h.next = some (.cells cs (some 0)) := by rw [hh4, H.get_put, if_pos rfl]
  have g4b : h4.get h1.next = some (.cells Z66L (some 0)) := by rw [hh4, H.get_put, if_neg (by omega)]; exact g3b
  have l4 : A.load true 24 (ptrV h.next) h4 = some (.agg ⟨cs⟩) := by
    rw [loadN_eq, g4a]
    have : Nat.ble (0 + 24) cs.length = true := by rw [csl]; rfl
    simp only [this, cond_true]
    rw [List.drop_zero, List.take_of_length_le (by omega)]
  have sp : splice Z66L 0 cs = cs := by
    have hz : Z66L.length = 24 := rfl
    simp [splice, csl, hz]
  obtain ⟨h5, hh5⟩ : ∃ h5, h5 = h4.put h1.next (.cells cs (some 0)) := ⟨_, rfl⟩
  have s2 : A.store 24 (ptrV h1.next) (.agg ⟨cs⟩) h4 = some h5 := by
    rw [store_eq, g4b, hh5]
    have c1 : Nat.beq cs.length 24 = true := by rw [csl]; rfl
    have c2 : Nat.ble (0 + 24) Z66L.length = true := rfl
    simp only [cellsL_agg, c1, c2, Bool.and_self, cond_true, sp]
  have g5 : h5.get h1.next = some (.cells cs (some 0)) := by rw [hh5, H.get_put, if_pos rfl]
  have l5 : A.load true 24 (ptrV h1.next) h5 = some (.agg ⟨cs⟩) := by
    rw [loadN_eq, g5]
    have : Nat.ble (0 + 24) cs.length = true := by rw [csl]; rfl
    simp only [this, cond_true]
    rw [List.drop_zero, List.take_of_length_le (by omega)]
  refine ⟨cs, h5, ?_, csl, ?_⟩
  · simp only [F42, p42a, b1, bnd2_some, b2, fieldAddr_eq, Nat.zero_add, bnd_some, l22, ap, s1, l4, s2, l5]
    rfl
  · rw [hh5, hh4]
    exact (((x1.trans x2).trans x3).put _ _ (Nat.le_refl _)).put _ _ (by omega)
end Go.Proofs.Ytdjhkdogpbiglaa.MailD
