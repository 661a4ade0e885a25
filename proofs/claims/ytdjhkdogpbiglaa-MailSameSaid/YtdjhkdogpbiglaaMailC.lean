/-
  Mail: a command of one item, by a number, is copied.
-/
import Derived.Test.YtdjhkdogpbiglaaMailS4
namespace Go.Proofs.Ytdjhkdogpbiglaa.MailD
open Go Go.AM

theorem T42z (k : Nat) (h : H) : ∃ h', callB Try.prog 0 [9] (k + 1) 42 [.agg ⟨Z66L⟩] h = some (.agg ⟨Z66L⟩, h') ∧ Ext h h' := by
  rw [F42eq [9] rfl]
  obtain ⟨h1, hh1⟩ : ∃ h1, h1 = h.push (.cells Z66L (some 0)) := ⟨_, rfl⟩
  have b1 : A.box 24 (.agg ⟨Z66L⟩) h = some (ptrV h.next, h1) := by rw [hh1]; rfl
  have n1 : h1.next = h.next + 1 := by rw [hh1]; rfl
  have x1 : Ext h h1 := hh1 ▸ Ext.push h _
  have g1 : h1.get h.next = some (.cells Z66L (some 0)) := by rw [hh1, H.get_push, if_pos rfl]
  obtain ⟨h2, hh2⟩ : ∃ h2, h2 = h1.push (.cells Z66L (some 0)) := ⟨_, rfl⟩
  have b2 : A.box 24 Z66 h1 = some (ptrV h1.next, h2) := by rw [hh2]; rfl
  have n2 : h2.next = h1.next + 1 := by rw [hh2]; rfl
  have x2 : Ext h1 h2 := hh2 ▸ Ext.push h1 _
  have g2a : h2.get h.next = some (.cells Z66L (some 0)) := by rw [x2.get _ (by omega)]; exact g1
  have g2b : h2.get h1.next = some (.cells Z66L (some 0)) := by rw [hh2, H.get_push, if_pos rfl]
  have l22 : A.load false 1 (.pointer (some ⟨h.next, 22, none⟩)) h2 = some (.slice none 0 0) := by rw [load1_eq, g2a]; rfl
  have ap : A.append 2 24 (.slice none 0 0) (.slice none 0 0) h2 = some (.slice none 0 0, h2) := rfl
  obtain ⟨h3, hh3⟩ : ∃ h3, h3 = h2.put h.next (.cells Z66L (some 0)) := ⟨_, rfl⟩
  have s1 : A.store 1 (.pointer (some ⟨h.next, 22, none⟩)) (.slice none 0 0) h2 = some h3 := by rw [store_eq, g2a, hh3]; rfl
  have g3a : h3.get h.next = some (.cells Z66L (some 0)) := by rw [hh3, H.get_put, if_pos rfl]
  have g3b : h3.get h1.next = some (.cells Z66L (some 0)) := by rw [hh3, H.get_put, if_neg (by omega)]; exact g2b
  have l3 : A.load true 24 (ptrV h.next) h3 = some (.agg ⟨Z66L⟩) := by rw [loadN_eq, g3a]; rfl
  obtain ⟨h4, hh4⟩ : ∃ h4, h4 = h3.put h1.next (.cells Z66L (some 0)) := ⟨_, rfl⟩
  have s2 : A.store 24 (ptrV h1.next) (.agg ⟨Z66L⟩) h3 = some h4 := by rw [store_eq, g3b, hh4]; rfl
  have g4 : h4.get h1.next = some (.cells Z66L (some 0)) := by rw [hh4, H.get_put, if_pos rfl]
  have l4 : A.load true 24 (ptrV h1.next) h4 = some (.agg ⟨Z66L⟩) := by rw [loadN_eq, g4]; rfl
  refine ⟨h4, ?_, ?_⟩
  · simp only [F42, p42a, b1, bnd2_some, b2, fieldAddr_eq, Nat.zero_add, bnd_some, l22, ap, s1, l3, s2, l4]
    rfl
  · rw [hh4, hh3]
    exact ((x1.trans x2).put _ _ (Nat.le_refl _)).put _ _ (by omega)

theorem T43z (k : Nat) (h : H) : callB Try.prog 0 [9] (k + 1) 43 [.slice none 0 0] h = some (.slice none 0 0, h) := by
  rw [F43eq [9] rfl]
  have e : A.bin Try.prog .eql 67 (.slice none 0 0) (.slice none 0 0) = some (.bool true) := by kernel_rfl
  simp only [F43, p43a, e, bnd_some, toBK_bool, cond_true]
theorem T44z (k : Nat) (h : H) : callB Try.prog 0 [9] (k + 1) 44 [.slice none 0 0] h = some (.slice none 0 0, h) := by
  rw [F44eq [9] rfl]
  have e : A.bin Try.prog .eql 68 (.slice none 0 0) (.slice none 0 0) = some (.bool true) := by kernel_rfl
  simp only [F44, p44a, e, bnd_some, toBK_bool, cond_true]
theorem T45z (k : Nat) (h : H) : callB Try.prog 0 [9] (k + 1) 45 [.slice none 0 0] h = some (.slice none 0 0, h) := by
  rw [F45eq [9] rfl]
  have e : A.bin Try.prog .eql 69 (.slice none 0 0) (.slice none 0 0) = some (.bool true) := by kernel_rfl
  simp only [F45, p45a, e, bnd_some, toBK_bool, cond_true]

/-- An item's cells in new memory. -/
theorem T41one (k : Nat) {h : H} {q c : Nat} {o : Option Nat} {it : List Value} (hl : it.length = 38) (hq : q < h.next) (hg : h.get q = some (.cells it o)) :
    ∃ h', callB Try.prog 0 [9] (k + 1) 41 [.slice (some ⟨q, 0, none⟩) 1 c] h = some (.slice (some ⟨h.next + 1, 0, none⟩) 1 2, h') ∧ h'.get (h.next + 1) = some (.cells it (some 38)) ∧ h'.next = h.next + 2 ∧ Ext h h' := by
  rw [F41eq [9] rfl]
  obtain ⟨h1, hh1⟩ : ∃ h1, h1 = h.push (.cells [] (some 38)) := ⟨_, rfl⟩
  have b1 : A.buildSlice 38 0 Z71L [] h = some (.slice (some ⟨h.next, 0, none⟩) 0 1, h1) := by rw [hh1]; rfl
  have n1 : h1.next = h.next + 1 := by rw [hh1]; rfl
  have x1 : Ext h h1 := hh1 ▸ Ext.push h _
  have gt : h1.get h.next = some (.cells [] (some 38)) := by rw [hh1, H.get_push, if_pos rfl]
  have gq : h1.get q = some (.cells it o) := by rw [x1.get q hq]; exact hg
  have hel : A.elems 38 (.slice (some ⟨q, 0, none⟩) 1 c) h1 = some it := by
    have c1 : Nat.beq 1 0 = false := rfl
    have c2 : Nat.ble (0 + 1 * 38) it.length = true := by rw [hl]; rfl
    simp only [A.elems, c1, cond_false, gq, c2, cond_true]
    rw [List.drop_zero, List.take_of_length_le (by omega)]
  have hlo : A.lenOf (.slice (some ⟨q, 0, none⟩) 1 c) = 1 := rfl
  have ap : A.append 38 384 (.slice (some ⟨h.next, 0, none⟩) 0 1) (.slice (some ⟨q, 0, none⟩) 1 c) h1 = some (.slice (some ⟨h.next + 1, 0, none⟩) 1 2, h1.push (.cells it (some 38))) := by
    simp only [A.append, hel, hlo, gt]
    rw [n1]; rfl
  refine ⟨h1.push (.cells it (some 38)), ?_, by rw [H.get_push, n1, if_pos rfl], by rw [next_push']; omega, x1.pushed _⟩
  simp only [F41, p41a, bin_slice_nil Try.underlying29, bnd_some, toBK_bool, cond_false, b1, bnd2_some, ap]

/-- One round of the copy. -/
theorem round32 (k L : Nat) (hL : 1 ≤ L) {β : Type} (kn : Value → Value → Value → Value → H → Option β) {hA h2 : H} {q : Nat} {n : Int} (hq : q < h2.next) (hqA : hA.next ≤ q) (hg : h2.get q = some (.cells (itm n) (some 38))) (xA : Ext hA h2) :
    ∃ h', p32arrlrborrlb (callB Try.prog 0 [9] (k + 1)) L (.int .i64 0) (.int .i64 1) (.slice (some ⟨q, 0, none⟩) 1 2) (.slice (some ⟨q, 0, none⟩) 1 2) h2 kn = kn (.int .i64 0) (.int .i64 1) (.slice (some ⟨q, 0, none⟩) 1 2) (.slice (some ⟨q, 0, none⟩) 1 2) h' ∧
      h'.get q = some (.cells (itm n) (some 38)) ∧ q < h'.next ∧ Ext hA h' := by
  have ix : A.idxS 38 (.slice (some ⟨q, 0, none⟩) 1 2) (.int .i64 0) = some (.pointer (some ⟨q, 0, none⟩)) := idxS_eq 38 q 0 1 2 0 .i64 (by omega)
  have l1 : A.load true 38 (.pointer (some ⟨q, 0, none⟩)) h2 = some (.agg ⟨itm n⟩) := by rw [loadN_eq, hg]; rfl
  obtain ⟨t, htn⟩ : ∃ t, t = h2.next := ⟨_, rfl⟩
  have b1 : A.box 38 Z71 h2 = some (ptrV t, h2.push (.cells Z71L (some 0))) := by rw [htn]; rfl
  have gz : (h2.push (.cells Z71L (some 0))).get t = some (.cells Z71L (some 0)) := by rw [H.get_push, if_pos htn]
  obtain ⟨h4, hh4⟩ : ∃ h4, h4 = (h2.push (.cells Z71L (some 0))).put t (.cells (itm n) (some 0)) := ⟨_, rfl⟩
  have s1 : A.store 38 (ptrV t) (.agg ⟨itm n⟩) (h2.push (.cells Z71L (some 0))) = some h4 := by rw [store_eq, gz, hh4]; rfl
  have n4 : h4.next = h2.next + 1 := by rw [hh4]; rfl
  have g4 : h4.get t = some (.cells (itm n) (some 0)) := by rw [hh4, H.get_put, if_pos rfl]
  have q4 : h4.get q = some (.cells (itm n) (some 38)) := by rw [hh4, H.get_put, if_neg (by omega), H.get_push, if_neg (by omega)]; exact hg
  have x4 : Ext hA h4 := hh4 ▸ (xA.pushed _).put _ _ (by omega)
  have l5 : A.load true 24 (.pointer (some ⟨t, 5, none⟩)) h4 = some (.agg ⟨Z66L⟩) := by rw [loadN_eq, g4]; rfl
  obtain ⟨h5, e42, x45⟩ := T42z k h4
  have x45n := x45.next
  have g5 : h5.get t = some (.cells (itm n) (some 0)) := by rw [x45.get t (by omega)]; exact g4
  have q5 : h5.get q = some (.cells (itm n) (some 38)) := by rw [x45.get q (by omega)]; exact q4
  have put : ∀ (g : H), g.get t = some (.cells (itm n) (some 0)) → g.get q = some (.cells (itm n) (some 38)) → Ext hA g → h5.next = g.next →
      ∃ g', g' = g.put t (.cells (itm n) (some 0)) ∧ g'.get t = some (.cells (itm n) (some 0)) ∧ g'.get q = some (.cells (itm n) (some 38)) ∧ Ext hA g' ∧ h5.next = g'.next := fun g a1 a2 a3 a4 =>
    ⟨_, rfl, by rw [H.get_put, if_pos rfl], by rw [H.get_put, if_neg (by omega)]; exact a2, a3.put _ _ (by have := xA.next; omega), a4⟩
  obtain ⟨h6, hh6, g6, q6, x6, n6⟩ := put h5 g5 q5 (x4.trans x45) rfl
  have s6 : A.store 24 (.pointer (some ⟨t, 5, none⟩)) (.agg ⟨Z66L⟩) h5 = some h6 := by rw [store_eq, g5, hh6]; rfl
  have l33 : A.load false 1 (.pointer (some ⟨t, 33, none⟩)) h6 = some (.slice none 0 0) := by rw [load1_eq, g6]; rfl
  obtain ⟨h7, hh7, g7, q7, x7, n7⟩ := put h6 g6 q6 x6 n6
  have s7 : A.store 1 (.pointer (some ⟨t, 33, none⟩)) (.slice none 0 0) h6 = some h7 := by rw [store_eq, g6, hh7]; rfl
  have l34 : A.load false 1 (.pointer (some ⟨t, 34, none⟩)) h7 = some (.slice none 0 0) := by rw [load1_eq, g7]; rfl
  obtain ⟨h8, hh8, g8, q8, x8, n8⟩ := put h7 g7 q7 x7 n7
  have s8 : A.store 1 (.pointer (some ⟨t, 34, none⟩)) (.slice none 0 0) h7 = some h8 := by rw [store_eq, g7, hh8]; rfl
  have l35 : A.load false 1 (.pointer (some ⟨t, 35, none⟩)) h8 = some (.slice none 0 0) := by rw [load1_eq, g8]; rfl
  obtain ⟨h9, hh9, g9, q9, x9, n9⟩ := put h8 g8 q8 x8 n8
  have s9 : A.store 1 (.pointer (some ⟨t, 35, none⟩)) (.slice none 0 0) h8 = some h9 := by rw [store_eq, g8, hh9]; rfl
  have l35b : A.load false 1 (.pointer (some ⟨t, 35, none⟩)) h9 = some (.slice none 0 0) := by rw [load1_eq, g9]; rfl
  have l9 : A.load true 38 (ptrV t) h9 = some (.agg ⟨itm n⟩) := by rw [loadN_eq, g9]; rfl
  have s10 : A.store 38 (.pointer (some ⟨q, 0, none⟩)) (.agg ⟨itm n⟩) h9 = some (h9.put q (.cells (itm n) (some 38))) := by rw [store_eq, q9]; rfl
  have hz : A.lenS (.slice none 0 0) = some (.int .i64 0) := rfl
  have hd : decide ((0 : Int) < 0) = false := rfl
  obtain ⟨L, rfl⟩ : ∃ m, L = m + 1 := ⟨L - 1, by omega⟩
  refine ⟨h9.put q (.cells (itm n) (some 38)), ?_, by rw [H.get_put, if_pos rfl], by show q < h9.next; omega, x9.put _ _ hqA⟩
  simp only [p32arrlrborrlb, p32arrlrborrlbl, ix, bnd_some, l1, b1, bnd2_some, s1, p32arrlrborrlbr, p32arrlrborrlbrl, fieldAddr_eq, Nat.zero_add, l5, e42, s6, p32arrlrborrlbrr, p32arrlrborrlbrrl, l33, T43z, s7, p32arrlrborrlbrrr, p32arrlrborrlbrrrl, l34, T44z, s8,
    p32arrlrborrlbrrrr, p32arrlrborrlbrrrrl, l35, T45z, s9, p32arrlrborrlbrrrrr, p32arrlrborrlbrrrrrl, p32arrlrborrlbrrrrrll, l35b, hz, p32arrlrborrlbrrrrrlr, p32arrlrborrlbrrrrrlrb, p32arrlrborrlbrrrrrlrbw, p32arrlrborrlbrrrrrlrbo, bin_lss, hd, condV_bool, cond_false, p32arrlrborrlbrrrrrr, l9, s10]

theorem T32one (k : Nat) {h : H} {c : Value} {n : Int} (hc : Cmd1 h c n) : ∃ c' h', callB Try.prog 0 [9] (k + 3) 32 [c] h = some (c', h') ∧ Cmd1 h' c' n ∧ Ext h h' ∧ (∀ i, sid c' = some i → h.next ≤ i) := by
  rw [F32eq [9] rfl]
  obtain ⟨q, cc, o, rfl, hq, hg⟩ := hc
  obtain ⟨h2, e41, g2, n2, x2⟩ := T41one (k + 1) (c := cc) (it := itm n) rfl hq hg
  obtain ⟨h', e, g', q', x'⟩ := round32 (k + 1) (k + 2) (by omega) (fun x12 x11 x10 x3 h => p32arrlrborrr (callB Try.prog 0 [9] (k + 2)) (k + 2) x12 x11 x10 x3 h (fun x11 x12 x10 x3 h => p32arrlrbw (callB Try.prog 0 [9] (k + 2)) (k + 2) (fun x3 h => p32arrr (callB Try.prog 0 [9] (k + 2)) (k + 2) x3 h (fun x2 h => some (x2, h))) (k + 1) x11 x12 x10 x3 h))
    (hA := h) (h2 := h2) (q := h.next + 1) (by omega) (by omega) g2 x2
  refine ⟨.slice (some ⟨h.next + 1, 0, none⟩) 1 2, h', ?_, ⟨h.next + 1, 2, some 38, rfl, q', g'⟩, x', fun i hi => ?_⟩
  · have hl : A.lenS (.slice (some ⟨h.next + 1, 0, none⟩) 1 2) = some (.int .i64 1) := rfl
    have hd : decide ((0 : Int) < 1) = true := rfl
    have hd2 : decide ((1 : Int) < 1) = false := rfl
    have hw : IntKind.i64.wrap ((0 : Int) + 1) = 1 := by decide
    simp only [F32, p32a, p32al, p32ar, p32arl, e41, bnd2_some, p32arr, p32arrl, p32arrll, hl, bnd_some, p32arrlr, p32arrlrb]
    rw [show p32arrlrbw (callB Try.prog 0 [9] (k + 2)) (k + 2) (fun x3 h => p32arrr (callB Try.prog 0 [9] (k + 2)) (k + 2) x3 h (fun x2 h => some (x2, h))) (k + 2) (.int .i64 1) (.int .i64 0) (.slice (some ⟨h.next + 1, 0, none⟩) 1 2) (.slice (some ⟨h.next + 1, 0, none⟩) 1 2) h2
      = p32arrlrbo (callB Try.prog 0 [9] (k + 2)) (k + 2) (.int .i64 1) (.int .i64 0) (.slice (some ⟨h.next + 1, 0, none⟩) 1 2) (.slice (some ⟨h.next + 1, 0, none⟩) 1 2) h2 (fun x11 x12 x10 x3 h => p32arrlrbw (callB Try.prog 0 [9] (k + 2)) (k + 2) (fun x3 h => p32arrr (callB Try.prog 0 [9] (k + 2)) (k + 2) x3 h (fun x2 h => some (x2, h))) (k + 1) x11 x12 x10 x3 h) (fun x3 h => p32arrr (callB Try.prog 0 [9] (k + 2)) (k + 2) x3 h (fun x2 h => some (x2, h))) from rfl]
    simp only [p32arrlrbo, p32arrlrbol, bin_lss, hd, bnd_some, p32arrlrbor, p32arrlrborl, condV_bool, cond_true, p32arrlrborr, p32arrlrborrl]
    refine Eq.trans e ?_
    simp only [p32arrlrborr, p32arrlrborrr, bin_add, hw, bnd_some, p32arrlrbw, p32arrlrbo, p32arrlrbol, bin_lss, hd2, p32arrlrbor, p32arrlrborl, condV_bool, cond_false, p32arrr]
  · have : h.next + 1 = i := by simpa [sid] using hi
    omega
end Go.Proofs.Ytdjhkdogpbiglaa.MailD
