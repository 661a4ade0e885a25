/-
  WorkerLanes: what the law's code does.
-/
import Derived.Test.YtoohgaejekfmdaaGreatDoorWlD
import Derived.Test.YtoohgaejekfmdaaGreatDoorAmLaw
namespace Go.Proofs.YtoohgaejekfmdaaGreatDoor.WlD
open Go Go.AM

def tb : List Nat := [0, 1, 1, 2, 3, 4, 4, 4, 5, 5, 5, 5, 6, 7, 7, 7]

theorem lane (k : Nat) (h : H) {n : Nat} (hn : n < 256) : ∃ r h', callB Tryz.prog 0 [6] (k + 1) 4 [.int .u8 (n : Int)] h = some (.int .i64 r, h) ∧ callB Tryz.prog 0 [6] (k + 1) 5 [.int .u8 (n : Int)] h = some (.int .i64 r, h') := by
  rw [F4eq [6] rfl, F5eq [6] rfl]
  by_cases hg : 15 < n
  · refine ⟨0, h, ?_, ?_⟩
    · have e1 : decide ((n : Int) = 1) = false := by rw [decide_eq_false_iff_not]; omega
      have e2 : decide ((n : Int) = 2) = false := by rw [decide_eq_false_iff_not]; omega
      have e3 : decide ((n : Int) = 3) = false := by rw [decide_eq_false_iff_not]; omega
      have e4 : decide ((n : Int) = 4) = false := by rw [decide_eq_false_iff_not]; omega
      have e5 : decide ((n : Int) = 5) = false := by rw [decide_eq_false_iff_not]; omega
      have e6 : decide ((n : Int) = 6) = false := by rw [decide_eq_false_iff_not]; omega
      have e7 : decide ((n : Int) = 7) = false := by rw [decide_eq_false_iff_not]; omega
      have e8 : decide ((n : Int) = 8) = false := by rw [decide_eq_false_iff_not]; omega
      have e9 : decide ((n : Int) = 9) = false := by rw [decide_eq_false_iff_not]; omega
      have e10 : decide ((n : Int) = 10) = false := by rw [decide_eq_false_iff_not]; omega
      have e11 : decide ((n : Int) = 11) = false := by rw [decide_eq_false_iff_not]; omega
      have e12 : decide ((n : Int) = 12) = false := by rw [decide_eq_false_iff_not]; omega
      have e13 : decide ((n : Int) = 13) = false := by rw [decide_eq_false_iff_not]; omega
      have e14 : decide ((n : Int) = 14) = false := by rw [decide_eq_false_iff_not]; omega
      have e15 : decide ((n : Int) = 15) = false := by rw [decide_eq_false_iff_not]; omega
      simp only [F4, p4al, p4arll, p4arlrbl, p4arlrbrt, p4arlrbrfl, p4arlrbrfrt, p4arlrbrfrfl, p4arlrbrfrfrt, p4arlrbrfrfrfl, p4arlrbrfrfrfrt, p4arlrbrfrfrfrfl, p4arlrbrfrfrfrfrt, p4arlrbrfrfrfrfrfl, p4arlrbrfrfrfrfrfrt, p4arlrbrfrfrfrfrfrfl, p4arlrbrfrfrfrfrfrfr, p4arlrbrfrfrfrfrfrf, p4arlrbrfrfrfrfrfr, p4arlrbrfrfrfrfrf, p4arlrbrfrfrfrfr, p4arlrbrfrfrfrf, p4arlrbrfrfrfr, p4arlrbrfrfrf, p4arlrbrfrfr, p4arlrbrfrf, p4arlrbrfr, p4arlrbrf, p4arlrbr, p4arlrb, p4arlr, p4arl, p4arr, p4ar, p4a, bin_eql, bnd_some, toBK_bool, e1, e2, e3, e4, e5, e6, e7, e8, e9, e10, e11, e12, e13, e14, e15, cond_false, condV_bool]
    · have hd : decide ((15 : Int) < (n : Int)) = true := by rw [decide_eq_true_iff]; omega
      simp only [F5, p5a, bin_gtr, hd, bnd_some, toBK_bool, cond_true]
  · have hl : n < 16 := by omega
    obtain ⟨h5, hh5⟩ : ∃ h5, h5 = h.push (.cells (tb.map fun (x : Nat) => Value.int .i64 (x : Int)) (some 1)) := ⟨_, rfl⟩
    have eb : A.buildSlice 1 16 Z3L [(0, 1, (.int .i64 0)), (1, 1, (.int .i64 1)), (2, 1, (.int .i64 1)), (3, 1, (.int .i64 2)), (4, 1, (.int .i64 3)), (5, 1, (.int .i64 4)), (6, 1, (.int .i64 4)), (7, 1, (.int .i64 4)), (8, 1, (.int .i64 5)), (9, 1, (.int .i64 5)), (10, 1, (.int .i64 5)), (11, 1, (.int .i64 5)), (12, 1, (.int .i64 6)), (13, 1, (.int .i64 7)), (14, 1, (.int .i64 7)), (15, 1, (.int .i64 7))] h = some (.slice (some ⟨h.next, 0, none⟩) 16 33, h5) := by rw [hh5]; rfl
    have ix := idxS_eq 1 h.next 0 16 33 n .u8 hl
    rw [Nat.zero_add, Nat.mul_one] at ix
    have g5 : h5.get h.next = some (.cells (tb.map fun (x : Nat) => Value.int .i64 (x : Int)) (some 1)) := by rw [hh5, H.get_push, if_pos rfl]
    have hd : decide ((15 : Int) < (n : Int)) = false := by rw [decide_eq_false_iff_not]; omega
    have key : tb[n]? = some (tb.getD n 0) ∧ F4 (callB Tryz.prog 0 [6] k) k (.int .u8 (n : Int)) h = some (.int .i64 ((tb.getD n 0 : Nat) : Int), h) := by
      have : n = 0 ∨ n = 1 ∨ n = 2 ∨ n = 3 ∨ n = 4 ∨ n = 5 ∨ n = 6 ∨ n = 7 ∨ n = 8 ∨ n = 9 ∨ n = 10 ∨ n = 11 ∨ n = 12 ∨ n = 13 ∨ n = 14 ∨ n = 15 := by omega
      rcases this with rfl | rfl | rfl | rfl | rfl | rfl | rfl | rfl | rfl | rfl | rfl | rfl | rfl | rfl | rfl | rfl <;> exact ⟨rfl, by kernel_rfl⟩
    have ld : A.load false 1 (.pointer (some ⟨h.next, n, none⟩)) h5 = some (.int .i64 ((tb.getD n 0 : Nat) : Int)) := by
      rw [load1_eq, g5]
      show (tb.map fun (x : Nat) => Value.int .i64 (x : Int))[n]? = _
      rw [List.getElem?_map, key.1]; rfl
    refine ⟨_, h5, key.2, ?_⟩
    simp only [F5, p5a, bin_gtr, hd, bnd_some, toBK_bool, cond_false, eb, bnd2_some, ix, ld]

/-- The law, awake known. -/
theorem law (k : Nat) (h : H) {n : Nat} (hn : n < 256) : ∃ h', callB Tryz.prog 0 [6] (k + 2) 3 [.int .u8 (n : Int)] h = some (.bool true, h') := by
  obtain ⟨r, h', e4, e5⟩ := lane k h hn
  have e6 : callB Tryz.prog 0 [6] (k + 1) 6 [] h' = some (.bool true, h') := by kernel_rfl
  refine ⟨h', ?_⟩
  rw [F3eq [6] rfl]
  simp only [F3, p3a, e4, bnd2_some, e5, bin_eql, decide_true, bnd_some, toBK_bool, cond_true, e6]
end Go.Proofs.YtoohgaejekfmdaaGreatDoor.WlD
