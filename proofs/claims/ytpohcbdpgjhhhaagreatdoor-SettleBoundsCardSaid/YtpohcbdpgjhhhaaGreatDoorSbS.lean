/-
  SettleBounds: what the law's code does.
-/
import Derived.Test.YtpohcbdpgjhhhaaGreatDoorSbD
import Derived.Test.YtpohcbdpgjhhhaaGreatDoorAmLaw
namespace Go.Proofs.YtpohcbdpgjhhhaaGreatDoor.SbD
open Go Go.AM

theorem bound (k : Nat) (h : H) (x y z : Int) : ∃ r, callB Tryz.prog 0 [6] (k + 1) 4 [.int .i64 x, .int .i64 y, .int .i64 z] h = some (.int .i64 r, h) ∧ callB Tryz.prog 0 [6] (k + 1) 5 [.int .i64 x, .int .i64 y, .int .i64 z] h = some (.int .i64 r, h) := by
  rw [F4eq [6] rfl, F5eq [6] rfl]
  by_cases c1 : x < 1
  · refine ⟨0, ?_, ?_⟩
    · simp only [F4, p4a, p4al, p4ar, p4arl, p4arll, p4arlr, bin_lss, bnd_some, decide_eq_true c1, toBK_bool, cond_true, condV_bool]
    · simp only [F5, p5a, p5al, p5ar, p5arl, p5arll, p5arlr, bin_lss, bnd_some, decide_eq_true c1, toBK_bool, cond_true, condV_bool]
  by_cases c2 : 64 < x
  · refine ⟨0, ?_, ?_⟩
    · simp only [F4, p4a, p4al, p4ar, p4arl, p4arll, p4arlr, bin_lss, bin_gtr, bnd_some, decide_eq_false c1, decide_eq_true c2, toBK_bool, cond_true, cond_false, condV_bool]
    · simp only [F5, p5a, p5al, p5ar, p5arl, p5arll, p5arlr, bin_lss, bin_gtr, bnd_some, decide_eq_false c1, decide_eq_true c2, toBK_bool, cond_true, cond_false, condV_bool]
  by_cases c3 : y < 0
  · refine ⟨0, ?_, ?_⟩
    · simp only [F4, p4a, p4al, p4ar, p4arl, p4arll, p4arlr, bin_lss, bin_gtr, bnd_some, decide_eq_false c1, decide_eq_false c2, decide_eq_true c3, toBK_bool, cond_true, cond_false, condV_bool]
    · simp only [F5, p5a, p5al, p5ar, p5arl, p5arll, p5arlr, bin_lss, bin_gtr, bnd_some, decide_eq_false c1, decide_eq_false c2, decide_eq_true c3, toBK_bool, cond_true, cond_false, condV_bool]
  by_cases c4 : 4096 < y
  · refine ⟨0, ?_, ?_⟩
    · simp only [F4, p4a, p4al, p4ar, p4arl, p4arll, p4arlr, bin_lss, bin_gtr, bnd_some, decide_eq_false c1, decide_eq_false c2, decide_eq_false c3, decide_eq_true c4, toBK_bool, cond_true, cond_false, condV_bool]
    · simp only [F5, p5a, p5al, p5ar, p5arl, p5arll, p5arlr, bin_lss, bin_gtr, bnd_some, decide_eq_false c1, decide_eq_false c2, decide_eq_false c3, decide_eq_true c4, toBK_bool, cond_true, cond_false, condV_bool]
  by_cases c5 : z < 0
  · refine ⟨0, ?_, ?_⟩
    · simp only [F4, p4a, p4al, p4ar, p4arl, p4arll, p4arlr, bin_lss, bin_gtr, bnd_some, decide_eq_false c1, decide_eq_false c2, decide_eq_false c3, decide_eq_false c4, decide_eq_true c5, toBK_bool, cond_true, cond_false, condV_bool]
    · simp only [F5, p5a, p5al, p5ar, p5arl, p5arll, p5arlr, bin_lss, bin_gtr, bnd_some, decide_eq_false c1, decide_eq_false c2, decide_eq_false c3, decide_eq_false c4, decide_eq_true c5, toBK_bool, cond_true, cond_false, condV_bool]
  by_cases c6 : 2147483648 < z
  · refine ⟨0, ?_, ?_⟩
    · simp only [F4, p4a, p4al, p4ar, p4arl, p4arll, p4arlr, bin_lss, bin_gtr, bnd_some, decide_eq_false c1, decide_eq_false c2, decide_eq_false c3, decide_eq_false c4, decide_eq_false c5, decide_eq_true c6, toBK_bool, cond_true, cond_false, condV_bool]
    · simp only [F5, p5a, p5al, p5ar, p5arl, p5arll, p5arlr, bin_lss, bin_gtr, bnd_some, decide_eq_false c1, decide_eq_false c2, decide_eq_false c3, decide_eq_false c4, decide_eq_false c5, decide_eq_true c6, toBK_bool, cond_true, cond_false, condV_bool]
  obtain ⟨a, rfl⟩ : ∃ a : Nat, x = a := ⟨x.toNat, by omega⟩
  obtain ⟨b, rfl⟩ : ∃ b : Nat, y = b := ⟨y.toNat, by omega⟩
  obtain ⟨d, rfl⟩ : ∃ d : Nat, z = d := ⟨z.toNat, by omega⟩
  have hq : A.bin Tryz.prog .quo 3 (.int .i64 (d : Int)) (.int .i64 2) = some (.int .i64 ((d / 2 : Nat) : Int)) := by
    rw [bin_quo (hy := by decide)]
    have : ((d : Int).tdiv 2) = ((d / 2 : Nat) : Int) := by rw [Int.tdiv_eq_ediv_of_nonneg (by omega)]; omega
    rw [this, wrap_nat (by omega)]
  obtain ⟨e, he⟩ : ∃ e, e = d / 2 + b + 1 := ⟨_, rfl⟩
  have he2 : e ≤ 1073741824 + 4097 := by omega
  have w1 : IntKind.i64.wrap (((d / 2 : Nat) : Int) + (b : Int)) = ((d / 2 + b : Nat) : Int) := by rw [wrap64 (by omega) (by omega)]; omega
  have w2 : IntKind.i64.wrap (((d / 2 + b : Nat) : Int) + 1) = (e : Int) := by rw [wrap64 (by omega) (by omega)]; omega
  have w3 : IntKind.i64.wrap ((a : Int) + 4) = ((a + 4 : Nat) : Int) := by rw [wrap64 (by omega) (by omega)]; omega
  have m1 : e * (a + 4) ≤ (1073741824 + 4097) * 68 := Nat.mul_le_mul he2 (by omega)
  have m2 : e * (a + 4) * (a + 4) ≤ (1073741824 + 4097) * 68 * 68 := Nat.mul_le_mul m1 (by omega)
  have w4 : IntKind.i64.wrap ((e : Int) * ((a + 4 : Nat) : Int)) = ((e * (a + 4) : Nat) : Int) := by rw [← Int.natCast_mul, wrap_nat (by omega)]
  have w5 : IntKind.i64.wrap (((e * (a + 4) : Nat) : Int) * ((a + 4 : Nat) : Int)) = ((e * (a + 4) * (a + 4) : Nat) : Int) := by rw [← Int.natCast_mul, wrap_nat (by omega)]
  have m3 : a * a ≤ 64 * 64 := Nat.mul_le_mul (by omega) (by omega)
  have v1 : IntKind.i64.wrap ((a : Int) * (a : Int)) = ((a * a : Nat) : Int) := by rw [← Int.natCast_mul, wrap_nat (by omega)]
  have v2 : IntKind.i64.wrap (8 * (a : Int)) = ((8 * a : Nat) : Int) := by rw [wrap64 (by omega) (by omega)]; omega
  have v3 : IntKind.i64.wrap (((a * a : Nat) : Int) + ((8 * a : Nat) : Int)) = ((a * a + 8 * a : Nat) : Int) := by rw [wrap64 (by omega) (by omega)]; omega
  have v4 : IntKind.i64.wrap (((a * a + 8 * a : Nat) : Int) + 16) = (((a + 4) * (a + 4) : Nat) : Int) := by
    have : (a + 4) * (a + 4) = a * a + 8 * a + 16 := by rw [Nat.mul_add, Nat.add_mul]; omega
    rw [this, wrap64 (by omega) (by omega)]; omega
  have v5 : IntKind.i64.wrap ((e : Int) * (((a + 4) * (a + 4) : Nat) : Int)) = ((e * (a + 4) * (a + 4) : Nat) : Int) := by rw [← Int.natCast_mul, ← Nat.mul_assoc, wrap_nat (by omega)]
  refine ⟨((e * (a + 4) * (a + 4) : Nat) : Int), ?_, ?_⟩
  · simp only [F4, p4a, p4al, p4ar, p4arl, p4arll, p4arlr, p4arr, bin_lss, bin_gtr, bnd_some, decide_eq_false c1, decide_eq_false c2, decide_eq_false c3, decide_eq_false c4, decide_eq_false c5, decide_eq_false c6, toBK_bool, cond_false, condV_bool, hq, bin_add, bin_mul, w1, w2, w3, w4, w5]
  · simp only [F5, p5a, p5al, p5ar, p5arl, p5arll, p5arlr, p5arr, bin_lss, bin_gtr, bnd_some, decide_eq_false c1, decide_eq_false c2, decide_eq_false c3, decide_eq_false c4, decide_eq_false c5, decide_eq_false c6, toBK_bool, cond_false, condV_bool, hq, bin_add, bin_mul, w1, w2, v1, v2, v3, v4, v5]

/-- The law, awake known. -/
theorem law (k : Nat) (h : H) (x y z : Int) : ∃ h', callB Tryz.prog 0 [6] (k + 2) 3 [.int .i64 x, .int .i64 y, .int .i64 z] h = some (.bool true, h') := by
  obtain ⟨r, e4, e5⟩ := bound k h x y z
  have e6 : callB Tryz.prog 0 [6] (k + 1) 6 [] h = some (.bool true, h) := by kernel_rfl
  refine ⟨h, ?_⟩
  rw [F3eq [6] rfl]
  simp only [F3, p3a, e4, bnd2_some, e5, bin_eql, decide_true, bnd_some, toBK_bool, cond_true, e6]
end Go.Proofs.YtpohcbdpgjhhhaaGreatDoor.SbD
