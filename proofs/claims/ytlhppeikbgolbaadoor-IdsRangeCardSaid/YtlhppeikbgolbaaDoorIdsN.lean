/-
  Numbers of 64 bits, bit by bit. No program in sight.
-/
import Derived.Test.YtlhppeikbgolbaaDoorAmVc
namespace Go.IdsN
open Go Go.AM

theorem ofInt_nat (x : Nat) : BitVec.ofInt 64 (x : Int) = BitVec.ofNat 64 x := by
  apply BitVec.eq_of_toNat_eq
  simp
theorem wrapM (n : Int) : IntKind.u64.wrap n = n % 18446744073709551616 := by simp [IntKind.wrap, IntKind.bits, IntKind.signed]
theorem wrapU {x : Nat} (h : x < 2 ^ 64) : IntKind.u64.wrap (x : Int) = x := IntWalk.u64_in _ ⟨by omega, by omega⟩
theorem toNatU {x : Nat} (h : x < 2 ^ 64) : (BitVec.ofNat 64 x).toNat = x := by simp [BitVec.toNat_ofNat]; omega

variable (P : Program) (t : TypeId)
theorem orU {x y : Nat} (hx : x < 2 ^ 64) (hy : y < 2 ^ 64) : A.bin P .or t (.int .u64 x) (.int .u64 y) = some (.int .u64 ((x ||| y : Nat) : Int)) := by
  rw [bin_int P .or t .u64 x y (by simp) (by simp)]
  show some (Value.int .u64 (IntKind.u64.wrap ((BitVec.ofInt 64 (x : Int) ||| BitVec.ofInt 64 (y : Int)).toNat : Int))) = _
  rw [ofInt_nat, ofInt_nat, BitVec.toNat_or, toNatU hx, toNatU hy, wrapU (Nat.or_lt_two_pow hx hy)]
theorem andU {x y : Nat} (hx : x < 2 ^ 64) (hy : y < 2 ^ 64) : A.bin P .and t (.int .u64 x) (.int .u64 y) = some (.int .u64 ((x &&& y : Nat) : Int)) := by
  rw [bin_int P .and t .u64 x y (by simp) (by simp)]
  show some (Value.int .u64 (IntKind.u64.wrap ((BitVec.ofInt 64 (x : Int) &&& BitVec.ofInt 64 (y : Int)).toNat : Int))) = _
  rw [ofInt_nat, ofInt_nat, BitVec.toNat_and, toNatU hx, toNatU hy, wrapU (Nat.and_lt_two_pow x hy)]
/-- x without the bits of y. -/
def anU (x y : Nat) : Nat := (BitVec.ofNat 64 x &&& ~~~ BitVec.ofNat 64 y).toNat
theorem anU_lt (x y : Nat) : anU x y < 2 ^ 64 := BitVec.isLt _
theorem anU_bit {x y i : Nat} (hx : x < 2 ^ 64) : (anU x y).testBit i = (x.testBit i && (decide (i < 64) && !y.testBit i)) := by
  unfold anU
  rw [BitVec.testBit_toNat, BitVec.getLsbD_and, BitVec.getLsbD_not, BitVec.getLsbD_ofNat, BitVec.getLsbD_ofNat]
  by_cases hi : i < 64
  · simp [hi]
  · have : x.testBit i = false := Nat.testBit_lt_two_pow (Nat.lt_of_lt_of_le hx (Nat.pow_le_pow_right (by omega) (by omega)))
    simp [hi, this]
theorem andNotU {x y : Nat} : A.bin P .andNot t (.int .u64 x) (.int .u64 y) = some (.int .u64 ((anU x y : Nat) : Int)) := by
  rw [bin_int P .andNot t .u64 x y (by simp) (by simp)]
  show some (Value.int .u64 (IntKind.u64.wrap ((BitVec.ofInt 64 (x : Int) &&& ~~~ BitVec.ofInt 64 (y : Int)).toNat : Int))) = _
  rw [ofInt_nat, ofInt_nat, wrapU (BitVec.isLt _)]; rfl
theorem shl1 {y : Nat} (k : IntKind) (hy : y < 64) : A.bin P .shl t (.int .u64 1) (.int k y) = some (.int .u64 ((2 ^ y : Nat) : Int)) := by
  show A.shI .shl .u64 1 (y : Int) = _
  have h1 : (decide ((y : Int) < 0)) = false := by simp
  have h2 : Nat.min (y : Int).toNat 64 = y := by rw [Int.toNat_natCast]; exact Nat.min_eq_left (by omega)
  show (bif decide ((y : Int) < 0) then none else some (Value.int .u64 (IntKind.u64.wrap (1 * 2 ^ (Nat.min (y : Int).toNat 64))))) = _
  rw [h1, h2, Int.one_mul]
  have : ((2 : Int) ^ y) = ((2 ^ y : Nat) : Int) := by simp
  rw [this, wrapU (Nat.pow_lt_pow_right (by omega) hy)]; rfl
theorem shrU {x y : Nat} (k : IntKind) (hy : y < 64) : A.bin P .shr t (.int .u64 x) (.int k y) = some (.int .u64 ((x / 2 ^ y : Nat) : Int)) := by
  show A.shI .shr .u64 (x : Int) (y : Int) = _
  have h1 : (decide ((y : Int) < 0)) = false := by simp
  have h2 : Nat.min (y : Int).toNat 64 = y := by rw [Int.toNat_natCast]; exact Nat.min_eq_left (by omega)
  show (bif decide ((y : Int) < 0) then none else some (Value.int .u64 ((x : Int).fdiv (2 ^ (Nat.min (y : Int).toNat 64))))) = _
  rw [h1, h2]
  have : ((2 : Int) ^ y) = ((2 ^ y : Nat) : Int) := by simp
  rw [this, Int.fdiv_eq_ediv_of_nonneg _ (Int.natCast_nonneg _)]; rfl
theorem mulU {x y : Nat} : A.bin P .mul t (.int .u64 x) (.int .u64 y) = some (.int .u64 ((x * y % 2 ^ 64 : Nat) : Int)) := by
  rw [bin_mul, wrapM]
  congr 2
theorem subU {x y : Nat} (h : y ≤ x) (hx : x < 2 ^ 64) : A.bin P .sub t (.int .u64 x) (.int .u64 y) = some (.int .u64 ((x - y : Nat) : Int)) := by
  rw [bin_sub, show (x : Int) - (y : Int) = ((x - y : Nat) : Int) by omega, wrapU (by omega)]
theorem negU {x : Nat} (h0 : 0 < x) (hx : x < 2 ^ 64) : A.un P .neg (.int .u64 x) = some (.int .u64 ((2 ^ 64 - x : Nat) : Int)) := by
  show some (Value.int .u64 (IntKind.u64.wrap (0 - (x : Int)))) = _
  rw [wrapM]
  congr 2
  omega
theorem xorU {x : Nat} (hx : x < 2 ^ 64) : A.un P .xor (.int .u64 x) = some (.int .u64 ((2 ^ 64 - 1 - x : Nat) : Int)) := by
  show some (Value.int .u64 (IntKind.u64.wrap ((BitVec.ofInt 64 ((18446744073709551615 : Nat) : Int) ^^^ BitVec.ofInt 64 (x : Int)).toNat : Int))) = _
  rw [ofInt_nat, ofInt_nat, wrapU (BitVec.isLt _)]
  congr 3
  apply Nat.eq_of_testBit_eq
  intro i
  rw [BitVec.testBit_toNat, show 2 ^ 64 - 1 - x = 2 ^ 64 - (x + 1) by omega, Nat.testBit_two_pow_sub_succ hx, BitVec.getLsbD_xor, BitVec.getLsbD_ofNat, BitVec.getLsbD_ofNat,
    show 18446744073709551615 = 2 ^ 64 - 1 from rfl, Nat.testBit_two_pow_sub_one]
  by_cases hi : i < 64
  · simp [hi]
  · simp [hi]

/-- The lowest bit. -/
structure Lowest (x b : Nat) : Prop where
  lt : b < 64
  at' : x.testBit b = true
  below : ∀ c, c < b → x.testBit c = false

theorem Lowest.pos {x b : Nat} (l : Lowest x b) : 0 < x := by
  rcases Nat.eq_zero_or_pos x with h | h
  · have := l.at'; rw [h] at this; simp at this
  · exact h

theorem Lowest.form {x b : Nat} (l : Lowest x b) : ∃ m, x = 2 ^ b + 2 ^ (b + 1) * m := by
  refine ⟨x / 2 ^ (b + 1), ?_⟩
  have h1 : x % 2 ^ (b + 1) = 2 ^ b := by
    apply Nat.eq_of_testBit_eq
    intro i
    rw [Nat.testBit_mod_two_pow, Nat.testBit_two_pow]
    by_cases hi : i < b
    · have h2 : ¬ b = i := by omega
      simp [l.below i hi, h2]
    · by_cases h2 : i = b
      · subst h2; simp [l.at']
      · have h3 : ¬ i < b + 1 := by omega
        have h4 : ¬ b = i := by omega
        simp [h3, h4]
  have := Nat.mod_add_div x (2 ^ (b + 1))
  omega

theorem Lowest.pred {x b : Nat} (l : Lowest x b) (i : Nat) : (x - 1).testBit i = if i < b then true else if i = b then false else x.testBit i := by
  obtain ⟨m, hm⟩ := l.form
  have hp : 0 < 2 ^ b := Nat.pow_pos (by omega)
  have e1 : x - 1 = 2 ^ (b + 1) * m + (2 ^ b - 1) := by omega
  have hlt : 2 ^ b - 1 < 2 ^ (b + 1) := by rw [Nat.pow_succ]; omega
  have hlt2 : 2 ^ b < 2 ^ (b + 1) := by rw [Nat.pow_succ]; omega
  have e2 : x = 2 ^ (b + 1) * m + 2 ^ b := by omega
  rw [e1, Nat.testBit_two_pow_mul_add _ hlt]
  by_cases hi : i < b
  · have : i < b + 1 := by omega
    simp [this, hi]
  · by_cases h2 : i = b
    · subst h2
      simp
    · have h3 : ¬ i < b + 1 := by omega
      rw [if_neg h3, if_neg hi, if_neg h2, e2, Nat.testBit_two_pow_mul_add _ hlt2, if_neg h3]

theorem Lowest.and_neg {x b : Nat} (l : Lowest x b) (hx : x < 2 ^ 64) : x &&& (2 ^ 64 - x) = 2 ^ b := by
  apply Nat.eq_of_testBit_eq
  intro i
  have hp := l.pos
  rw [Nat.testBit_and, show 2 ^ 64 - x = 2 ^ 64 - ((x - 1) + 1) by omega, Nat.testBit_two_pow_sub_succ (by omega), l.pred i, Nat.testBit_two_pow]
  by_cases hi : i < b
  · have h2 : ¬ b = i := by omega
    simp [l.below i hi, h2]
  · by_cases h2 : i = b
    · subst h2
      simp [l.at', l.lt]
    · have h3 : ¬ b = i := by omega
      by_cases h64 : i < 64
      · simp [hi, h2, h3]; exact fun h _ => h
      · simp [h64, h3]

theorem Lowest.and_pred {x b : Nat} (l : Lowest x b) (i : Nat) : (x &&& (x - 1)).testBit i = (x.testBit i && decide (i ≠ b)) := by
  rw [Nat.testBit_and, l.pred i]
  by_cases hi : i < b
  · simp [l.below i hi]
  · by_cases h2 : i = b
    · subst h2; simp
    · simp [hi, h2]

theorem exists_lowest {x : Nat} (hx : x < 2 ^ 64) (h0 : x ≠ 0) : ∃ b, Lowest x b := by
  have hex : ∃ b, x.testBit b = true := by
    exact Nat.exists_testBit_of_ne_zero h0
  have key : ∀ n, (∃ b, b < n ∧ x.testBit b = true) → ∃ b, x.testBit b = true ∧ ∀ c, c < b → x.testBit c = false := by
    intro n
    induction n with
    | zero => rintro ⟨b, hb, _⟩; omega
    | succ n ih =>
      rintro ⟨b, hb, ht⟩
      by_cases he : ∃ c, c < n ∧ x.testBit c = true
      · exact ih he
      · have hbn : b = n := by
          by_cases h : b < n
          · exact absurd ⟨b, h, ht⟩ he
          · omega
        subst hbn
        exact ⟨b, ht, fun c hc => by
          cases hq : x.testBit c with
          | false => rfl
          | true => exact absurd ⟨c, hc, hq⟩ he⟩
  obtain ⟨b0, hb0⟩ := hex
  obtain ⟨b, h1, h2⟩ := key (b0 + 1) ⟨b0, by omega, hb0⟩
  refine ⟨b, ?_, h1, h2⟩
  rcases Nat.lt_or_ge b 64 with h | h
  · exact h
  · have := Nat.testBit_lt_two_pow (Nat.lt_of_lt_of_le hx (Nat.pow_le_pow_right (n := 2) (by omega) h))
    rw [this] at h1; simp at h1

/-- Go's table of the places of bits. -/
def tab : List Nat := [0, 1, 56, 2, 57, 49, 28, 3, 61, 58, 42, 50, 38, 29, 17, 4, 62, 47, 59, 36, 45, 43, 51, 22, 53, 39, 33, 30, 24, 18, 12, 5, 63, 55, 48, 27, 60, 41, 37, 16, 46, 35, 44, 21, 52, 32, 23, 11, 54, 26, 40, 15, 34, 20, 31, 10, 25, 14, 19, 9, 13, 8, 7, 6]
theorem tab_at {b : Nat} (hb : b < 64) : tab[(2 ^ b * 285870213051353865 % 2 ^ 64) / 2 ^ 58]? = some b ∧ (2 ^ b * 285870213051353865 % 2 ^ 64) / 2 ^ 58 < 64 := by
  have h : ((List.range 64).all fun b => decide (tab[(2 ^ b * 285870213051353865 % 2 ^ 64) / 2 ^ 58]? = some b) && decide ((2 ^ b * 285870213051353865 % 2 ^ 64) / 2 ^ 58 < 64)) = true := by decide +kernel
  have := List.all_eq_true.1 h b (List.mem_range.2 hb)
  simpa using this
end Go.IdsN
