/-
  Mail: Room; what a grid that New did not make answers; commands held against each other.
-/
import Derived.Test.YtdjhkdogpbiglaaMailC
namespace Go.Proofs.Ytdjhkdogpbiglaa.MailD
open Go Go.AM

/-- Has a worker room above a lane? -/
def roomB (s : St) (f l : Nat) : Bool := (List.range' 0 (7 - l)).all fun j => decide (s.fu (f * 7 + l + j) ≤ 0)

theorem roomB_true {s : St} {f l : Nat} (h : ∀ j, j < 7 - l → s.fu (f * 7 + l + j) ≤ 0) : roomB s f l = true := by
  unfold roomB
  rw [List.all_eq_true]
  intro j hj
  rw [List.mem_range'_1] at hj
  exact decide_eq_true (h j (by omega))
theorem roomB_false {s : St} {f l j : Nat} (hj : j < 7 - l) (h : 0 < s.fu (f * 7 + l + j)) : roomB s f l = false := by
  cases e : roomB s f l with
  | false => rfl
  | true =>
    unfold roomB at e
    rw [List.all_eq_true] at e
    have := of_decide_eq_true (e j (by rw [List.mem_range'_1]; omega))
    omega

section
variable {h : H} {g B F : Nat} {bs : List Value} {os : List Nat} {s : St}

theorem loop21 (C : CF) (L : Nat) {β : Type} (kr : Value → H → Option β) (kx : H → Option β) (r : GridR h g B F bs os s) {f l c : Nat} (hf : f < s.w) (hl : l ≤ 7) :
    ∀ (d j m : Nat), j + d = 7 - l → d < m → p21arrlrbw C L kr kx m (.int .i64 ((7 - l : Nat) : Int)) (.int .i64 (j : Int)) (.slice (some ⟨F, f * 7 + l, none⟩) (7 - l) c) h =
      (bif (List.range' j d).all fun j => decide (s.fu (f * 7 + l + j) ≤ 0) then kx h else kr (.bool false) h) := by
  intro d
  induction d with
  | zero =>
    intro j m hj hm
    obtain ⟨m, rfl⟩ : ∃ q, m = q + 1 := ⟨m - 1, by omega⟩
    have hd : decide ((j : Int) < ((7 - l : Nat) : Int)) = false := by rw [decide_eq_false_iff_not]; omega
    simp only [p21arrlrbw, p21arrlrbo, bin_lss, hd, bnd_some, condV_bool, cond_false, List.range'_zero, List.all_nil, cond_true]
  | succ d ih =>
    intro j m hj hm
    obtain ⟨m, rfl⟩ : ∃ q, m = q + 1 := ⟨m - 1, by omega⟩
    have hd : decide ((j : Int) < ((7 - l : Nat) : Int)) = true := by rw [decide_eq_true_iff]; omega
    have ix := idxS_eq 1 F (f * 7 + l) (7 - l) c j .i64 (by omega)
    rw [Nat.mul_one] at ix
    obtain ⟨_, ld⟩ := r.full (i := f * 7 + l + j) (by omega)
    have hw : IntKind.i64.wrap ((j : Int) + 1) = ((j + 1 : Nat) : Int) := wrap_succ (by omega)
    simp only [p21arrlrbw, p21arrlrbo, bin_lss, hd, bnd_some, condV_bool, cond_true, ix, ld, bin_gtr, toBK_bool, bin_add, hw, List.range'_succ, List.all_cons]
    by_cases hp : s.fu (f * 7 + l + j) ≤ 0
    · have h1 : decide (0 < s.fu (f * 7 + l + j)) = false := by rw [decide_eq_false_iff_not]; omega
      rw [h1, decide_eq_true hp, Bool.true_and]
      simp only [cond_false]
      exact ih (j + 1) m (by omega) (by omega)
    · have h1 : decide (0 < s.fu (f * 7 + l + j)) = true := by rw [decide_eq_true_iff]; omega
      rw [h1, decide_eq_false hp]
      simp only [cond_true, Bool.false_and, cond_false]

theorem T21 (k : Nat) (r : GridR h g B F bs os s) {f l : Nat} (hf : f < s.w) (hl : l ≤ 7) : callB Try.prog 0 [9] (k + 20) 21 [ptrV g, .int .i64 (f : Int), .int .i64 (l : Int)] h = some (.bool (roomB s f l), h) := by
  rw [F21eq [9] rfl]
  obtain ⟨lw, _, _, lF, _⟩ := r.load
  have hw64 := r.hw
  have h1 : decide ((f : Int) < 0) = false := by rw [decide_eq_false_iff_not]; omega
  have h2 : decide ((s.w : Int) ≤ (f : Int)) = false := by rw [decide_eq_false_iff_not]; omega
  have h3 : decide ((l : Int) < 0) = false := by rw [decide_eq_false_iff_not]; omega
  have h4 : decide ((7 : Int) < (l : Int)) = false := by rw [decide_eq_false_iff_not]; omega
  have w1 : IntKind.i64.wrap ((f : Int) * 7) = ((f * 7 : Nat) : Int) := by rw [show (f : Int) * 7 = ((f * 7 : Nat) : Int) by rw [Int.natCast_mul]; rfl, wrap_nat (by omega)]
  have w2 : IntKind.i64.wrap (((f * 7 : Nat) : Int) + (l : Int)) = ((f * 7 + l : Nat) : Int) := by rw [← Int.natCast_add, wrap_nat (by omega)]
  have w3 : IntKind.i64.wrap ((f : Int) + 1) = ((f + 1 : Nat) : Int) := wrap_succ (by omega)
  have w4 : IntKind.i64.wrap (((f + 1 : Nat) : Int) * 7) = (((f + 1) * 7 : Nat) : Int) := by rw [show ((f + 1 : Nat) : Int) * 7 = (((f + 1) * 7 : Nat) : Int) by rw [Int.natCast_mul (f + 1)]; rfl, wrap_nat (by omega)]
  have sl : A.sliceS 1 (.slice (some ⟨F, 0, none⟩) (s.w * 7) (2 * (s.w * 7) + 1)) (some (.int .i64 ((f * 7 + l : Nat) : Int))) (some (.int .i64 (((f + 1) * 7 : Nat) : Int))) none h = some (.slice (some ⟨F, f * 7 + l, none⟩) (7 - l) (2 * (s.w * 7) + 1 - 2 * (f * 7 + l))) := by
    have e1 : ((f * 7 + l : Nat) : Int) = Int.ofNat (f * 7 + l) := rfl
    have e2 : (((f + 1) * 7 : Nat) : Int) = Int.ofNat ((f + 1) * 7) := rfl
    have c1 : (2 * (s.w * 7) + 1) / 2 = s.w * 7 := by omega
    have c2 : Nat.ble ((f + 1) * 7) (s.w * 7) = true := by rw [ble_dec, decide_eq_true_iff]; omega
    have c3 : Nat.ble (f * 7 + l) ((f + 1) * 7) = true := by rw [ble_dec, decide_eq_true_iff]; omega
    have c4 : Nat.beq ((2 * (s.w * 7) + 1) % 2) 1 = true := by rw [beq_dec', decide_eq_true_iff]; omega
    have c5 : (f + 1) * 7 - (f * 7 + l) = 7 - l := by omega
    rw [e1, e2]
    simp only [A.sliceS, A.bound, Option.isSome_none, Option.isNone_some, Bool.false_and, cond_false, c1, Option.getD_none, c2, cond_true, Option.getD_some, c3, c4, Bool.true_or, Nat.mul_one, Nat.zero_add, c5]
  have ln : A.lenS (.slice (some ⟨F, f * 7 + l, none⟩) (7 - l) (2 * (s.w * 7) + 1 - 2 * (f * 7 + l))) = some (.int .i64 ((7 - l : Nat) : Int)) := rfl
  have lp := loop21 (callB Try.prog 0 [9] (k + 19)) (k + 19) (fun x6 h => some (x6, h)) (fun h => p21arrr (callB Try.prog 0 [9] (k + 19)) (k + 19) h (fun x6 h => some (x6, h))) r (c := 2 * (s.w * 7) + 1 - 2 * (f * 7 + l)) hf hl (7 - l) 0 (k + 19) (by omega) (by omega)
  have lp' : p21arrlrbw (callB Try.prog 0 [9] (k + 19)) (k + 19) (fun x6 h => some (x6, h)) (fun h => p21arrr (callB Try.prog 0 [9] (k + 19)) (k + 19) h (fun x6 h => some (x6, h))) (k + 19) (.int .i64 ((7 - l : Nat) : Int)) (.int .i64 0) (.slice (some ⟨F, f * 7 + l, none⟩) (7 - l) (2 * (s.w * 7) + 1 - 2 * (f * 7 + l))) h = _ := lp
  simp only [F21, p21a, p21al, p21ar, p21arl, p21arll, bin_ptr_nil Try.underlying25, bnd_some, toBK_bool, cond_false, bin_lss, h1, nilCheck_eq, fieldAddr_eq, Nat.zero_add, lw, bin_geq, h2, h3, bin_gtr, h4, p21arlr, condV_bool, p21arr, p21arrl, p21arrll, lF, bin_mul, w1, bin_add, w2, w3, w4, sl, ln, p21arrlr, p21arrlrb]
  rw [lp']
  show (bif roomB s f l then p21arrr (callB Try.prog 0 [9] (k + 19)) (k + 19) h (fun x6 h => some (x6, h)) else some (Value.bool false, h)) = _
  cases roomB s f l <;> rfl

theorem T21n (k : Nat) (r : GridR h g B F bs os s) {f l : Int} (ho : ¬ (0 ≤ f ∧ f < s.w ∧ 0 ≤ l ∧ l ≤ 7)) : callB Try.prog 0 [9] (k + 1) 21 [ptrV g, .int .i64 f, .int .i64 l] h = some (.bool false, h) := by
  rw [F21eq [9] rfl]
  obtain ⟨lw, _⟩ := r.load
  simp only [F21, p21a, p21al, p21ar, p21arl, p21arll, bin_ptr_nil Try.underlying25, bnd_some, toBK_bool, cond_false, bin_lss, nilCheck_eq, fieldAddr_eq, Nat.zero_add, lw, bin_geq, bin_gtr]
  by_cases h1 : f < 0
  · simp [h1, p21arlr]
  by_cases h2 : (s.w : Int) ≤ f
  · simp [h1, h2, p21arlr]
  by_cases h3 : l < 0
  · simp [h1, h2, h3, p21arlr]
  have h4 : 7 < l := by omega
  simp [h1, h2, h3, h4, p21arlr]
end

/-- No grid. -/
def NoG (h : H) (x : Value) : Prop := x = .pointer none ∨ ∃ e m b c o, x = ptrV e ∧ e < h.next ∧ h.get e = some (.cells [.int .i64 0, m, b, c, .int .i64 0] o)

theorem NoG.ext {h h' : H} {x : Value} (n : NoG h x) (y : Ext h h') : NoG h' x := by
  rcases n with rfl | ⟨e, m, b, c, o, rfl, h1, h2⟩
  · exact .inl rfl
  · exact .inr ⟨e, m, b, c, o, rfl, Nat.lt_of_lt_of_le h1 y.next, by rw [y.get e h1]; exact h2⟩

theorem nil25 : A.bin Try.prog .eql 25 (.pointer none) (.pointer none) = some (.bool true) := by kernel_rfl

theorem G34 (k : Nat) {h : H} {x : Value} (n : NoG h x) : callB Try.prog 0 [9] (k + 1) 34 [x, .int .i64 0, .int .i64 0, .int .i64 1] h = some (.int .i64 (-1), h) := by
  rw [F34eq [9] rfl]
  rcases n with rfl | ⟨e, m, b, c, o, rfl, h1, h2⟩
  · simp only [F34, p34a, p34al, p34ar, p34arl, p34arll, nil25, bnd_some, toBK_bool, cond_true, p34arlr, condV_bool]
  · have l0 : A.load false 1 (.pointer (some ⟨e, 0, none⟩)) h = some (.int .i64 0) := by rw [load1_eq, h2]; rfl
    have d1 : decide ((0 : Int) < 0) = false := rfl
    have d2 : decide ((0 : Int) ≤ 0) = true := rfl
    simp only [F34, p34a, p34al, p34ar, p34arl, p34arll, bin_ptr_nil Try.underlying25, bnd_some, toBK_bool, cond_false, bin_lss, d1, nilCheck_eq, fieldAddr_eq, Nat.zero_add, l0, bin_geq, d2, cond_true, p34arlr, condV_bool]

theorem neg1 : decide ((-1 : Int) < 0) = true := rfl
theorem G14 (k : Nat) {h : H} {x : Value} (n : NoG h x) : callB Try.prog 0 [9] (k + 2) 14 [x, .int .i64 0, .int .i64 0, .int .i64 1] h = some (.tuple ⟨[.slice none 0 0, .bool false]⟩, h) := by
  rw [F14eq [9] rfl]
  simp only [F14, p14a, G34 k n, bnd2_some, bin_lss, neg1, bnd_some, toBK_bool, cond_true]
theorem G12 (k : Nat) {h : H} {x : Value} (n : NoG h x) : callB Try.prog 0 [9] (k + 2) 12 [x, .int .i64 0, .int .i64 0, .int .i64 1] h = some (.tuple ⟨[.slice none 0 0, .bool false]⟩, h) := by
  rw [F12eq [9] rfl]
  simp only [F12, p12a, p12al, p12ar, p12arl, G34 k n, bnd2_some, p12arr, p12arrl, bin_lss, neg1, bnd_some, toBK_bool, cond_true]
theorem G17 (k : Nat) {h : H} {x : Value} (n : NoG h x) (c : Value) : callB Try.prog 0 [9] (k + 2) 17 [x, .int .i64 0, .int .i64 0, .int .i64 1, c] h = some (.bool false, h) := by
  rw [F17eq [9] rfl]
  simp only [F17, p17a, p17al, p17ar, p17arl, G34 k n, bnd2_some, p17arr, p17arrl, p17arrll, bin_lss, neg1, bnd_some, toBK_bool, cond_true, p17arrlr, condV_bool]
theorem G23 (k : Nat) {h : H} {x : Value} (n : NoG h x) : callB Try.prog 0 [9] (k + 2) 23 [x, .int .i64 0, .int .i64 0, .int .i64 1] h = some (.int .i64 0, h) := by
  rw [F23eq [9] rfl]
  simp only [F23, p23a, G34 k n, bnd2_some, bin_lss, neg1, bnd_some, toBK_bool, cond_true]
theorem G25 (k : Nat) {h : H} {x : Value} (n : NoG h x) : callB Try.prog 0 [9] (k + 1) 25 [x] h = some (.int .i64 0, h) := by
  rw [F25eq [9] rfl]
  rcases n with rfl | ⟨e, m, b, c, o, rfl, h1, h2⟩
  · simp only [F25, p25a, nil25, bnd_some, toBK_bool, cond_true]
  · have l4 : A.load false 1 (.pointer (some ⟨e, 4, none⟩)) h = some (.int .i64 0) := by rw [load1_eq, h2]; rfl
    simp only [F25, p25a, bin_ptr_nil Try.underlying25, bnd_some, toBK_bool, cond_false, nilCheck_eq, fieldAddr_eq, Nat.zero_add, l4]
theorem G27 (k : Nat) {h : H} {x : Value} (n : NoG h x) : callB Try.prog 0 [9] (k + 2) 27 [x] h = some (.bool true, h) := by
  rw [F27eq [9] rfl]
  simp only [F27, p27a, G25 k n, bnd2_some, bin_eql, decide_true, bnd_some, toBK_bool]
theorem G21 (k : Nat) {h : H} {x : Value} (n : NoG h x) : callB Try.prog 0 [9] (k + 1) 21 [x, .int .i64 0, .int .i64 7] h = some (.bool false, h) := by
  rw [F21eq [9] rfl]
  rcases n with rfl | ⟨e, m, b, c, o, rfl, h1, h2⟩
  · simp only [F21, p21a, p21al, p21ar, p21arl, p21arll, nil25, bnd_some, toBK_bool, cond_true, p21arlr, condV_bool]
  · have l0 : A.load false 1 (.pointer (some ⟨e, 0, none⟩)) h = some (.int .i64 0) := by rw [load1_eq, h2]; rfl
    have d1 : decide ((0 : Int) < 0) = false := rfl
    have d2 : decide ((0 : Int) ≤ 0) = true := rfl
    simp only [F21, p21a, p21al, p21ar, p21arl, p21arll, bin_ptr_nil Try.underlying25, bnd_some, toBK_bool, cond_false, bin_lss, d1, nilCheck_eq, fieldAddr_eq, Nat.zero_add, l0, bin_geq, d2, cond_true, p21arlr, condV_bool]

/-- No command is copied. -/
theorem T32nil (k : Nat) (h : H) : callB Try.prog 0 [9] (k + 3) 32 [.slice none 0 0] h = some (.slice none 0 0, h) := by
  rw [F32eq [9] rfl]
  have e41 : callB Try.prog 0 [9] (k + 2) 41 [.slice none 0 0] h = some (.slice none 0 0, h) := by
    rw [F41eq [9] rfl]
    have e : A.bin Try.prog .eql 29 (.slice none 0 0) (.slice none 0 0) = some (.bool true) := by kernel_rfl
    simp only [F41, p41a, e, bnd_some, toBK_bool, cond_true]
  have hl : A.lenS (.slice none 0 0) = some (.int .i64 0) := rfl
  have hd : decide ((0 : Int) < 0) = false := rfl
  simp only [F32, p32a, p32al, p32ar, p32arl, e41, bnd2_some, p32arr, p32arrl, p32arrll, hl, bnd_some, p32arrlr, p32arrlrb, p32arrlrbw, p32arrlrbo, p32arrlrbol, bin_lss, hd, p32arrlrbor, p32arrlrborl, condV_bool, cond_false, p32arrr]
end Go.Proofs.Ytdjhkdogpbiglaa.MailD
