/-
  Taking the least free id of a pool, over the abstract machine.
-/
import Derived.Test.YtlhppeikbgolbaaDoorIdsS2
namespace Go.Proofs.YtlhppeikbgolbaaDoor.IdsD
open Go Go.AM Go.IdsN

/-- The search for a word that has a free id. -/
theorem loop10 (C : CF) (L : Nat) {β : Type} (kx : Value → H → Option β) {p b n : Nat} {tk : Nat → Bool} {W : List Nat} {j0 : Nat} (hj : j0 < 1024)
    (hne : ∀ w, W[j0]? = some w → w ≠ 2 ^ 64 - 1) (hfull : ∀ j, j < j0 → ∀ w, W[j]? = some w → w = 2 ^ 64 - 1) :
    ∀ (d m : Nat) (h : H) (low : Nat), PoolR h p b tk n low W → low + d = j0 → d < m →
      ∃ h', p10arrlbw C L kx m (ptrV p) h = kx (ptrV p) h' ∧ PoolR h' p b tk n j0 W ∧ ExtBut (Two p b) h h' ∧ h'.next = h.next := by
  intro d
  induction d with
  | zero =>
    intro m h low r hl hm
    obtain ⟨m, rfl⟩ : ∃ q, m = q + 1 := ⟨m - 1, by omega⟩
    obtain rfl : low = j0 := by omega
    obtain ⟨w, hw, hlt, hmm⟩ := r.word hj
    have hnw := hne w hw
    have l3 := load3 r.hp
    have e5 := idxS_eq 1 b 0 1024 2049 low .i64 hj
    rw [Nat.zero_add, Nat.mul_one] at e5
    have lw := load_word r.hb hw
    have hd : decide ((w : Int) = 18446744073709551615) = false := by rw [decide_eq_false_iff_not]; omega
    refine ⟨h, ?_, r, ⟨Nat.le_refl _, fun _ _ _ => rfl⟩, rfl⟩
    simp only [p10arrlbw, p10arrlbo, nilCheck_eq, bnd_some, fieldAddr_eq, Nat.zero_add, l3.1, l3.2.2, e5, lw, bin_eql, hd, toBK_bool, cond_false]
  | succ d ih =>
    intro m h low r hl hm
    obtain ⟨m, rfl⟩ : ∃ q, m = q + 1 := ⟨m - 1, by omega⟩
    obtain ⟨w, hw, hlt, hmm⟩ := r.word (j := low) (by omega)
    have hwm := hfull low (by omega) w hw
    have l3 := load3 r.hp
    have e5 := idxS_eq 1 b 0 1024 2049 low .i64 (by omega)
    rw [Nat.zero_add, Nat.mul_one] at e5
    have lw := load_word r.hb hw
    have hd : decide ((w : Int) = 18446744073709551615) = true := by rw [decide_eq_true_iff]; omega
    have es := store_low r.hp .i64 ((low + 1 : Nat) : Int)
    obtain ⟨h1, hh1⟩ : ∃ h1, h1 = h.put p (.cells [.slice (some ⟨b, 0, none⟩) 1024 2049, .int .i64 (n : Int), .int .i64 ((low + 1 : Nat) : Int)] (some 0)) := ⟨_, rfl⟩
    rw [← hh1] at es
    have r1 : PoolR h1 p b tk n (low + 1) W :=
      ⟨by rw [hh1, H.get_put, if_pos rfl], by rw [hh1, H.get_put, if_neg (Ne.symm r.ne)]; exact r.hb, r.ne, r.pp, r.pb, by rw [hh1]; exact r.lp, by rw [hh1]; exact r.lb, r.len, r.lt, r.bits,
        fun j hj' u hu => hfull j (by omega) u hu, r.t0, r.hn, by unfold TabAt; rw [hh1, H.get_put, if_neg (by have := r.pp; omega)]; exact r.tb⟩
    obtain ⟨h', e, r', x, nx⟩ := ih m h1 (low + 1) r1 (by omega) (by omega)
    refine ⟨h', ?_, r', ?_, ?_⟩
    · simp only [p10arrlbw, p10arrlbo, nilCheck_eq, bnd_some, fieldAddr_eq, Nat.zero_add, l3.1, l3.2.2, e5, lw, bin_eql, hd, toBK_bool, cond_true, bin_add, wrap_succ (show low + 1 < 2 ^ 63 by omega), es]
      exact e
    · refine ExtBut.trans (b := h1) ?_ x
      rw [hh1]
      exact ExtBut.put ⟨Nat.le_refl _, fun _ _ _ => rfl⟩ p _ (.inl rfl)
    · rw [nx, hh1]; rfl

theorem full_word {w : Nat} (hw : w < 2 ^ 64) (h : ∀ c, c < 64 → w.testBit c = true) : w = 2 ^ 64 - 1 := by
  apply Nat.eq_of_testBit_eq
  intro i
  rw [Nat.testBit_two_pow_sub_one]
  by_cases hi : i < 64
  · rw [h i hi]; simp [hi]
  · rw [Nat.testBit_lt_two_pow (Nat.lt_of_lt_of_le hw (Nat.pow_le_pow_right (by omega) (by omega)))]; simp [hi]

theorem S10 (k : Nat) {h : H} {p b n : Nat} {tk : Nat → Bool} (r : Pool h p b tk n) {i0 : Nat} (h0 : i0 < 65536) (hf : tk i0 = false) (hb : ∀ i, i < i0 → tk i = true) (hn : n < 65535) :
    ∃ h', callB Tryd.prog 1 [] (k + 1026) 10 [ptrV p] h = some (.tuple ⟨[.int .u16 (i0 : Int), .int .i64 0]⟩, h') ∧ Pool h' p b (fun i => if i = i0 then true else tk i) (n + 1) ∧ ExtBut (Two p b) h h' ∧ h'.next = h.next := by
  obtain ⟨low, W, r⟩ := r
  rw [F10eq [] rfl]
  have hj : i0 / 64 < 1024 := by omega
  obtain ⟨w, hw, hlt, hmm⟩ := r.word hj
  have hbit : ∀ c, c < 64 → w.testBit c = tk (64 * (i0 / 64) + c) := r.bits _ _ hw
  have hat : w.testBit (i0 % 64) = false := by rw [hbit _ (by omega), show 64 * (i0 / 64) + i0 % 64 = i0 by omega, hf]
  have hne : ∀ u, W[i0 / 64]? = some u → u ≠ 2 ^ 64 - 1 := by
    intro u hu e
    rw [hw] at hu
    obtain rfl := Option.some.inj hu
    rw [e, Nat.testBit_two_pow_sub_one] at hat
    simp at hat
    omega
  have hfull : ∀ j, j < i0 / 64 → ∀ u, W[j]? = some u → u = 2 ^ 64 - 1 := by
    intro j hj' u hu
    refine full_word (r.lt u (List.mem_of_getElem? hu)) fun c hc => ?_
    rw [r.bits j u hu c hc]
    exact hb _ (by omega)
  have hlow : low ≤ i0 / 64 := by
    rcases Nat.lt_or_ge (i0 / 64) low with hl | hl
    · exact absurd (r.full _ hl w hw) (hne w hw)
    · exact hl
  have l0 := load3 r.hp
  have s23 := S23 (k + 1024) r
  have hnb : decide ((n : Int) = 65535) = false := by rw [decide_eq_false_iff_not]; omega
  obtain ⟨h1, e1, r1, x1, n1⟩ := loop10 (callB Tryd.prog 1 [] (k + 1025)) (k + 1025) (fun x0 h => p10arrr (callB Tryd.prog 1 [] (k + 1025)) (k + 1025) x0 h (fun x2 x3 h => some (Value.tuple ⟨[x2, x3]⟩, h))) hj hne hfull
    (i0 / 64 - low) (k + 1025) h low r (by omega) (by omega)
  have l1 := load3 r1.hp
  have e5 := idxS_eq 1 b 0 1024 2049 (i0 / 64) .i64 hj
  rw [Nat.zero_add, Nat.mul_one] at e5
  have lw := load_word r1.hb hw
  have ex := xorU Tryd.prog hlt
  have hx : 2 ^ 64 - 1 - w < 2 ^ 64 := by omega
  have hxb : ∀ c, c < 64 → (2 ^ 64 - 1 - w).testBit c = !w.testBit c := by
    intro c hc
    rw [show 2 ^ 64 - 1 - w = 2 ^ 64 - (w + 1) by omega, Nat.testBit_two_pow_sub_succ hlt]
    simp [hc]
  have lo : Lowest (2 ^ 64 - 1 - w) (i0 % 64) := ⟨by omega, by rw [hxb _ (by omega), hat]; rfl, fun c hc => by
    rw [hxb c (by omega), hbit c (by omega), hb _ (by omega)]; rfl⟩
  have s24 := S24 (k + 1024) r1.tb hx lo
  have es := shl1 Tryd.prog 52 (y := i0 % 64) .i64 (by omega)
  have hp64 : 2 ^ (i0 % 64) < 2 ^ 64 := Nat.pow_lt_pow_right (by omega) (by omega)
  have eo := orU Tryd.prog 52 hlt hp64
  have hjl : i0 / 64 < W.length := by rw [r.len]; omega
  have ew := store_word r1.hb hjl (w ||| 2 ^ (i0 % 64))
  obtain ⟨h2, hh2⟩ : ∃ h2, h2 = h1.put b (.cells ((W.set (i0 / 64) (w ||| 2 ^ (i0 % 64))).map fun (w : Nat) => Value.int .u64 (w : Int)) (some 1)) := ⟨_, rfl⟩
  rw [← hh2] at ew
  have g2 : h2.get p = some (.cells [.slice (some ⟨b, 0, none⟩) 1024 2049, .int .i64 (n : Int), .int .i64 ((i0 / 64 : Nat) : Int)] (some 0)) := by rw [hh2, H.get_put, if_neg r.ne]; exact r1.hp
  have l2 := load3 g2
  have ea := store_cnt g2 .i64 ((n + 1 : Nat) : Int)
  obtain ⟨h3, hh3⟩ : ∃ h3, h3 = h2.put p (.cells [.slice (some ⟨b, 0, none⟩) 1024 2049, .int .i64 ((n + 1 : Nat) : Int), .int .i64 ((i0 / 64 : Nat) : Int)] (some 0)) := ⟨_, rfl⟩
  rw [← hh3] at ea
  have g3 : h3.get p = some (.cells [.slice (some ⟨b, 0, none⟩) 1024 2049, .int .i64 ((n + 1 : Nat) : Int), .int .i64 ((i0 / 64 : Nat) : Int)] (some 0)) := by rw [hh3, H.get_put, if_pos rfl]
  have l3 := load3 g3
  have em : IntKind.i64.wrap (((i0 / 64 : Nat) : Int) * 64) = ((i0 / 64 * 64 : Nat) : Int) := by rw [wrap64 (by omega) (by omega)]; omega
  have eadd : IntKind.i64.wrap (((i0 / 64 * 64 : Nat) : Int) + ((i0 % 64 : Nat) : Int)) = (i0 : Int) := by rw [wrap64 (by omega) (by omega)]; omega
  have ec : A.conv Tryd.prog 3 25 (.int .i64 (i0 : Int)) = some (.int .u16 (i0 : Int)) := by
    have : A.conv Tryd.prog 3 25 (.int .i64 (i0 : Int)) = some (.int .u16 (IntKind.u16.wrap (i0 : Int))) := rfl
    rw [this, IntWalk.u16_in _ ⟨by omega, by omega⟩]
  refine ⟨h3, ?_, ?_, ?_, ?_⟩
  · simp only [F10, p10a, p10al, p10ar, p10arl, p10arlb, s23, bnd2_some, bnd_some, toBK_bool, cond_false, nilCheck_eq, fieldAddr_eq, Nat.zero_add, l0.2.1, bin_eql, hnb, p10arr, p10arrl, p10arrlb]
    rw [e1]
    simp only [p10arrr, p10arrrl, p10arrrr, p10arrrrl, p10arrrrr, nilCheck_eq, bnd_some, bnd2_some, fieldAddr_eq, Nat.zero_add, l1.1, l1.2.2, e5, lw, ex, s24, es, eo, ew, l2.2.1, bin_add, wrap_succ (show n + 1 < 2 ^ 63 by omega), ea, l3.2.2, bin_mul, em, eadd, ec]
  · have hw2 := set_word (tk' := fun i => if i = i0 then true else tk i) r1.lt r1.bits (j := i0 / 64) (x := w ||| 2 ^ (i0 % 64)) (Nat.or_lt_two_pow hlt hp64) (fun c hc => by
      rw [Nat.testBit_or, hbit c hc, Nat.testBit_two_pow]
      by_cases e : c = i0 % 64
      · have h1 : 64 * (i0 / 64) + c = i0 := by omega
        have h2 : decide (i0 % 64 = c) = true := decide_eq_true e.symm
        rw [h2, Bool.or_true]
        simp only [h1, if_true]
      · have h1 : ¬ i0 % 64 = c := fun h => e h.symm
        have h2 : ¬ (64 * (i0 / 64) + c = i0) := by omega
        simp [h1, h2]) (fun i hi => by
      have : i ≠ i0 := fun e => hi (by rw [e])
      simp [this])
    refine ⟨i0 / 64, W.set (i0 / 64) (w ||| 2 ^ (i0 % 64)), g3, ?_, r.ne, r.pp, r.pb, ?_, ?_, by rw [List.length_set]; exact r.len, hw2.1, hw2.2, fun j hj' u hu => ?_, ?_, by omega, ?_⟩
    · rw [hh3, H.get_put, if_neg (Ne.symm r.ne), hh2, H.get_put, if_pos rfl]
    · rw [hh3, hh2]; exact r1.lp
    · rw [hh3, hh2]; exact r1.lb
    · rw [List.getElem?_set_ne (by omega)] at hu
      exact hfull j hj' u hu
    · show (if 0 = i0 then true else tk 0) = true
      rw [r.t0]; simp
    · have h0p : ¬ 0 = p := by have := r.pp; omega
      have h0b : ¬ 0 = b := by have := r.pb; omega
      unfold TabAt
      rw [hh3, H.get_put, if_neg h0p, hh2, H.get_put, if_neg h0b]
      exact r1.tb
  · refine x1.trans ?_
    rw [hh3, hh2]
    exact (ExtBut.put ⟨Nat.le_refl _, fun _ _ _ => rfl⟩ b _ (.inr rfl)).put p _ (.inl rfl)
  · rw [hh3, hh2]; exact n1

/-- A full pool has no id. -/
theorem S10f (k : Nat) {h : H} {p b : Nat} {tk : Nat → Bool} (r : Pool h p b tk 65535) : callB Tryd.prog 1 [] (k + 2) 10 [ptrV p] h = some (.tuple ⟨[.int .u16 0, .int .i64 7]⟩, h) := by
  obtain ⟨low, W, r⟩ := r
  rw [F10eq [] rfl]
  have l0 := load3 r.hp
  have hnb : decide (((65535 : Nat) : Int) = 65535) = true := rfl
  simp only [F10, p10a, p10al, p10ar, p10arl, p10arlb, S23 k r, bnd2_some, bnd_some, toBK_bool, cond_false, nilCheck_eq, fieldAddr_eq, Nat.zero_add, l0.2.1, bin_eql, hnb, cond_true]
end Go.Proofs.YtlhppeikbgolbaaDoor.IdsD
