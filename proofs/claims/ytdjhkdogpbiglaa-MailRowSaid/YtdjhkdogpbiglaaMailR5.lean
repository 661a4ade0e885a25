/-
  MailRow: either half of a round.
-/
import Derived.Test.YtdjhkdogpbiglaaMailR4
namespace Go.Proofs.Ytdjhkdogpbiglaa.MailD
open Go Go.AM Go.Proofs.Ytdjhkdogpbiglaa.MailF4

theorem neqb (a b : Bool) : A.bin Try.prog .neq 4 (.bool a) (.bool b) = some (.bool (!decide (a = b))) := bin_bool_neq Try.underlying4 a b

section
variable {h0 h : H} {g B F : Nat} {bs : List Value} {os : List Nat} {s : St} {w m : Nat} {put : List PA} {x8 : Value} {n : Nat}

/-- A command is put, or not. -/
theorem brT (k L : Nat) {β : Type} (kn : Value → Value → Value → Value → Value → Value → Value → Value → H → Option β) (kr : Value → H → Option β) (v : Iv h0 h g B F bs os s w m put x8 n) {na kd : Nat} {Fr To Lx : Int} {cv : Value} (a : At h na kd Fr To Lx cv) (hn : n ≤ 300) (na0 : na ∉ os) (na8 : sid x8 ≠ some na) (x135 x12 x9 x2 : Value) :
    ∃ h' put' x8' bs' os' s', Iv h0 h' g B F bs' os' s' w m put' x8' (n + 1) ∧ At h' na kd Fr To Lx cv ∧
      p4arrrrrlrborlbrrrrlrt (callB Try.prog 0 [9] (k + 20)) L x135 (.bool (decide (Ok w Fr To Lx))) x12 (ptrV na) (.int .i64 ((nums (fun a => mtch a Fr To Lx) put put.length).length : Int)) x9 (.int .i64 (m : Int)) (.int .i64 (w : Int)) x2 x8 (ptrV g) h kn kr =
        kn (ptrV na) (.int .i64 ((nums (fun a => mtch a Fr To Lx) put' put'.length).length : Int)) x9 (.int .i64 (m : Int)) (.int .i64 (w : Int)) x2 x8' (ptrV g) h' := by
  have hln := nums_len (fun a => mtch a Fr To Lx) put put.length
  have hnp := v.np
  rcases put4a k L (fun x11 x15 x10 x13 x9 x1 x0 x2 x8 x7 h => p4arrrrrlrborlbrrrrlrtr (callB Try.prog 0 [9] (k + 20)) L x11 x15 x10 x13 x9 x1 x0 x2 x8 x7 h kn kr) v a hn na0 x135 (.bool (decide (Ok w Fr To Lx))) x12 (.int .i64 ((nums (fun a => mtch a Fr To Lx) put put.length).length : Int)) x9 (.int .i64 (m : Int)) (.int .i64 (w : Int)) x2 na8 with
    ⟨h', hno, e, x⟩ | ⟨h1, h', bs', os', c, f, t, l, rfl, rfl, rfl, hf, ht, hl, hl', hlt, x1, r', y, ho', cm, sc, e⟩
  · refine ⟨h', put, x8, bs, os, s, (v.ext x).weak, a.ext x, ?_⟩
    simp only [p4arrrrrlrborlbrrrrlrt]
    rw [e]
    by_cases ho : Ok w Fr To Lx
    · have hfull : (nums (fun a => mtch a Fr To Lx) put put.length).length = m := by
        rcases hno with h | h
        · exact absurd ho h
        · exact h
      have hd : decide (((nums (fun a => mtch a Fr To Lx) put put.length).length : Int) < (m : Int)) = false := by rw [decide_eq_false_iff_not]; omega
      have ht : decide (Ok w Fr To Lx) = true := decide_eq_true ho
      simp only [p4arrrrrlrborlbrrrrlrtr, p4arrrrrlrborlbrrrrlrtrl, toBK_bool, ht, cond_true, bin_lss, hd, bnd_some, neqb, decide_true, Bool.not_true, cond_false, p4arrrrrlrborlbrrrrlrtrr]
    · have ht : decide (Ok w Fr To Lx) = false := decide_eq_false ho
      simp only [p4arrrrrlrborlbrrrrlrtr, p4arrrrrlrborlbrrrrlrtrl, toBK_bool, ht, cond_false, bnd_some, neqb, decide_true, Bool.not_true, p4arrrrrlrborlbrrrrlrtrr]
  · obtain ⟨t5, h3, v', h4, hb, ea, v4, a4, na4, na84⟩ := v.putA hn hf ht hl hl' x1 r' y ho' cm sc a na0 na8
    have hok : Ok w (f : Int) (t : Int) (l : Int) := by unfold Ok; omega
    have htt : decide (Ok w (f : Int) (t : Int) (l : Int)) = true := decide_eq_true hok
    have hd : decide (((nums (fun a => mtch a (f : Int) (t : Int) (l : Int)) put put.length).length : Int) < (m : Int)) = true := by rw [decide_eq_true_iff]; omega
    have a' : At h' na kd (f : Int) (t : Int) (l : Int) cv := (a.ext x1).extBut y na0
    obtain ⟨_, l1, l2, l3⟩ := a'.load
    have hbuild : A.build MailF4.Z31L [(1, 1, .int .i64 (f : Int)), (2, 1, .int .i64 (t : Int)), (3, 1, .int .i64 (l : Int))] = some (.agg ⟨[.int .u8 0, .int .i64 (f : Int), .int .i64 (t : Int), .int .i64 (l : Int), .slice none 0 0]⟩) := rfl
    have hw : IntKind.i64.wrap (((nums (fun a => mtch a (f : Int) (t : Int) (l : Int)) put put.length).length : Int) + 1) = (((nums (fun a => mtch a (f : Int) (t : Int) (l : Int)) put put.length).length + 1 : Nat) : Int) := wrap_succ (by omega)
    have hnew : (nums (fun a => mtch a (f : Int) (t : Int) (l : Int)) (put ++ [PA.mk false f t l]) (put ++ [PA.mk false f t l]).length).length = (nums (fun a => mtch a (f : Int) (t : Int) (l : Int)) put put.length).length + 1 := by
      rw [List.length_append, List.length_singleton, nums_append, mtch_self, if_pos rfl, List.length_append, List.length_singleton]
    refine ⟨h4, _, v', bs', os', _, v4, a4, ?_⟩
    simp only [p4arrrrrlrborlbrrrrlrt]
    rw [e, hnew]
    simp only [p4arrrrrlrborlbrrrrlrtr, p4arrrrrlrborlbrrrrlrtrl, toBK_bool, htt, cond_true, bin_lss, hd, bnd_some, neqb, decide_true, Bool.not_true, cond_false, p4arrrrrlrborlbrrrrlrtrr, fieldAddr_eq, Nat.zero_add, l1, l2, l3, hbuild, hb, bnd2_some, ea, bin_add, hw]

/-- A command is looked at, and taken, or not. -/
theorem brF (k L : Nat) {β : Type} (kn : Value → Value → Value → Value → Value → Value → Value → Value → H → Option β) (kr : Value → H → Option β) (v : Iv h0 h g B F bs os s w m put x8 n) {na kd : Nat} {Fr To Lx : Int} {cv : Value} (a : At h na kd Fr To Lx cv) (hn : n ≤ 300) (na0 : na ∉ os) (na8 : sid x8 ≠ some na) (x135 x11 x9 x2 : Value) :
    ∃ h' put' x8' bs' os' s', Iv h0 h' g B F bs' os' s' w m put' x8' (n + 1) ∧ At h' na kd Fr To Lx cv ∧
      p4arrrrrlrborlbrrrrlrf (callB Try.prog 0 [9] (k + 20)) L x135 x11 (.int .i64 (fst (nums (fun a => mtch a Fr To Lx) put put.length))) (ptrV na) (.int .i64 ((nums (fun a => mtch a Fr To Lx) put put.length).length : Int)) x9 (.int .i64 (m : Int)) (.int .i64 (w : Int)) x2 x8 (ptrV g) h kn kr =
        kn (ptrV na) (.int .i64 ((nums (fun a => mtch a Fr To Lx) put' put'.length).length : Int)) x9 (.int .i64 (m : Int)) (.int .i64 (w : Int)) x2 x8' (ptrV g) h' := by
  obtain ⟨l0, l1, l2, l3⟩ := a.load
  have ex0 : ∀ x y : Value, A.extract 0 (.tuple ⟨[x, y]⟩) = some x := fun _ _ => rfl
  have ex1 : ∀ x y : Value, A.extract 1 (.tuple ⟨[x, y]⟩) = some y := fun _ _ => rfl
  have hrem : A.bin Try.prog .rem 5 (.int .u8 (kd : Int)) (.int .u8 8) = some (.int .u8 ((kd : Int).tmod 8)) := bin_rem Try.prog 5 .u8 _ _ (by omega)
  obtain ⟨b, hb7⟩ : ∃ b, b = decide ((kd : Int).tmod 8 < 7) := ⟨_, rfl⟩
  have hln := nums_len (fun a => mtch a Fr To Lx) put put.length
  have hnp := v.np
  have key : (nums (fun a => mtch a Fr To Lx) put put.length = [] ∧ callB Try.prog 0 [9] (k + 20) 14 [ptrV g, .int .i64 Fr, .int .i64 To, .int .i64 Lx] h = some (.tuple ⟨[.slice none 0 0, .bool false]⟩, h) ∧
        callB Try.prog 0 [9] (k + 20) 12 [ptrV g, .int .i64 Fr, .int .i64 To, .int .i64 Lx] h = some (.tuple ⟨[.slice none 0 0, .bool false]⟩, h)) ∨
      (∃ k0 ks c cs, ∃ f t l : Nat, Fr = f ∧ To = t ∧ Lx = l ∧ f < w ∧ t < w ∧ 1 ≤ l ∧ l ≤ 7 ∧ nums (fun a => mtch a Fr To Lx) put put.length = k0 :: ks ∧ s.bx (pl w f t l) = c :: cs ∧ Cmd1 h c ((k0 : Nat) : Int)) := by
    by_cases ho : Ok w Fr To Lx
    · obtain ⟨o1, o2, o3, o4, o5, o6⟩ := ho
      obtain ⟨f, rfl⟩ : ∃ f : Nat, Fr = f := ⟨Fr.toNat, by omega⟩
      obtain ⟨t, rfl⟩ : ∃ t : Nat, To = t := ⟨To.toNat, by omega⟩
      obtain ⟨l, rfl⟩ : ∃ l : Nat, Lx = l := ⟨Lx.toNat, by omega⟩
      have hf : f < w := by omega
      have ht : t < w := by omega
      have hl : 1 ≤ l := by omega
      have hl' : l ≤ 7 := by omega
      have hf' : f < s.w := by rw [v.sw]; exact hf
      have ht' : t < s.w := by rw [v.sw]; exact ht
      have hrel := v.bc f t l hf ht hl hl'
      cases hbx : s.bx (pl w f t l) with
      | nil =>
        rw [hbx] at hrel
        have hbx' : s.bx (pl s.w f t l) = [] := by rw [v.sw]; exact hbx
        exact .inl ⟨hrel.nil_left, T14e (k + 18) v.gr hf' ht' hl hl' hbx', T12e (k + 18) v.gr hf' ht' hl hl' hbx'⟩
      | cons c cs =>
        rw [hbx] at hrel
        cases hks : nums (fun a => mtch a (f : Int) (t : Int) (l : Int)) put put.length with
        | nil => rw [hks] at hrel; exact hrel.elim
        | cons k0 ks =>
          rw [hks] at hrel
          exact .inr ⟨k0, ks, c, cs, f, t, l, rfl, rfl, rfl, hf, ht, hl, hl', rfl, hbx, hrel.1⟩
    · have ho' : ¬ Ok s.w Fr To Lx := by rw [v.sw]; exact ho
      exact .inl ⟨v.nobox ho, T14n (k + 18) v.gr ho', T12n (k + 18) v.gr ho'⟩
  rcases key with ⟨hks, e14, e12⟩ | ⟨k0, ks, c, cs, f, t, l, rfl, rfl, rfl, hf, ht, hl, hl', hks, hbx, hc⟩
  · refine ⟨h, put, x8, bs, os, s, v.weak, a, ?_⟩
    rw [hks]
    have hz : decide ((0 : Int) < (([] : List Nat).length : Int)) = false := rfl
    simp only [p4arrrrrlrborlbrrrrlrf, p4arrrrrlrborlbrrrrlrfl, fieldAddr_eq, Nat.zero_add, bnd_some, l1, l2, l3, e14, bnd2_some, ex0, ex1, toBK_bool, p4arrrrrlrborlbrrrrlrfr, p4arrrrrlrborlbrrrrlrfrl, p4arrrrrlrborlbrrrrlrfrll, bin_gtr, hz, neqb, decide_true, Bool.not_true, cond_false,
      p4arrrrrlrborlbrrrrlrfrlr, condV_bool, p4arrrrrlrborlbrrrrlrfrr, p4arrrrrlrborlbrrrrlrfrrl, l0, hrem, bin_lss, ← hb7, p4arrrrrlrborlbrrrrlrfrrr]
    cases b with
    | false => simp only [cond_false, p4arrrrrlrborlbrrrrlrfrrrf]
    | true =>
      simp only [cond_true, p4arrrrrlrborlbrrrrlrfrrrt, p4arrrrrlrborlbrrrrlrfrrrtl, fieldAddr_eq, Nat.zero_add, bnd_some, l1, l2, l3, e12, bnd2_some, ex0, ex1, toBK_bool, p4arrrrrlrborlbrrrrlrfrrrtr, p4arrrrrlrborlbrrrrlrfrrrtrl, p4arrrrrlrborlbrrrrlrfrrrtrll, bin_gtr, hz, neqb, decide_true, Bool.not_true, cond_false,
        p4arrrrrlrborlbrrrrlrfrrrtrlr, condV_bool, p4arrrrrlrborlbrrrrlrfrrrtrr]
  · have hf' : f < s.w := by rw [v.sw]; exact hf
    have ht' : t < s.w := by rw [v.sw]; exact ht
    have hbx' : s.bx (pl s.w f t l) = c :: cs := by rw [v.sw]; exact hbx
    obtain ⟨c1, h1, e32, cm1, x1, _⟩ := T32one (k + 16) hc
    have e14 := T14 (k + 18) v.gr hf' ht' hl hl' hbx' e32
    have e30 := T30 (k + 19) cm1 (k0 : Int)
    rw [decide_eq_true rfl] at e30
    have v1 := v.ext x1
    have a1 := a.ext x1
    obtain ⟨m0, m1, m2, m3⟩ := a1.load
    have hz : decide ((0 : Int) < ((k0 :: ks).length : Int)) = true := by rw [decide_eq_true_iff]; simp only [List.length_cons]; omega
    have hfst : fst (k0 :: ks) = (k0 : Int) := rfl
    have pre : p4arrrrrlrborlbrrrrlrf (callB Try.prog 0 [9] (k + 20)) L x135 x11 (.int .i64 (fst (k0 :: ks))) (ptrV na) (.int .i64 ((k0 :: ks).length : Int)) x9 (.int .i64 (m : Int)) (.int .i64 (w : Int)) x2 x8 (ptrV g) h kn kr =
        p4arrrrrlrborlbrrrrlrfrrr (callB Try.prog 0 [9] (k + 20)) L (.bool b) (.int .i64 (k0 : Int)) (ptrV na) (.int .i64 ((k0 :: ks).length : Int)) x9 (.int .i64 (m : Int)) (.int .i64 (w : Int)) x2 x8 (ptrV g) h1 kn kr := by
      simp only [p4arrrrrlrborlbrrrrlrf, p4arrrrrlrborlbrrrrlrfl, fieldAddr_eq, Nat.zero_add, bnd_some, l1, l2, l3, e14, bnd2_some, ex0, ex1, toBK_bool, p4arrrrrlrborlbrrrrlrfr, p4arrrrrlrborlbrrrrlrfrl, p4arrrrrlrborlbrrrrlrfrll, bin_gtr, hz, neqb, decide_true, Bool.not_true, cond_false, cond_true, hfst, e30, un_not,
        p4arrrrrlrborlbrrrrlrfrlr, condV_bool, p4arrrrrlrborlbrrrrlrfrr, p4arrrrrlrborlbrrrrlrfrrl, m0, hrem, bin_lss, ← hb7]
    cases b with
    | false =>
      refine ⟨h1, put, x8, bs, os, s, v1.weak, a1, ?_⟩
      rw [hks, pre]
      simp only [p4arrrrrlrborlbrrrrlrfrrr, condV_bool, cond_false, p4arrrrrlrborlbrrrrlrfrrrf]
    | true =>
      obtain ⟨h2, bs2, os2, e12, r2, y2, ho2⟩ := T12 (k + 18) v1.gr hf' ht' hl hl' hbx' (by have := v.cn; have := nums_len (fun a => !a.tk) put put.length; omega) (fun i => by have := v.fb i; omega)
      have hbo := fun q => v1.bo f t l hf ht hl hl' c (by rw [hbx]; simp) q
      have hc1 : Cmd1 h1 c ((k0 : Nat) : Int) := hc.extBut (S := fun _ => False) x1.but (by simp)
      have hc2 : Cmd1 h2 c ((k0 : Nat) : Int) := hc1.extBut y2 fun q e => (hbo q e).1
      have e30b := T30 (k + 19) hc2 (k0 : Int)
      rw [decide_eq_true rfl] at e30b
      obtain ⟨id, h3, put', ix, es, v3, a3, na3, hl3⟩ := v1.takeA hf ht hl hl' r2 y2 ho2 hbx hks a1 na0 na8
      have hw : IntKind.i64.wrap (((k0 :: ks).length : Int) - 1) = (ks.length : Int) := by
        rw [show ((k0 :: ks).length : Int) - 1 = (ks.length : Int) by simp only [List.length_cons]; omega, wrap_nat (by rw [hks] at hln; simp only [List.length_cons] at hln; omega)]
      refine ⟨h3, put', x8, bs2, os2, _, v3, a3, ?_⟩
      rw [hks, pre, hl3]
      simp only [p4arrrrrlrborlbrrrrlrfrrr, condV_bool, cond_true, p4arrrrrlrborlbrrrrlrfrrrt, p4arrrrrlrborlbrrrrlrfrrrtl, fieldAddr_eq, Nat.zero_add, Nat.add_zero, bnd_some, m1, m2, m3, e12, bnd2_some, ex0, ex1, toBK_bool, p4arrrrrlrborlbrrrrlrfrrrtr, p4arrrrrlrborlbrrrrlrfrrrtrl, p4arrrrrlrborlbrrrrlrfrrrtrll, bin_gtr, hz, neqb, decide_true, Bool.not_true, cond_false,
        e30b, un_not, p4arrrrrlrborlbrrrrlrfrrrtrlr, p4arrrrrlrborlbrrrrlrfrrrtrr, ix, es, bin_sub, hw]
end
end Go.Proofs.Ytdjhkdogpbiglaa.MailD
