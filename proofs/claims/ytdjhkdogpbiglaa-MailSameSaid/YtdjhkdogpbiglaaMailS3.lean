/-
  Mail: what the functions of a grid do.
-/
import Derived.Test.YtdjhkdogpbiglaaMailS2
namespace Go.Proofs.Ytdjhkdogpbiglaa.MailD
open Go Go.AM

abbrev ptrV (p : Nat) : Value := .pointer (some ⟨p, 0, none⟩)

/-- Is that a mailbox? -/
def Ok (w : Nat) (f t l : Int) : Prop := 0 ≤ f ∧ f < w ∧ 0 ≤ t ∧ t < w ∧ 1 ≤ l ∧ l ≤ 7
instance (w : Nat) (f t l : Int) : Decidable (Ok w f t l) := by unfold Ok; infer_instance

def pl (w f t l : Nat) : Nat := (f * w + t) * 7 + l - 1
theorem pl_lt {w f t l : Nat} (hf : f < w) (ht : t < w) (hl : 1 ≤ l) (hl' : l ≤ 7) : pl w f t l < w * w * 7 := by
  have h1 : f * w + w ≤ w * w := by have := Nat.mul_le_mul_right w (show f + 1 ≤ w from hf); rwa [Nat.succ_mul] at this
  unfold pl; omega
theorem pl_inj {w f t l f' t' l' : Nat} (ht : t < w) (hl : 1 ≤ l) (hl' : l ≤ 7) (ht2 : t' < w) (hl2 : 1 ≤ l') (hl2' : l' ≤ 7) (e : pl w f t l = pl w f' t' l') : f = f' ∧ t = t' ∧ l = l' := by
  unfold pl at e
  have h1 : f * w + t = f' * w + t' := by omega
  have h2 : l = l' := by omega
  have hw : 0 < w := by omega
  have h3 : f = f' := by
    have e1 : (f * w + t) / w = f := by rw [Nat.mul_comm, Nat.mul_add_div hw, Nat.div_eq_of_lt ht]; rfl
    have e2 : (f' * w + t') / w = f' := by rw [Nat.mul_comm, Nat.mul_add_div hw, Nat.div_eq_of_lt ht2]; rfl
    rw [← e1, h1, e2]
  subst h3
  exact ⟨rfl, by omega, h2⟩

section
variable {h : H} {g B F : Nat} {bs : List Value} {os : List Nat} {s : St}

theorem T34n (k : Nat) (r : GridR h g B F bs os s) {f t l : Int} (ho : ¬ Ok s.w f t l) : callB Try.prog 0 [9] (k + 1) 34 [ptrV g, .int .i64 f, .int .i64 t, .int .i64 l] h = some (.int .i64 (-1), h) := by
  rw [F34eq [9] rfl]
  obtain ⟨lw, _⟩ := r.load
  simp only [F34, p34a, p34al, p34ar, p34arl, p34arll, bin_ptr_nil Try.underlying25, bnd_some, toBK_bool, cond_false, bin_lss, nilCheck_eq, fieldAddr_eq, Nat.zero_add, lw, bin_geq, bin_gtr]
  unfold Ok at ho
  by_cases h1 : f < 0
  · simp [h1, p34arlr]
  by_cases h2 : (s.w : Int) ≤ f
  · simp [h1, h2, p34arlr]
  by_cases h3 : t < 0
  · simp [h1, h2, h3, p34arlr]
  by_cases h4 : (s.w : Int) ≤ t
  · simp [h1, h2, h3, h4, p34arlr]
  by_cases h5 : l < 1
  · simp [h1, h2, h3, h4, h5, p34arlr]
  have h6 : (7 : Int) < l := by omega
  simp [h1, h2, h3, h4, h5, h6, p34arlr]

theorem T34 (k : Nat) (r : GridR h g B F bs os s) {f t l : Nat} (hf : f < s.w) (ht : t < s.w) (hl : 1 ≤ l) (hl' : l ≤ 7) : callB Try.prog 0 [9] (k + 1) 34 [ptrV g, .int .i64 (f : Int), .int .i64 (t : Int), .int .i64 (l : Int)] h = some (.int .i64 (pl s.w f t l : Int), h) := by
  rw [F34eq [9] rfl]
  obtain ⟨lw, _⟩ := r.load
  have h1 : decide ((f : Int) < 0) = false := by rw [decide_eq_false_iff_not]; omega
  have h2 : decide ((s.w : Int) ≤ (f : Int)) = false := by rw [decide_eq_false_iff_not]; omega
  have h3 : decide ((t : Int) < 0) = false := by rw [decide_eq_false_iff_not]; omega
  have h4 : decide ((s.w : Int) ≤ (t : Int)) = false := by rw [decide_eq_false_iff_not]; omega
  have h5 : decide ((l : Int) < 1) = false := by rw [decide_eq_false_iff_not]; omega
  have h6 : decide ((7 : Int) < (l : Int)) = false := by rw [decide_eq_false_iff_not]; omega
  have hm := mul64 (show f ≤ 64 by have := r.hw; omega) r.hw.2
  have w1 : IntKind.i64.wrap ((f : Int) * (s.w : Int)) = ((f * s.w : Nat) : Int) := by rw [← Int.natCast_mul, wrap_nat (by omega)]
  have w2 : IntKind.i64.wrap (((f * s.w : Nat) : Int) + (t : Int)) = ((f * s.w + t : Nat) : Int) := by rw [← Int.natCast_add, wrap_nat (by have := r.hw; omega)]
  have w3 : IntKind.i64.wrap (((f * s.w + t : Nat) : Int) * 7) = (((f * s.w + t) * 7 : Nat) : Int) := by
    rw [show ((f * s.w + t : Nat) : Int) * 7 = (((f * s.w + t) * 7 : Nat) : Int) by rw [Int.natCast_mul]; rfl, wrap_nat (by have := r.hw; omega)]
  have w4 : IntKind.i64.wrap ((((f * s.w + t) * 7 : Nat) : Int) + (l : Int)) = (((f * s.w + t) * 7 + l : Nat) : Int) := by rw [← Int.natCast_add, wrap_nat (by have := r.hw; omega)]
  have w5 : IntKind.i64.wrap ((((f * s.w + t) * 7 + l : Nat) : Int) - 1) = (pl s.w f t l : Int) := by
    rw [show (((f * s.w + t) * 7 + l : Nat) : Int) - 1 = (pl s.w f t l : Int) by unfold pl; omega, wrap_nat (by unfold pl; have := r.hw; omega)]
  simp only [F34, p34a, p34al, p34ar, p34arl, p34arll, bin_ptr_nil Try.underlying25, bnd_some, toBK_bool, cond_false, bin_lss, nilCheck_eq, fieldAddr_eq, Nat.zero_add, lw, bin_geq, bin_gtr, h1, h2, h3, h4, h5, h6, p34arlr, condV_bool, p34arr, bin_mul, w1, bin_add, w2, w3, w4, bin_sub, w5]

theorem T23n (k : Nat) (r : GridR h g B F bs os s) {f t l : Int} (ho : ¬ Ok s.w f t l) : callB Try.prog 0 [9] (k + 2) 23 [ptrV g, .int .i64 f, .int .i64 t, .int .i64 l] h = some (.int .i64 0, h) := by
  rw [F23eq [9] rfl]
  have hd : decide ((-1 : Int) < 0) = true := rfl
  simp only [F23, p23a, T34n k r ho, bnd2_some, bin_lss, hd, bnd_some, toBK_bool, cond_true]

theorem T23 (k : Nat) (r : GridR h g B F bs os s) {f t l : Nat} (hf : f < s.w) (ht : t < s.w) (hl : 1 ≤ l) (hl' : l ≤ 7) :
    callB Try.prog 0 [9] (k + 2) 23 [ptrV g, .int .i64 (f : Int), .int .i64 (t : Int), .int .i64 (l : Int)] h = some (.int .i64 ((s.bx (pl s.w f t l)).length : Int), h) := by
  rw [F23eq [9] rfl]
  obtain ⟨_, _, lB, _, _⟩ := r.load
  obtain ⟨v, _, bv, ix, ld⟩ := r.box (pl_lt hf ht hl hl')
  have hd : decide ((pl s.w f t l : Int) < 0) = false := by rw [decide_eq_false_iff_not]; omega
  simp only [F23, p23a, T34 k r hf ht hl hl', bnd2_some, bin_lss, hd, bnd_some, toBK_bool, cond_false, nilCheck_eq, fieldAddr_eq, Nat.zero_add, lB, ix, ld, bv.len]

theorem T25 (k : Nat) (r : GridR h g B F bs os s) : callB Try.prog 0 [9] (k + 1) 25 [ptrV g] h = some (.int .i64 s.cnt, h) := by
  rw [F25eq [9] rfl]
  obtain ⟨_, _, _, _, lc⟩ := r.load
  simp only [F25, p25a, bin_ptr_nil Try.underlying25, bnd_some, toBK_bool, cond_false, nilCheck_eq, fieldAddr_eq, Nat.zero_add, lc]
theorem T27 (k : Nat) (r : GridR h g B F bs os s) : callB Try.prog 0 [9] (k + 2) 27 [ptrV g] h = some (.bool (decide (s.cnt = 0)), h) := by
  rw [F27eq [9] rfl]
  simp only [F27, p27a, T25 k r, bnd2_some, bin_eql, bnd_some, toBK_bool]

theorem T14n (k : Nat) (r : GridR h g B F bs os s) {f t l : Int} (ho : ¬ Ok s.w f t l) : callB Try.prog 0 [9] (k + 2) 14 [ptrV g, .int .i64 f, .int .i64 t, .int .i64 l] h = some (.tuple ⟨[.slice none 0 0, .bool false]⟩, h) := by
  rw [F14eq [9] rfl]
  have hd : decide ((-1 : Int) < 0) = true := rfl
  simp only [F14, p14a, T34n k r ho, bnd2_some, bin_lss, hd, bnd_some, toBK_bool, cond_true]
theorem T14e (k : Nat) (r : GridR h g B F bs os s) {f t l : Nat} (hf : f < s.w) (ht : t < s.w) (hl : 1 ≤ l) (hl' : l ≤ 7) (he : s.bx (pl s.w f t l) = []) :
    callB Try.prog 0 [9] (k + 2) 14 [ptrV g, .int .i64 (f : Int), .int .i64 (t : Int), .int .i64 (l : Int)] h = some (.tuple ⟨[.slice none 0 0, .bool false]⟩, h) := by
  rw [F14eq [9] rfl]
  obtain ⟨_, _, lB, _, _⟩ := r.load
  obtain ⟨v, _, bv, ix, ld⟩ := r.box (pl_lt hf ht hl hl')
  have hd : decide ((pl s.w f t l : Int) < 0) = false := by rw [decide_eq_false_iff_not]; omega
  have hz : decide ((((s.bx (pl s.w f t l)).length : Nat) : Int) = 0) = true := by rw [he]; rfl
  simp only [F14, p14a, T34 k r hf ht hl hl', bnd2_some, bin_lss, hd, bnd_some, toBK_bool, cond_false, nilCheck_eq, fieldAddr_eq, Nat.zero_add, lB, ix, ld, bv.len, bin_eql, hz, cond_true]
theorem T14 (k : Nat) (r : GridR h g B F bs os s) {f t l : Nat} (hf : f < s.w) (ht : t < s.w) (hl : 1 ≤ l) (hl' : l ≤ 7) {c : Value} {cs : List Value} (he : s.bx (pl s.w f t l) = c :: cs) {c' : Value} {h' : H} (hc : callB Try.prog 0 [9] (k + 1) 32 [c] h = some (c', h')) :
    callB Try.prog 0 [9] (k + 2) 14 [ptrV g, .int .i64 (f : Int), .int .i64 (t : Int), .int .i64 (l : Int)] h = some (.tuple ⟨[c', .bool true]⟩, h') := by
  rw [F14eq [9] rfl]
  obtain ⟨_, _, lB, _, _⟩ := r.load
  obtain ⟨v, _, bv, ix, ld⟩ := r.box (pl_lt hf ht hl hl')
  have hd : decide ((pl s.w f t l : Int) < 0) = false := by rw [decide_eq_false_iff_not]; omega
  have hz : decide ((((s.bx (pl s.w f t l)).length : Nat) : Int) = 0) = false := by rw [he, decide_eq_false_iff_not]; simp; omega
  have bv' := bv
  rw [he] at bv'
  obtain ⟨q, ix2, ld2⟩ := bv'.head
  simp only [F14, p14a, T34 k r hf ht hl hl', bnd2_some, bin_lss, hd, bnd_some, toBK_bool, cond_false, nilCheck_eq, fieldAddr_eq, Nat.zero_add, lB, ix, ld, bv.len, bin_eql, hz, ix2, ld2, hc]

/-! Put. -/
def putS (s : St) (f t l : Nat) (c : Value) : St :=
  { s with bx := fun j => if j = pl s.w f t l then s.bx (pl s.w f t l) ++ [c] else s.bx j, cnt := s.cnt + 1,
           fu := if (s.bx (pl s.w f t l)).length + 1 = s.m then fun j => if j = f * 7 + l - 1 then s.fu (f * 7 + l - 1) + 1 else s.fu j else s.fu }
def takeS (s : St) (f t l : Nat) : St :=
  { s with bx := fun j => if j = pl s.w f t l then (s.bx (pl s.w f t l)).tail else s.bx j, cnt := s.cnt - 1,
           fu := if (s.bx (pl s.w f t l)).length = s.m then fun j => if j = f * 7 + l - 1 then s.fu (f * 7 + l - 1) - 1 else s.fu j else s.fu }

/-- Nothing is put: no mailbox, no command, or it is full. -/
theorem T17n (k : Nat) (r : GridR h g B F bs os s) {f t l : Int} (ho : ¬ Ok s.w f t l) (c : Value) : callB Try.prog 0 [9] (k + 2) 17 [ptrV g, .int .i64 f, .int .i64 t, .int .i64 l, c] h = some (.bool false, h) := by
  rw [F17eq [9] rfl]
  have hd : decide ((-1 : Int) < 0) = true := rfl
  simp only [F17, p17a, p17al, p17ar, p17arl, T34n k r ho, bnd2_some, p17arr, p17arrl, p17arrll, bin_lss, hd, bnd_some, toBK_bool, cond_true, p17arrlr, condV_bool]
theorem T17z (k : Nat) (r : GridR h g B F bs os s) {f t l : Nat} (hf : f < s.w) (ht : t < s.w) (hl : 1 ≤ l) (hl' : l ≤ 7) {c : Value} (hc : A.lenS c = some (.int .i64 0)) :
    callB Try.prog 0 [9] (k + 2) 17 [ptrV g, .int .i64 (f : Int), .int .i64 (t : Int), .int .i64 (l : Int), c] h = some (.bool false, h) := by
  rw [F17eq [9] rfl]
  have hd : decide ((pl s.w f t l : Int) < 0) = false := by rw [decide_eq_false_iff_not]; omega
  simp only [F17, p17a, p17al, p17ar, p17arl, T34 k r hf ht hl hl', bnd2_some, p17arr, p17arrl, p17arrll, bin_lss, hd, bnd_some, toBK_bool, cond_false, hc, bin_eql, decide_true, cond_true, p17arrlr, condV_bool]
theorem T17f (k : Nat) (r : GridR h g B F bs os s) {f t l : Nat} (hf : f < s.w) (ht : t < s.w) (hl : 1 ≤ l) (hl' : l ≤ 7) {c : Value} {n : Nat} (hn : 0 < n) (hc : A.lenS c = some (.int .i64 (n : Int))) (hfull : (s.bx (pl s.w f t l)).length = s.m) :
    callB Try.prog 0 [9] (k + 2) 17 [ptrV g, .int .i64 (f : Int), .int .i64 (t : Int), .int .i64 (l : Int), c] h = some (.bool false, h) := by
  rw [F17eq [9] rfl]
  obtain ⟨_, lm, lB, _, _⟩ := r.load
  obtain ⟨v, _, bv, ix, ld⟩ := r.box (pl_lt hf ht hl hl')
  have hd : decide ((pl s.w f t l : Int) < 0) = false := by rw [decide_eq_false_iff_not]; omega
  have hz : decide ((n : Int) = 0) = false := by rw [decide_eq_false_iff_not]; omega
  have he : decide ((((s.bx (pl s.w f t l)).length : Nat) : Int) = (s.m : Int)) = true := by rw [hfull]; simp
  simp only [F17, p17a, p17al, p17ar, p17arl, T34 k r hf ht hl hl', bnd2_some, p17arr, p17arrl, p17arrll, bin_lss, hd, bnd_some, toBK_bool, cond_false, hc, bin_eql, hz, nilCheck_eq, fieldAddr_eq, Nat.zero_add, lB, ix, ld, bv.len, lm, he, p17arrlr, condV_bool, cond_true]

theorem chk_same {v : Value} (o : Option Value) (ho : o = some v) (hv : AM.same v v = true) : chk (bnd o fun v => some v) v = true := by
  subst ho
  show (match (some v : Option Value) with | some w => AM.same w v | none => false) = true
  exact hv

theorem T17 (k : Nat) (r : GridR h g B F bs os s) {f t l : Nat} (hf : f < s.w) (ht : t < s.w) (hl : 1 ≤ l) (hl' : l ≤ 7) {c : Value} {n : Nat} (hn : 0 < n) (hc : A.lenS c = some (.int .i64 (n : Int))) (hfull : (s.bx (pl s.w f t l)).length < s.m)
    {c' : Value} {h1 : H} (hcp : callB Try.prog 0 [9] (k + 1) 32 [c] h = some (c', h1)) (x1 : Ext h h1) (hcl : cellsL c' = some [c']) (hcnt : -2 ^ 40 < s.cnt ∧ s.cnt < 2 ^ 40) (hfu : ∀ i, -2 ^ 40 < s.fu i ∧ s.fu i < 2 ^ 40) :
    ∃ h' bs' os', callB Try.prog 0 [9] (k + 2) 17 [ptrV g, .int .i64 (f : Int), .int .i64 (t : Int), .int .i64 (l : Int), c] h = some (.bool true, h') ∧ GridR h' g B F bs' os' (putS s f t l c') ∧ ExtBut (· ∈ os) h1 h' ∧ (∀ n ∈ os', n ∈ os ∨ h1.next ≤ n) := by
  rw [F17eq [9] rfl]
  obtain ⟨_, lm, lB, _, _⟩ := r.load
  have hpl := pl_lt hf ht hl hl'
  obtain ⟨v, hv, bv, ix, ld⟩ := r.box hpl
  obtain ⟨p, hp⟩ : ∃ p, p = pl s.w f t l := ⟨_, rfl⟩
  have r1 := r.ext x1
  obtain ⟨_, _, lB1, _, _⟩ := r1.load
  obtain ⟨v1, hv1, bv1, _, ld1⟩ := r1.box hpl
  obtain rfl : v1 = v := by rw [hv] at hv1; exact (Option.some.inj hv1).symm
  have hd : decide ((pl s.w f t l : Int) < 0) = false := by rw [decide_eq_false_iff_not]; omega
  have hz : decide ((n : Int) = 0) = false := by rw [decide_eq_false_iff_not]; omega
  have he : decide ((((s.bx (pl s.w f t l)).length : Nat) : Int) = (s.m : Int)) = false := by rw [decide_eq_false_iff_not]; omega
  have hb1 := buildSlice_one (n := 1) (zs := Z29L) h1 rfl hcl rfl
  obtain ⟨h2, hh2⟩ : ∃ h2, h2 = h1.push (.cells [c'] (some 1)) := ⟨_, rfl⟩
  rw [← hh2] at hb1
  have x2 : Ext h1 h2 := hh2 ▸ Ext.push h1 _
  have g2 : h2.get h1.next = some (.cells [c'] (some 1)) := by rw [hh2, H.get_push, if_pos rfl]
  have r2 := r1.ext x2
  have hm := r.hm
  obtain ⟨v3, h3, ea, b3, y3, s3⟩ := (bv1.ext x2).push rfl g2 (by omega)
  obtain ⟨es, os', r4, ho4, y4⟩ := r2.setBox hv b3 (by rw [List.length_append, List.length_singleton]; exact hfull) y3 s3
  obtain ⟨h4, hh4⟩ : ∃ h4, h4 = h3.put B (.cells (bs.set (pl s.w f t l) v3) (some 1)) := ⟨_, rfl⟩
  rw [← hh4] at es r4 y4
  have lB3 : A.load false 1 (.pointer (some ⟨g, 2, none⟩)) h3 = some (.slice (some ⟨B, 0, none⟩) (s.w * s.w * 7) (2 * (s.w * s.w * 7) + 1)) := by
    rw [load1_eq, y3.get g (r2.on g r.og) (fun e => (r.ob _ _ g hv e).2.1 rfl), r2.hg]; rfl
  have same1 := bv.same
  have sameB : AM.same (.slice (some ⟨B, 0, none⟩) (s.w * s.w * 7) (2 * (s.w * s.w * 7) + 1)) (.slice (some ⟨B, 0, none⟩) (s.w * s.w * 7) (2 * (s.w * s.w * 7) + 1)) = true := same_slice _ _ _ (fun b h => by cases h; rfl)
  have k1 := chk_same _ ld1 same1
  have k2 := chk_same _ lB1 sameB
  have k3 := chk_same _ lB3 sameB
  obtain ⟨h5, es5, r5, y5, n5⟩ := r4.setCnt (s.cnt + 1)
  obtain ⟨_, lm5, lB5, lF5, _⟩ := r5.load
  obtain ⟨_, _, _, _, lc4⟩ := r4.load
  have w1 : IntKind.i64.wrap (s.cnt + 1) = s.cnt + 1 := wrap64 (by omega) (by omega)
  obtain ⟨v5, hv5, bv5, ix5, ld5⟩ := r5.box (i := pl s.w f t l) hpl
  have hlen5 := bv5.len
  simp only [if_true, List.length_append, List.length_singleton] at hlen5
  have hfi : f * 7 + l - 1 < s.w * 7 := by omega
  have ho' : ∀ n ∈ os', n ∈ os ∨ h1.next ≤ n := fun n hn => by
    rcases ho4 n hn with e | e
    · exact .inl e
    · exact .inr (by have := x2.next; omega)
  have ybig : ExtBut (· ∈ os) h1 h5 := by
    have a : ExtBut (· ∈ os) h1 h4 := x2.but.trans y4
    refine ⟨by have := a.next; have := y5.next; omega, fun i hi hno => ?_⟩
    have hi4 : i < h4.next := Nat.lt_of_lt_of_le hi a.next
    rw [y5.get i hi4 (fun e => by rcases ho' i e with e | e; exact hno e; omega), a.get i hi hno]
  by_cases hlast : (s.bx (pl s.w f t l)).length + 1 = s.m
  · have hq : decide ((((s.bx (pl s.w f t l)).length + 1 : Nat) : Int) = (s.m : Int)) = true := by rw [decide_eq_true_iff]; omega
    obtain ⟨ixF, ldF⟩ := r5.full hfi
    have w2 : IntKind.i64.wrap ((f : Int) * 7) = ((f * 7 : Nat) : Int) := by rw [show (f : Int) * 7 = ((f * 7 : Nat) : Int) by rw [Int.natCast_mul]; rfl, wrap_nat (by have := r.hw; omega)]
    have w3 : IntKind.i64.wrap (((f * 7 : Nat) : Int) + (l : Int)) = ((f * 7 + l : Nat) : Int) := by rw [← Int.natCast_add, wrap_nat (by have := r.hw; omega)]
    have w4 : IntKind.i64.wrap (((f * 7 + l : Nat) : Int) - 1) = ((f * 7 + l - 1 : Nat) : Int) := by rw [show ((f * 7 + l : Nat) : Int) - 1 = ((f * 7 + l - 1 : Nat) : Int) by omega, wrap_nat (by have := r.hw; omega)]
    have hfb := hfu (f * 7 + l - 1)
    have w5 : IntKind.i64.wrap (s.fu (f * 7 + l - 1) + 1) = s.fu (f * 7 + l - 1) + 1 := wrap64 (by omega) (by omega)
    obtain ⟨h6, es6, r6, y6, n6⟩ := r5.setFull hfi (s.fu (f * 7 + l - 1) + 1)
    have e6 : ({ s with bx := fun j => if j = pl s.w f t l then s.bx (pl s.w f t l) ++ [c'] else s.bx j, cnt := s.cnt + 1, fu := fun j => if j = f * 7 + l - 1 then s.fu (f * 7 + l - 1) + 1 else s.fu j } : St) = putS s f t l c' := by
      unfold putS; rw [if_pos hlast]
    refine ⟨h6, _, os', ?_, e6 ▸ r6, ?_, ho'⟩
    · simp only [F17, p17a, p17al, p17ar, p17arl, T34 k r hf ht hl hl', bnd2_some, p17arr, p17arrl, p17arrll, bin_lss, hd, bnd_some, toBK_bool, cond_false, hc, bin_eql, hz, nilCheck_eq, fieldAddr_eq, Nat.zero_add, lB, ix, ld, bv.len, lm, he, p17arrlr, condV_bool,
        p17arrr, p17arrrl, hcp, k1, k2, Bool.and_true, Bool.and_self, cond_true, hb1, ea, k3, es, p17arrrr, p17arrrrl, lc4, bin_add, w1, es5, p17arrrrr, p17arrrrrl, p17arrrrrll, lB5, ix5, ld5, hlen5, lm5, hq, p17arrrrrlr, lF5, bin_mul, w2, w3, bin_sub, w4, ixF, ldF, w5, es6, p17arrrrrr]
    · refine ⟨by have := ybig.next; omega, fun i hi hno => ?_⟩
      rw [y6.get i (Nat.lt_of_lt_of_le hi ybig.next) (fun e => by rcases ho' i e with e | e; exact hno e; omega), ybig.get i hi hno]
  · have hq : decide ((((s.bx (pl s.w f t l)).length + 1 : Nat) : Int) = (s.m : Int)) = false := by rw [decide_eq_false_iff_not]; omega
    have e6 : ({ s with bx := fun j => if j = pl s.w f t l then s.bx (pl s.w f t l) ++ [c'] else s.bx j, cnt := s.cnt + 1 } : St) = putS s f t l c' := by
      unfold putS; rw [if_neg hlast]
    refine ⟨h5, _, os', ?_, e6 ▸ r5, ybig, ho'⟩
    simp only [F17, p17a, p17al, p17ar, p17arl, T34 k r hf ht hl hl', bnd2_some, p17arr, p17arrl, p17arrll, bin_lss, hd, bnd_some, toBK_bool, cond_false, hc, bin_eql, hz, nilCheck_eq, fieldAddr_eq, Nat.zero_add, lB, ix, ld, bv.len, lm, he, p17arrlr, condV_bool,
      p17arrr, p17arrrl, hcp, k1, k2, Bool.and_true, Bool.and_self, cond_true, hb1, ea, k3, es, p17arrrr, p17arrrrl, lc4, bin_add, w1, es5, p17arrrrr, p17arrrrrl, p17arrrrrll, lB5, ix5, ld5, hlen5, lm5, hq, p17arrrrrlr, p17arrrrrr]
end
end Go.Proofs.Ytdjhkdogpbiglaa.MailD
