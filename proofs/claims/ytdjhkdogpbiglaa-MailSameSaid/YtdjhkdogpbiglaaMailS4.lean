/-
  Mail: Take, New, and commands of one item by a number.
-/
import Derived.Test.YtdjhkdogpbiglaaMailS3
namespace Go.Proofs.Ytdjhkdogpbiglaa.MailD
open Go Go.AM

section
variable {h : H} {g B F : Nat} {bs : List Value} {os : List Nat} {s : St}

theorem T12n (k : Nat) (r : GridR h g B F bs os s) {f t l : Int} (ho : ¬ Ok s.w f t l) : callB Try.prog 0 [9] (k + 2) 12 [ptrV g, .int .i64 f, .int .i64 t, .int .i64 l] h = some (.tuple ⟨[.slice none 0 0, .bool false]⟩, h) := by
  rw [F12eq [9] rfl]
  have hd : decide ((-1 : Int) < 0) = true := rfl
  simp only [F12, p12a, p12al, p12ar, p12arl, T34n k r ho, bnd2_some, p12arr, p12arrl, bin_lss, hd, bnd_some, toBK_bool, cond_true]
theorem T12e (k : Nat) (r : GridR h g B F bs os s) {f t l : Nat} (hf : f < s.w) (ht : t < s.w) (hl : 1 ≤ l) (hl' : l ≤ 7) (he : s.bx (pl s.w f t l) = []) :
    callB Try.prog 0 [9] (k + 2) 12 [ptrV g, .int .i64 (f : Int), .int .i64 (t : Int), .int .i64 (l : Int)] h = some (.tuple ⟨[.slice none 0 0, .bool false]⟩, h) := by
  rw [F12eq [9] rfl]
  obtain ⟨_, _, lB, _, _⟩ := r.load
  obtain ⟨v, _, bv, ix, ld⟩ := r.box (pl_lt hf ht hl hl')
  have hd : decide ((pl s.w f t l : Int) < 0) = false := by rw [decide_eq_false_iff_not]; omega
  have hz : decide ((((s.bx (pl s.w f t l)).length : Nat) : Int) = 0) = true := by rw [he]; rfl
  simp only [F12, p12a, p12al, p12ar, p12arl, T34 k r hf ht hl hl', bnd2_some, p12arr, p12arrl, bin_lss, hd, bnd_some, toBK_bool, cond_false, nilCheck_eq, fieldAddr_eq, Nat.zero_add, lB, ix, ld, bv.len, bin_eql, hz, cond_true]

theorem T12 (k : Nat) (r : GridR h g B F bs os s) {f t l : Nat} (hf : f < s.w) (ht : t < s.w) (hl : 1 ≤ l) (hl' : l ≤ 7) {c : Value} {cs : List Value} (he : s.bx (pl s.w f t l) = c :: cs)
    (hcnt : -2 ^ 40 < s.cnt ∧ s.cnt < 2 ^ 40) (hfu : ∀ i, -2 ^ 40 < s.fu i ∧ s.fu i < 2 ^ 40) :
    ∃ h' bs' os', callB Try.prog 0 [9] (k + 2) 12 [ptrV g, .int .i64 (f : Int), .int .i64 (t : Int), .int .i64 (l : Int)] h = some (.tuple ⟨[c, .bool true]⟩, h') ∧ GridR h' g B F bs' os' (takeS s f t l) ∧ ExtBut (· ∈ os) h h' ∧ (∀ n ∈ os', n ∈ os ∨ h.next ≤ n) := by
  rw [F12eq [9] rfl]
  obtain ⟨_, lm, lB, lF, _⟩ := r.load
  have hpl := pl_lt hf ht hl hl'
  obtain ⟨v, hv, bv, ix, ld⟩ := r.box hpl
  have hd : decide ((pl s.w f t l : Int) < 0) = false := by rw [decide_eq_false_iff_not]; omega
  have hz : decide ((((s.bx (pl s.w f t l)).length : Nat) : Int) = 0) = false := by rw [he, decide_eq_false_iff_not]; simp; omega
  have bv' := bv
  rw [he] at bv'
  obtain ⟨q, ix2, ld2⟩ := bv'.head
  have hfi : f * 7 + l - 1 < s.w * 7 := by omega
  have hle := r.lm (pl s.w f t l)
  rw [he] at hle
  -- how many are full
  obtain ⟨b, hb⟩ : ∃ b, b = decide ((((s.bx (pl s.w f t l)).length : Nat) : Int) = (s.m : Int)) := ⟨_, rfl⟩
  obtain ⟨fu1, hfu1⟩ : ∃ fu1, fu1 = (if (s.bx (pl s.w f t l)).length = s.m then fun j => if j = f * 7 + l - 1 then s.fu (f * 7 + l - 1) - 1 else s.fu j else s.fu) := ⟨_, rfl⟩
  have hA : ∃ h1, p12arrrrlr (callB Try.prog 0 [9] (k + 1)) (k + 1) (.bool b) (.int .i64 (l : Int)) (.int .i64 (f : Int)) (.int .i64 (pl s.w f t l : Int)) (ptrV g) c h
        (fun x10 x0 x11 h => p12arrrrr (callB Try.prog 0 [9] (k + 1)) (k + 1) x10 x0 x11 h (fun x8 x9 h => some (Value.tuple ⟨[x8, x9]⟩, h))) =
        p12arrrrr (callB Try.prog 0 [9] (k + 1)) (k + 1) (.int .i64 (pl s.w f t l : Int)) (ptrV g) c h1 (fun x8 x9 h => some (Value.tuple ⟨[x8, x9]⟩, h)) ∧ GridR h1 g B F bs os { s with fu := fu1 } ∧ ExtBut (· ∈ os) h h1 ∧ h1.next = h.next := by
    by_cases hm : (s.bx (pl s.w f t l)).length = s.m
    · have hbt : b = true := by rw [hb, decide_eq_true_iff]; omega
      obtain ⟨ixF, ldF⟩ := r.full hfi
      have w2 : IntKind.i64.wrap ((f : Int) * 7) = ((f * 7 : Nat) : Int) := by rw [show (f : Int) * 7 = ((f * 7 : Nat) : Int) by rw [Int.natCast_mul]; rfl, wrap_nat (by have := r.hw; omega)]
      have w3 : IntKind.i64.wrap (((f * 7 : Nat) : Int) + (l : Int)) = ((f * 7 + l : Nat) : Int) := by rw [← Int.natCast_add, wrap_nat (by have := r.hw; omega)]
      have w4 : IntKind.i64.wrap (((f * 7 + l : Nat) : Int) - 1) = ((f * 7 + l - 1 : Nat) : Int) := by rw [show ((f * 7 + l : Nat) : Int) - 1 = ((f * 7 + l - 1 : Nat) : Int) by omega, wrap_nat (by have := r.hw; omega)]
      have hfb := hfu (f * 7 + l - 1)
      have w5 : IntKind.i64.wrap (s.fu (f * 7 + l - 1) - 1) = s.fu (f * 7 + l - 1) - 1 := wrap64 (by omega) (by omega)
      obtain ⟨h1, es1, r1, y1, n1⟩ := r.setFull hfi (s.fu (f * 7 + l - 1) - 1)
      refine ⟨h1, ?_, by rw [hfu1, if_pos hm]; exact r1, y1, n1⟩
      rw [hbt]
      simp only [p12arrrrlr, condV_bool, cond_true, nilCheck_eq, bnd_some, fieldAddr_eq, Nat.zero_add, lF, bin_mul, w2, bin_add, w3, bin_sub, w4, ixF, ldF, w5, es1]
    · have hbf : b = false := by rw [hb, decide_eq_false_iff_not]; omega
      refine ⟨h, ?_, by rw [hfu1, if_neg hm]; exact r, ⟨Nat.le_refl _, fun _ _ _ => rfl⟩, rfl⟩
      rw [hbf]
      simp only [p12arrrrlr, condV_bool, cond_false]
  obtain ⟨h1, eA, r1, y1, n1⟩ := hA
  obtain ⟨_, _, lB1, _, _⟩ := r1.load
  obtain ⟨v1, hv1, bv1, ix1, ld1⟩ := r1.box hpl
  obtain rfl : v1 = v := by rw [hv] at hv1; exact (Option.some.inj hv1).symm
  have bv1' : BoxV h1 v1 (c :: cs) := by rw [← he]; exact bv1
  obtain ⟨v2, h2, e35, b2, y2, s2, n2⟩ := T35 k bv1'
  have hcl : cs.length ≤ s.m := by simp only [List.length_cons] at hle; omega
  obtain ⟨es, os', r3, ho3, y3⟩ := r1.setBox hv b2 hcl y2 (fun n hn => .inl (by rw [← s2]; exact hn))
  obtain ⟨h3, hh3⟩ : ∃ h3, h3 = h2.put B (.cells (bs.set (pl s.w f t l) v2) (some 1)) := ⟨_, rfl⟩
  rw [← hh3] at es r3 y3
  have lB2 : A.load false 1 (.pointer (some ⟨g, 2, none⟩)) h2 = some (.slice (some ⟨B, 0, none⟩) (s.w * s.w * 7) (2 * (s.w * s.w * 7) + 1)) := by
    rw [load1_eq, y2.get g (r1.on g r.og) (fun e => (r.ob _ _ g hv e).2.1 rfl), r1.hg]; rfl
  have sameB : AM.same (.slice (some ⟨B, 0, none⟩) (s.w * s.w * 7) (2 * (s.w * s.w * 7) + 1)) (.slice (some ⟨B, 0, none⟩) (s.w * s.w * 7) (2 * (s.w * s.w * 7) + 1)) = true := same_slice _ _ _ (fun b h => by cases h; rfl)
  have k3 := chk_same _ lB2 sameB
  obtain ⟨_, _, _, _, lc3⟩ := r3.load
  have w1 : IntKind.i64.wrap (s.cnt - 1) = s.cnt - 1 := wrap64 (by omega) (by omega)
  obtain ⟨h4, es4, r4, y4, n4⟩ := r3.setCnt (s.cnt - 1)
  have e4 : ({ s with bx := fun j => if j = pl s.w f t l then cs else s.bx j, cnt := s.cnt - 1, fu := fu1 } : St) = takeS s f t l := by
    unfold takeS
    rw [he, hfu1, he]
    rfl
  have ho' : ∀ n ∈ os', n ∈ os ∨ h.next ≤ n := fun n hn => by
    rcases ho3 n hn with e | e
    · exact .inl e
    · exact .inr (by omega)
  have a : ExtBut (· ∈ os) h h3 := y1.trans y3
  refine ⟨h4, _, os', ?_, e4 ▸ r4, ⟨by have := a.next; omega, fun i hi hno => ?_⟩, ho'⟩
  · simp only [F12, p12a, p12al, p12ar, p12arl, T34 k r hf ht hl hl', bnd2_some, p12arr, p12arrl, bin_lss, hd, bnd_some, toBK_bool, cond_false, nilCheck_eq, fieldAddr_eq, Nat.zero_add, lB, ix, ld, bv.len, bin_eql, hz, p12arrr, p12arrrl, ix2, ld2, p12arrrr, p12arrrrl, p12arrrrll, lm]
    rw [← hb, eA]
    simp only [p12arrrrr, p12arrrrrl, nilCheck_eq, bnd_some, fieldAddr_eq, Nat.zero_add, lB1, ix1, ld1, e35, bnd2_some, k3, Bool.and_true, cond_true, es, p12arrrrrr, lc3, bin_sub, w1, es4]
  · rw [y4.get i (Nat.lt_of_lt_of_le hi a.next) (fun e => by rcases ho' i e with e | e; exact hno e; omega), a.get i hi hno]
end

theorem zeros_one (v : Value) : ∀ n, A.zeros [v] n = List.replicate n v
  | 0 => rfl
  | n + 1 => by show v :: A.zeros [v] n = _; rw [zeros_one v n]; rfl

theorem makeSlice_one (b : Nat) (v : Value) {n : Nat} (h : H) (h1 : b * n ≤ 2 ^ 47) (h2 : n ≤ 2 ^ 47) : A.makeSlice 1 b [v] (.int .i64 (n : Int)) (.int .i64 (n : Int)) h = some (.slice (some ⟨h.next, 0, none⟩) n (2 * n + 1), h.push (.cells (List.replicate n v) (some 1))) := by
  have e : A.makeSlice 1 b [v] (.int .i64 (n : Int)) (.int .i64 (n : Int)) h = (bif Nat.ble n n && Nat.ble (b * n) (2 ^ 47) && Nat.ble n (2 ^ 47) then some (.slice (some ⟨h.next, 0, none⟩) n (2 * n + 1), h.push (.cells (A.zeros [v] n) (some 1))) else none) := rfl
  have e1 : Nat.ble n n = true := by rw [ble_dec, decide_eq_true_iff]; exact Nat.le_refl n
  have e2 : Nat.ble (b * n) (2 ^ 47) = true := by rw [ble_dec, decide_eq_true_iff]; exact h1
  have e3 : Nat.ble n (2 ^ 47) = true := by rw [ble_dec, decide_eq_true_iff]; exact h2
  rw [e, e1, e2, e3, zeros_one]; rfl

def newS (w m : Nat) : St := ⟨w, m, fun _ => [], fun _ => 0, 0⟩

theorem T10n (k : Nat) (h : H) {w m : Int} (hn : ¬ (1 ≤ w ∧ w ≤ 64 ∧ 1 ≤ m ∧ m ≤ 64)) : callB Try.prog 0 [9] (k + 1) 10 [.int .i64 w, .int .i64 m] h = some (.pointer none, h) := by
  rw [F10eq [9] rfl]
  simp only [F10, p10a, p10al, p10ar, p10arl, p10arll, bin_lss, bnd_some, toBK_bool, bin_gtr]
  by_cases h1 : w < 1
  · simp [h1, p10arlr]
  by_cases h2 : 64 < w
  · simp [h1, h2, p10arlr]
  by_cases h3 : m < 1
  · simp [h1, h2, h3, p10arlr]
  have h4 : 64 < m := by omega
  simp [h1, h2, h3, h4, p10arlr]

theorem T10 (k : Nat) (h : H) {w m : Nat} (hw : 1 ≤ w ∧ w ≤ 64) (hm : 1 ≤ m ∧ m ≤ 64) :
    ∃ h' g B F bs os, callB Try.prog 0 [9] (k + 1) 10 [.int .i64 (w : Int), .int .i64 (m : Int)] h = some (ptrV g, h') ∧ GridR h' g B F bs os (newS w m) ∧ Ext h h' ∧ (∀ n ∈ os, h.next ≤ n) := by
  rw [F10eq [9] rfl]
  have h1 : decide ((w : Int) < 1) = false := by rw [decide_eq_false_iff_not]; omega
  have h2 : decide ((64 : Int) < (w : Int)) = false := by rw [decide_eq_false_iff_not]; omega
  have h3 : decide ((m : Int) < 1) = false := by rw [decide_eq_false_iff_not]; omega
  have h4 : decide ((64 : Int) < (m : Int)) = false := by rw [decide_eq_false_iff_not]; omega
  have hmu := mul64 hw.2 hw.2
  have w1 : IntKind.i64.wrap ((w : Int) * (w : Int)) = ((w * w : Nat) : Int) := by rw [← Int.natCast_mul, wrap_nat (by omega)]
  have w2 : IntKind.i64.wrap (((w * w : Nat) : Int) * 7) = ((w * w * 7 : Nat) : Int) := by rw [show ((w * w : Nat) : Int) * 7 = ((w * w * 7 : Nat) : Int) by rw [Int.natCast_mul (w * w)]; rfl, wrap_nat (by omega)]
  have w3 : IntKind.i64.wrap ((w : Int) * 7) = ((w * 7 : Nat) : Int) := by rw [show (w : Int) * 7 = ((w * 7 : Nat) : Int) by rw [Int.natCast_mul]; rfl, wrap_nat (by omega)]
  have m1 := makeSlice_one 24 (.slice none 0 0) (n := w * w * 7) h (by omega) (by omega)
  obtain ⟨a1, ha1⟩ : ∃ a1, a1 = h.push (.cells (List.replicate (w * w * 7) (.slice none 0 0)) (some 1)) := ⟨_, rfl⟩
  rw [← ha1] at m1
  have m2 := makeSlice_one 8 (.int .i64 0) (n := w * 7) a1 (by omega) (by omega)
  obtain ⟨a2, ha2⟩ : ∃ a2, a2 = a1.push (.cells (List.replicate (w * 7) (.int .i64 0)) (some 1)) := ⟨_, rfl⟩
  rw [← ha2] at m2
  have b1 : ∀ x y : Value, A.build Z48L [(0, 1, .int .i64 (w : Int)), (1, 1, .int .i64 (m : Int)), (2, 1, .slice (some ⟨h.next, 0, none⟩) (w * w * 7) (2 * (w * w * 7) + 1)), (3, 1, .slice (some ⟨a1.next, 0, none⟩) (w * 7) (2 * (w * 7) + 1))]
      = some (.agg ⟨[.int .i64 (w : Int), .int .i64 (m : Int), .slice (some ⟨h.next, 0, none⟩) (w * w * 7) (2 * (w * w * 7) + 1), .slice (some ⟨a1.next, 0, none⟩) (w * 7) (2 * (w * 7) + 1), .int .i64 0]⟩) := fun _ _ => rfl
  obtain ⟨a3, ha3⟩ : ∃ a3, a3 = a2.push (.cells [.int .i64 (w : Int), .int .i64 (m : Int), .slice (some ⟨h.next, 0, none⟩) (w * w * 7) (2 * (w * w * 7) + 1), .slice (some ⟨a1.next, 0, none⟩) (w * 7) (2 * (w * 7) + 1), .int .i64 0] (some 0)) := ⟨_, rfl⟩
  have bx : A.box 5 (.agg ⟨[.int .i64 (w : Int), .int .i64 (m : Int), .slice (some ⟨h.next, 0, none⟩) (w * w * 7) (2 * (w * w * 7) + 1), .slice (some ⟨a1.next, 0, none⟩) (w * 7) (2 * (w * 7) + 1), .int .i64 0]⟩) a2 = some (ptrV a2.next, a3) := by rw [ha3]; rfl
  have n1 : a1.next = h.next + 1 := by rw [ha1]; rfl
  have n2 : a2.next = a1.next + 1 := by rw [ha2]; rfl
  have n3 : a3.next = a2.next + 1 := by rw [ha3]; rfl
  have x1 : Ext h a1 := ha1 ▸ Ext.push h _
  have x2 : Ext a1 a2 := ha2 ▸ Ext.push a1 _
  have x3 : Ext a2 a3 := ha3 ▸ Ext.push a2 _
  refine ⟨a3, a2.next, h.next, a1.next, List.replicate (w * w * 7) (.slice none 0 0), [a2.next, h.next, a1.next], ?_, ?_, (x1.trans x2).trans x3, fun n hn => by simp at hn; omega⟩
  · have zz1 : Z55L = [.slice none 0 0] := rfl
    have zz2 : Z3L = [.int .i64 0] := rfl
    simp only [F10, p10a, p10al, p10ar, p10arl, p10arll, bin_lss, bnd_some, toBK_bool, bin_gtr, h1, h2, h3, h4, cond_false, p10arlr, condV_bool, p10arr, bin_mul, w1, w2, zz1, m1, bnd2_some, w3, zz2, m2, b1 .nilFunc .nilFunc, bx]
  · have nil : ∀ (i : Nat) v, (List.replicate (w * w * 7) (Value.slice none 0 0))[i]? = some v → v = .slice none 0 0 := fun i v hi => by
      rw [List.getElem?_replicate] at hi
      split at hi
      · exact (Option.some.inj hi).symm
      · cases hi
    refine ⟨hw, hm, by rw [ha3, H.get_push, if_pos rfl]; rfl, by rw [x3.get _ (by omega), x2.get _ (by omega), ha1, H.get_push, if_pos rfl], List.length_replicate .., ?_, fun i v hi => .inl ⟨nil i v hi, rfl⟩, fun _ => Nat.zero_le _, by omega, by omega, by omega, by simp, by simp, by simp,
      fun i v q hi hq => by rw [nil i v hi] at hq; simp [sid] at hq, fun i j u v q hu _ hq _ => by rw [nil i u hu] at hq; simp [sid] at hq, fun n hn => by simp at hn; omega⟩
    rw [x3.get _ (by omega), ha2, H.get_push, if_pos rfl]
    show some (Blk.cells (List.replicate (w * 7) (Value.int .i64 0)) (some 1)) = some (Blk.cells ((List.range (w * 7)).map fun i => Value.int .i64 0) (some 1))
    rw [List.map_const', List.length_range]

/-! Commands of one item, by a number. -/
noncomputable def itm (n : Int) : List Value := .int .u8 1 :: .int .i64 n :: Z71L.drop 2
def Cmd1 (h : H) (v : Value) (n : Int) : Prop := ∃ q c o, v = .slice (some ⟨q, 0, none⟩) 1 c ∧ q < h.next ∧ h.get q = some (.cells (itm n) o)

theorem Cmd1.extBut {S : Nat → Prop} {h h' : H} {v : Value} {n : Int} (c : Cmd1 h v n) (x : ExtBut S h h') (hs : ∀ i, sid v = some i → ¬ S i) : Cmd1 h' v n := by
  obtain ⟨q, c, o, e, hq, hg⟩ := c
  exact ⟨q, c, o, e, Nat.lt_of_lt_of_le hq x.next, by rw [x.get q hq (hs q (by rw [e]; rfl))]; exact hg⟩
theorem Cmd1.len {h : H} {v : Value} {n : Int} (c : Cmd1 h v n) : A.lenS v = some (.int .i64 1) := by
  obtain ⟨q, c, o, rfl, hq, hg⟩ := c; rfl
theorem Cmd1.cells {h : H} {v : Value} {n : Int} (c : Cmd1 h v n) : cellsL v = some [v] := by
  obtain ⟨q, c, o, rfl, hq, hg⟩ := c; rfl
theorem Cmd1.sid_lt {h : H} {v : Value} {n : Int} (c : Cmd1 h v n) : ∀ i, sid v = some i → i < h.next := by
  obtain ⟨q, c, o, rfl, hq, hg⟩ := c
  intro i hi
  simp [sid] at hi; omega

theorem T29 (k : Nat) (h : H) (n : Int) : ∃ v h', callB Try.prog 0 [9] (k + 1) 29 [.int .i64 n] h = some (v, h') ∧ Cmd1 h' v n ∧ Ext h h' := by
  rw [F29eq [9] rfl]
  have b : A.build Z71L [(0, 1, .int .u8 1), (1, 1, .int .i64 n)] = some (.agg ⟨itm n⟩) := rfl
  have bs := buildSlice_one (n := 38) (zs := Z71L) (v := .agg ⟨itm n⟩) (vs := itm n) h rfl rfl rfl
  refine ⟨_, _, ?_, ⟨h.next, 3, some 38, rfl, Nat.lt_succ_self _, by rw [H.get_push, if_pos rfl]⟩, Ext.push h _⟩
  simp only [F29, p29a, b, bnd_some, bs, bnd2_some]

theorem T30f (k : Nat) (h : H) (v : Value) (n : Int) : callB Try.prog 0 [9] (k + 1) 30 [v, .bool false, .int .i64 n] h = some (.bool false, h) := by
  rw [F30eq [9] rfl]
  simp only [F30, p30a, toBK_bool, cond_false]
theorem T30 (k : Nat) {h : H} {v : Value} {a : Int} (c : Cmd1 h v a) (n : Int) : callB Try.prog 0 [9] (k + 1) 30 [v, .bool true, .int .i64 n] h = some (.bool (decide (a = n)), h) := by
  rw [F30eq [9] rfl]
  have hl := c.len
  obtain ⟨q, c, o, rfl, hq, hg⟩ := c
  have ix := idxS_eq 38 q 0 1 c 0 .i64 (by omega)
  have ix' : A.idxS 38 (.slice (some ⟨q, 0, none⟩) 1 c) (.int .i64 0) = some (.pointer (some ⟨q, 0, none⟩)) := ix
  have ld : A.load false 1 (.pointer (some ⟨q, 1, none⟩)) h = some (.int .i64 a) := by rw [load1_eq, hg]; rfl
  simp only [F30, p30a, toBK_bool, cond_true, hl, bnd_some, bin_eql, decide_true, ix', fieldAddr_eq, Nat.zero_add, ld]
end Go.Proofs.Ytdjhkdogpbiglaa.MailD
