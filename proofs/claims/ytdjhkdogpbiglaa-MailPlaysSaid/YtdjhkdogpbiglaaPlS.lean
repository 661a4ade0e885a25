import Derived.Test.YtdjhkdogpbiglaaPlDa
import Derived.Test.YtdjhkdogpbiglaaAmLaw
namespace Go.Proofs.Ytdjhkdogpbiglaa.MailD
open Go Go.AM
/-- A mailbox's commands. -/
def BoxV (h : H) (v : Value) (es : List Value) : Prop :=
  (v = .slice none 0 0 ∧ es = []) ∨ ∃ q c cs, v = .slice (some ⟨q, 0, none⟩) es.length (2 * c) ∧ q < h.next ∧ h.get q = some (.cells cs (some 1)) ∧ cs.length = c ∧ es.length ≤ c ∧ cs.take es.length = es
theorem BoxV.len {h : H} {v : Value} {es : List Value} (b : BoxV h v es) : A.lenS v = some (.int .i64 (es.length : Int)) := by
  rcases b with ⟨rfl, rfl⟩ | ⟨q, c, cs, rfl, _⟩ <;> rfl
theorem BoxV.sid_lt {h : H} {v : Value} {es : List Value} (b : BoxV h v es) : ∀ i, sid v = some i → i < h.next := by
  intro i hi
  rcases b with ⟨rfl, rfl⟩ | ⟨q, c, cs, rfl, hq, _⟩
  · simp [sid] at hi
  · simp [sid] at hi; omega
theorem BoxV.extBut {S : Nat → Prop} {h h' : H} {v : Value} {es : List Value} (b : BoxV h v es) (x : ExtBut S h h') (hs : ∀ i, sid v = some i → ¬ S i) : BoxV h' v es := by
  rcases b with hv | ⟨q, c, cs, e, hq, hg, r⟩
  · exact .inl hv
  · exact .inr ⟨q, c, cs, e, Nat.lt_of_lt_of_le hq x.next, by rw [x.get q hq (hs q (by rw [e]; rfl))]; exact hg, r⟩
theorem BoxV.ext {h h' : H} {v : Value} {es : List Value} (b : BoxV h v es) (x : Ext h h') : BoxV h' v es := b.extBut (S := fun _ => False) x.but (by simp)
theorem BoxV.same {h : H} {v : Value} {es : List Value} (b : BoxV h v es) : AM.same v v = true := by
  rcases b with ⟨rfl, rfl⟩ | ⟨q, c, cs, rfl, _⟩
  · exact same_slice _ _ _ (fun b h => by cases h)
  · exact same_slice _ _ _ (fun b h => by cases h; rfl)
/-- The first one. -/
theorem BoxV.head {h : H} {v e : Value} {es : List Value} (b : BoxV h v (e :: es)) : ∃ q, A.idxS 1 v (.int .i64 0) = some (.pointer (some ⟨q, 0, none⟩)) ∧ A.load false 1 (.pointer (some ⟨q, 0, none⟩)) h = some e := by
  rcases b with ⟨_, h⟩ | ⟨q, c, cs, rfl, hq, hg, hl, hle, ht⟩
  · cases h
  · have ix := idxS_eq 1 q 0 (e :: es).length (2 * c) 0 .i64 (by simp)
    refine ⟨q, ix, ?_⟩
    rw [load1_eq, hg]
    have : (cs.take (e :: es).length)[0]? = some e := by rw [ht]; rfl
    rw [List.getElem?_take, if_pos (by simp)] at this
    exact this
/-- One more. -/
theorem BoxV.push {h : H} {v e x : Value} {es : List Value} {t : Nat} (b : BoxV h v es) (hx : x = .slice (some ⟨t, 0, none⟩) 1 3) (ht : h.get t = some (.cells [e] (some 1))) (hlen : es.length ≤ 70000) :
    ∃ v' h', A.append 1 24 v x h = some (v', h') ∧ BoxV h' v' (es ++ [e]) ∧ ExtBut (fun i => sid v = some i) h h' ∧ (∀ i, sid v' = some i → sid v = some i ∨ h.next ≤ i) := by
  subst hx
  have hel : A.elems 1 (.slice (some ⟨t, 0, none⟩) 1 3) h = some [e] := by
    simp only [A.elems, ht]; rfl
  have hlo : A.lenOf (.slice (some ⟨t, 0, none⟩) 1 3) = 1 := rfl
  rcases b with ⟨rfl, rfl⟩ | ⟨q, c, cs, rfl, hq, hg, hl, hle, htk⟩
  · refine ⟨.slice (some ⟨h.next, 0, none⟩) 1 2, h.push (.cells [e] (some 1)), ?_, .inr ⟨h.next, 1, [e], rfl, Nat.lt_succ_self _, by rw [H.get_push, if_pos rfl], rfl, by simp, rfl⟩, (Ext.push _ _).but, fun i hi => .inr ?_⟩
    · simp only [A.append, hel]; rfl
    · have : h.next = i := by simpa [sid] using hi
      omega
  · by_cases hc : es.length + 1 ≤ c
    · refine ⟨.slice (some ⟨q, 0, none⟩) (es.length + 1) (2 * c), h.put q (.cells (splice cs es.length [e]) (some 1)), ?_, .inr ⟨q, c, splice cs es.length [e], by simp, hq, by rw [H.get_put, if_pos rfl], ?_, by simp; omega, ?_⟩, ExtBut.put ⟨Nat.le_refl _, fun _ _ _ => rfl⟩ q _ rfl, fun i hi => .inl hi⟩
      · simp only [A.append, hel, hlo, hg]
        have e1 : es.length + 1 ≤ 2 * c / 2 := by omega
        simp [hl, hc]
      · rw [splice_length _ _ _ (by simp; omega)]; exact hl
      · rw [splice_one (by omega), List.length_append, List.length_singleton]
        apply List.ext_getElem?
        intro j
        rw [List.getElem?_take, List.getElem?_set, List.getElem?_append]
        by_cases h1 : j < es.length
        · have h2 : ¬ es.length = j := by omega
          have h3 : j < es.length + 1 := by omega
          rw [if_pos h3, if_neg h2, if_pos h1, ← htk, List.getElem?_take, if_pos h1]
        · by_cases h2 : j = es.length
          · subst h2
            rw [if_pos (by omega), if_pos rfl, if_pos (by omega), if_neg (by omega)]
            simp
          · rw [if_neg (by omega), if_neg h1, List.getElem?_eq_none_iff.2 (by simp; omega)]
    · have hce : c = es.length := by omega
      have hcs : cs = es := by rw [← htk, List.take_of_length_le (by omega)]
      subst hcs
      refine ⟨.slice (some ⟨h.next, 0, none⟩) (cs.length + 1) (2 * (cs.length + 1)), (h.kill q).push (.cells (cs ++ [e]) (some 1)), ?_, .inr ⟨h.next, cs.length + 1, cs ++ [e], by simp, by simp, by simp [H.get_push], by simp, by simp, List.take_of_length_le (by simp)⟩, ⟨by simp, fun i hi hs => ?_⟩, fun i hi => .inr ?_⟩
      · simp only [A.append, hel, hlo, hg]
        have e1 : ¬ (cs.length + 1 ≤ 2 * c / 2) := by omega
        have e2 : 2 * c % 2 = 0 := by omega
        have e3 : (cs.length + 1) * 24 ≤ 2 ^ 47 := by omega
        have e4 : cs.length + 1 ≤ 2 ^ 47 := by omega
        simp [e2, e3, e4]
        omega
      · rw [H.get_push, H.get_kill, next_kill', if_neg (by omega), if_neg (fun e => hs (by rw [e]; rfl))]
      · have : h.next = i := by simpa [sid] using hi
        omega
/-- The first one is taken out. -/
theorem T35 (k : Nat) {h : H} {v e : Value} {es : List Value} (b : BoxV h v (e :: es)) : ∃ v' h', callB Try.prog 0 [9] (k + 1) 35 [v, .int .i64 0, .int .i64 1] h = some (v', h') ∧ BoxV h' v' es ∧ ExtBut (fun i => sid v = some i) h h' ∧ sid v' = sid v ∧ h'.next = h.next := by
  rw [F35eq [9] rfl]
  rcases b with ⟨_, h⟩ | ⟨q, c, cs, rfl, hq, hg, hl, hle, htk⟩
  · cases h
  have hcs : (cs.drop 1).take es.length = es := by
    have := congrArg (List.drop 1) htk
    rw [List.drop_take] at this
    simpa using this
  simp only [List.length_cons] at hle
  have e0 : ((es.length + 1 : Nat) : Int) = Int.ofNat (es.length + 1) := rfl
  have e0' : ((es.length : Nat) : Int) = Int.ofNat es.length := rfl
  have e1 : (0 : Int) = Int.ofNat 0 := rfl
  have e2 : (1 : Int) = Int.ofNat 1 := rfl
  have c1 : 2 * c / 2 = c := by omega
  have c2 : Nat.beq (2 * c % 2) 1 = false := by rw [beq_dec', decide_eq_false_iff_not]; omega
  have a1 : A.sliceS 1 (.slice (some ⟨q, 0, none⟩) (es.length + 1) (2 * c)) (some (.int .i64 0)) (some (.int .i64 1)) (some (.int .i64 ((es.length + 1 : Nat) : Int))) h = some (.slice (some ⟨q, 0, none⟩) 1 (2 * (es.length + 1) + 1)) := by
    rw [e0, e1, e2]
    simp [A.sliceS, A.bound, c1, hle]
  have a2 : A.sliceS 1 (.slice (some ⟨q, 0, none⟩) (es.length + 1) (2 * c)) none (some (.int .i64 0)) none h = some (.slice (some ⟨q, 0, none⟩) 0 (2 * c)) := by
    rw [e1]
    simp [A.sliceS, A.bound]
  have hok : ∀ (g : H) (ds : List Value), g.get q = some (.cells ds (some 1)) → A.esOK 1 q g = true := fun g ds hg => by simp [A.esOK, hg]
  have a3 : A.sliceS 1 (.slice (some ⟨q, 0, none⟩) (es.length + 1) (2 * c)) (some (.int .i64 1)) none none h = some (.slice (some ⟨q, 1, none⟩) es.length (2 * c - 2)) := by
    rw [e2]
    simp [A.sliceS, A.bound, hok h cs hg]
  obtain ⟨h1, a4, g1, x1, n1⟩ : ∃ h1, A.append 1 24 (.slice (some ⟨q, 0, none⟩) 0 (2 * c)) (.slice (some ⟨q, 1, none⟩) es.length (2 * c - 2)) h = some (.slice (some ⟨q, 0, none⟩) es.length (2 * c), h1) ∧ h1.get q = some (.cells (es ++ cs.drop es.length) (some 1)) ∧ ExtBut (fun i => i = q) h h1 ∧ h1.next = h.next := by
    by_cases hz : es.length = 0
    · obtain rfl : es = [] := List.length_eq_zero_iff.1 hz
      exact ⟨h, rfl, by rw [hg]; rfl, ⟨Nat.le_refl _, fun _ _ _ => rfl⟩, rfl⟩
    · have hel : A.elems 1 (.slice (some ⟨q, 1, none⟩) es.length (2 * c - 2)) h = some es := by
        have z1 : Nat.beq es.length 0 = false := by rw [beq_dec', decide_eq_false_iff_not]; exact hz
        have z2 : Nat.ble (1 + es.length) cs.length = true := by rw [ble_dec, decide_eq_true_iff]; omega
        simp only [A.elems, z1, cond_false, hg, Nat.mul_one, z2, cond_true, hcs]
      have hsp : splice cs (0 * 1) es = es ++ cs.drop es.length := by simp [splice]
      refine ⟨h.put q (.cells (es ++ cs.drop es.length) (some 1)), ?_, by rw [H.get_put, if_pos rfl], ExtBut.put ⟨Nat.le_refl _, fun _ _ _ => rfl⟩ q _ rfl, rfl⟩
      have z1 : Nat.beq es.length 0 = false := by rw [beq_dec', decide_eq_false_iff_not]; exact hz
      have z3 : Nat.ble es.length (2 * c / 2) = true := by rw [ble_dec, decide_eq_true_iff]; omega
      have z4 : Nat.ble (es.length * 1) cs.length = true := by rw [ble_dec, decide_eq_true_iff]; omega
      have hlo : A.lenOf (.slice (some ⟨q, 1, none⟩) es.length (2 * c - 2)) = es.length := rfl
      simp only [A.append, hel, hlo, z1, cond_false, hg, z3, cond_true, z4, hsp, Nat.zero_add]
  have hlX : (es ++ cs.drop es.length).length = c := by simp; omega
  have a5 : A.sliceS 1 (.slice (some ⟨q, 0, none⟩) es.length (2 * c)) (some (.int .i64 (es.length : Int))) (some (.int .i64 ((es.length + 1 : Nat) : Int))) none h1 = some (.slice (some ⟨q, es.length, none⟩) 1 (2 * c - 2 * es.length)) := by
    rw [e0, e0']
    simp [A.sliceS, A.bound, c1, hle, hok h1 _ g1]
  obtain ⟨h2, hh2⟩ : ∃ h2, h2 = h1.put q (.cells (splice (es ++ cs.drop es.length) es.length [.slice none 0 0]) (some 1)) := ⟨_, rfl⟩
  have a6 : A.clear 1 Z29L (.slice (some ⟨q, es.length, none⟩) 1 (2 * c - 2 * es.length)) h1 = some h2 := by
    have z4 : Nat.ble (es.length + 1 * 1) (es ++ cs.drop es.length).length = true := by rw [ble_dec, decide_eq_true_iff, hlX]; omega
    have z0 : Nat.beq 1 0 = false := rfl
    have zz : A.zeros Z29L 1 = [.slice none 0 0] := rfl
    simp only [A.clear, z0, cond_false, g1, z4, cond_true, zz]
    rw [hh2]
  refine ⟨.slice (some ⟨q, 0, none⟩) es.length (2 * c), h2, ?_, .inr ⟨q, c, _, rfl, by rw [hh2]; show q < h1.next; omega, by rw [hh2, H.get_put, if_pos rfl], ?_, by omega, ?_⟩, ?_, rfl, by rw [hh2]; exact n1⟩
  · have l1 : A.lenS (.slice (some ⟨q, 0, none⟩) (es.length + 1) (2 * c)) = some (.int .i64 ((es.length + 1 : Nat) : Int)) := rfl
    have l2 : A.lenS (.slice (some ⟨q, 0, none⟩) es.length (2 * c)) = some (.int .i64 (es.length : Int)) := rfl
    have hd : decide ((0 : Int) = 1) = false := rfl
    simp only [F35, p35a, p35al, p35ar, p35arl, List.length_cons, l1, bnd_some, a1, p35arr, p35arrl, bin_eql, hd, toBK_bool, cond_false, p35arrr, a2, a3, a4, bnd2_some, l2, a5, a6]
  · rw [splice_length _ _ _ (by rw [hlX]; simp; omega)]; exact hlX
  · rw [splice_one (by rw [hlX]; omega)]
    apply List.ext_getElem?
    intro j
    rw [List.getElem?_take]
    by_cases hj : j < es.length
    · rw [if_pos hj, List.getElem?_set, if_neg (by omega), List.getElem?_append, if_pos hj]
    · rw [if_neg hj, List.getElem?_eq_none_iff.2 (by omega)]
  · rw [hh2]
    exact ExtBut.put ⟨by omega, fun i hi hs => x1.get i hi (fun e => hs (by rw [e]; rfl))⟩ q _ rfl
end Go.Proofs.Ytdjhkdogpbiglaa.MailD

namespace Go.Proofs.Ytdjhkdogpbiglaa.MailD
open Go Go.AM
theorem mul64 {a b : Nat} (ha : a ≤ 64) (hb : b ≤ 64) : a * b ≤ 4096 := Nat.mul_le_mul ha hb
/-- What a grid is: its workers, its bound, each mailbox's commands, how many of each worker and lane are full, how many commands there are. -/
structure St where
  w : Nat
  m : Nat
  bx : Nat → List Value
  fu : Nat → Int
  cnt : Int
structure GridR (h : H) (g B F : Nat) (bs : List Value) (os : List Nat) (s : St) : Prop where
  hw : 1 ≤ s.w ∧ s.w ≤ 64
  hm : 1 ≤ s.m ∧ s.m ≤ 64
  hg : h.get g = some (.cells [.int .i64 (s.w : Int), .int .i64 (s.m : Int), .slice (some ⟨B, 0, none⟩) (s.w * s.w * 7) (2 * (s.w * s.w * 7) + 1), .slice (some ⟨F, 0, none⟩) (s.w * 7) (2 * (s.w * 7) + 1), .int .i64 s.cnt] (some 0))
  hB : h.get B = some (.cells bs (some 1))
  lB : bs.length = s.w * s.w * 7
  hF : h.get F = some (.cells ((List.range (s.w * 7)).map fun i => .int .i64 (s.fu i)) (some 1))
  bv : ∀ i v, bs[i]? = some v → BoxV h v (s.bx i)
  lm : ∀ i, (s.bx i).length ≤ s.m
  n1 : g ≠ B
  n2 : g ≠ F
  n3 : B ≠ F
  og : g ∈ os
  oB : B ∈ os
  oF : F ∈ os
  ob : ∀ (i : Nat) v q, bs[i]? = some v → sid v = some q → q ∈ os ∧ q ≠ g ∧ q ≠ B ∧ q ≠ F
  oi : ∀ (i j : Nat) u v q, bs[i]? = some u → bs[j]? = some v → sid u = some q → sid v = some q → i = j
  on : ∀ n ∈ os, n < h.next
theorem GridR.extBut {S : Nat → Prop} {h h' : H} {g B F : Nat} {bs : List Value} {os : List Nat} {s : St} (r : GridR h g B F bs os s) (x : ExtBut S h h') (hs : ∀ n ∈ os, ¬ S n) : GridR h' g B F bs os s :=
  { r with
    hg := by rw [x.get g (r.on g r.og) (hs g r.og)]; exact r.hg
    hB := by rw [x.get B (r.on B r.oB) (hs B r.oB)]; exact r.hB
    hF := by rw [x.get F (r.on F r.oF) (hs F r.oF)]; exact r.hF
    bv := fun i v hi => (r.bv i v hi).extBut x fun q hq => hs q (r.ob i v q hi hq).1
    on := fun n hn => Nat.lt_of_lt_of_le (r.on n hn) x.next }
theorem GridR.ext {h h' : H} {g B F : Nat} {bs : List Value} {os : List Nat} {s : St} (r : GridR h g B F bs os s) (x : Ext h h') : GridR h' g B F bs os s := r.extBut (S := fun _ => False) x.but (by simp)
theorem GridR.load {h : H} {g B F : Nat} {bs : List Value} {os : List Nat} {s : St} (r : GridR h g B F bs os s) :
    A.load false 1 (.pointer (some ⟨g, 0, none⟩)) h = some (.int .i64 (s.w : Int)) ∧ A.load false 1 (.pointer (some ⟨g, 1, none⟩)) h = some (.int .i64 (s.m : Int)) ∧
    A.load false 1 (.pointer (some ⟨g, 2, none⟩)) h = some (.slice (some ⟨B, 0, none⟩) (s.w * s.w * 7) (2 * (s.w * s.w * 7) + 1)) ∧
    A.load false 1 (.pointer (some ⟨g, 3, none⟩)) h = some (.slice (some ⟨F, 0, none⟩) (s.w * 7) (2 * (s.w * 7) + 1)) ∧ A.load false 1 (.pointer (some ⟨g, 4, none⟩)) h = some (.int .i64 s.cnt) := by
  refine ⟨?_, ?_, ?_, ?_, ?_⟩ <;> · rw [load1_eq, r.hg]; rfl
theorem GridR.box {h : H} {g B F : Nat} {bs : List Value} {os : List Nat} {s : St} (r : GridR h g B F bs os s) {i : Nat} (hi : i < s.w * s.w * 7) :
    ∃ v, bs[i]? = some v ∧ BoxV h v (s.bx i) ∧ A.idxS 1 (.slice (some ⟨B, 0, none⟩) (s.w * s.w * 7) (2 * (s.w * s.w * 7) + 1)) (.int .i64 (i : Int)) = some (.pointer (some ⟨B, i, none⟩)) ∧ A.load false 1 (.pointer (some ⟨B, i, none⟩)) h = some v := by
  have hib : i < bs.length := by rw [r.lB]; exact hi
  have hv : bs[i]? = some bs[i] := List.getElem?_eq_getElem hib
  have ix := idxS_eq 1 B 0 (s.w * s.w * 7) (2 * (s.w * s.w * 7) + 1) i .i64 hi
  rw [Nat.zero_add, Nat.mul_one] at ix
  exact ⟨bs[i], hv, r.bv i _ hv, ix, by rw [load1_eq, r.hB]; exact hv⟩
theorem GridR.full {h : H} {g B F : Nat} {bs : List Value} {os : List Nat} {s : St} (r : GridR h g B F bs os s) {i : Nat} (hi : i < s.w * 7) :
    A.idxS 1 (.slice (some ⟨F, 0, none⟩) (s.w * 7) (2 * (s.w * 7) + 1)) (.int .i64 (i : Int)) = some (.pointer (some ⟨F, i, none⟩)) ∧ A.load false 1 (.pointer (some ⟨F, i, none⟩)) h = some (.int .i64 (s.fu i)) := by
  have ix := idxS_eq 1 F 0 (s.w * 7) (2 * (s.w * 7) + 1) i .i64 hi
  rw [Nat.zero_add, Nat.mul_one] at ix
  refine ⟨ix, ?_⟩
  rw [load1_eq, r.hF]
  simp [List.getElem?_range hi]
theorem range_set (f : Nat → Value) (n i : Nat) (v : Value) : ((List.range n).map f).set i v = (List.range n).map fun j => if j = i then v else f j := by
  apply List.ext_getElem?
  intro j
  rw [List.getElem?_set, List.getElem?_map, List.getElem?_map]
  by_cases hj : j < n
  · rw [List.getElem?_range hj]
    by_cases e : i = j
    · subst e; simp [hj]
    · simp [e, Ne.symm e]
  · have : (List.range n)[j]? = none := List.getElem?_eq_none_iff.2 (by simp; omega)
    rw [this]
    by_cases e : i = j
    · subst e; simp [hj]
    · simp [e]
/-- A mailbox is changed. -/
theorem GridR.setBox {h h1 : H} {g B F : Nat} {bs : List Value} {os : List Nat} {s : St} (r : GridR h g B F bs os s) {i : Nat} {v v' : Value} {es : List Value} (hv : bs[i]? = some v) (b : BoxV h1 v' es) (hes : es.length ≤ s.m)
    (x : ExtBut (fun n => sid v = some n) h h1) (hs : ∀ n, sid v' = some n → sid v = some n ∨ h.next ≤ n) :
    A.store 1 (.pointer (some ⟨B, i, none⟩)) v' h1 = some (h1.put B (.cells (bs.set i v') (some 1))) ∧
    ∃ os', GridR (h1.put B (.cells (bs.set i v') (some 1))) g B F (bs.set i v') os' { s with bx := fun j => if j = i then es else s.bx j } ∧ (∀ n ∈ os', n ∈ os ∨ h.next ≤ n) ∧ ExtBut (· ∈ os) h (h1.put B (.cells (bs.set i v') (some 1))) := by
  have hi : i < bs.length := (List.getElem?_eq_some_iff.1 hv).1
  have hne : ∀ n ∈ os, (∀ q, sid v = some q → n ≠ q) → ¬ sid v = some n := fun n _ h1 h2 => h1 n h2 rfl
  have ho := r.ob i v
  have gB : h1.get B = some (.cells bs (some 1)) := by rw [x.get B (r.on B r.oB) (fun e => (ho B hv e).2.2.1 rfl)]; exact r.hB
  have y : ExtBut (· ∈ os) h (h1.put B (.cells (bs.set i v') (some 1))) := by
    refine ExtBut.put ⟨x.next, fun n hn hno => x.get n hn (fun e => hno (ho n hv e).1)⟩ B _ r.oB
  refine ⟨?_, ?_⟩
  · rw [store_eq, gB]
    have hc : cellsL v' = some [v'] := by rcases b with ⟨rfl, _⟩ | ⟨q, c, cs, rfl, _⟩ <;> rfl
    simp [hc, splice_one hi]; omega
  have key : ∀ q, sid v' = some q → q ≠ g ∧ q ≠ B ∧ q ≠ F ∧ q < h1.next := fun q hq => by
    have hl := b.sid_lt q hq
    rcases hs q hq with e | e
    · have := ho q hv e; exact ⟨this.2.1, this.2.2.1, this.2.2.2, hl⟩
    · have a := r.on g r.og; have b' := r.on B r.oB; have c := r.on F r.oF
      exact ⟨by omega, by omega, by omega, hl⟩
  have kj : ∀ (j : Nat) u q, j ≠ i → bs[j]? = some u → sid u = some q → sid v' ≠ some q := fun j u q hj hu hq hq' => by
    rcases hs q hq' with e | e
    · exact hj (r.oi j i u v q hu hv hq e)
    · have := r.on q (r.ob j u q hu hq).1; omega
  refine ⟨(match sid v' with | some q => q :: os | none => os), ?_, ?_, y⟩
  · have hsub : ∀ n ∈ os, n ∈ (match sid v' with | some q => q :: os | none => os) := fun n hn => by
      split
      · exact List.mem_cons_of_mem _ hn
      · exact hn
    have hin : ∀ q, sid v' = some q → q ∈ (match sid v' with | some q => q :: os | none => os) := fun q hq => by rw [hq]; exact List.mem_cons_self ..
    have gg : (h1.put B (.cells (bs.set i v') (some 1))).get g = h.get g := by rw [H.get_put, if_neg r.n1, x.get g (r.on g r.og) (fun e => (ho g hv e).2.1 rfl)]
    have gF : (h1.put B (.cells (bs.set i v') (some 1))).get F = h.get F := by rw [H.get_put, if_neg (Ne.symm r.n3), x.get F (r.on F r.oF) (fun e => (ho F hv e).2.2.2 rfl)]
    refine ⟨r.hw, r.hm, by rw [gg]; exact r.hg, by rw [H.get_put, if_pos rfl], by rw [List.length_set]; exact r.lB, by rw [gF]; exact r.hF, fun j u hu => ?_, fun j => ?_, r.n1, r.n2, r.n3, hsub _ r.og, hsub _ r.oB, hsub _ r.oF, fun j u q hu hq => ?_, fun j k u u' q hu hu' hq hq' => ?_, fun n hn => ?_⟩
    · rw [List.getElem?_set] at hu
      by_cases e : i = j
      · subst e
        rw [if_pos rfl, if_pos hi] at hu
        obtain rfl := Option.some.inj hu
        simp only [if_true]
        exact b.extBut (S := fun n => n = B) (ExtBut.put ⟨Nat.le_refl _, fun _ _ _ => rfl⟩ B _ rfl) fun q hq => (key q hq).2.1
      · rw [if_neg e] at hu
        simp only [if_neg (Ne.symm e)]
        have b1 : BoxV h1 u (s.bx j) := (r.bv j u hu).extBut x fun q hq hq' => e (r.oi i j v u q hv hu hq' hq)
        exact b1.extBut (S := fun n => n = B) (ExtBut.put ⟨Nat.le_refl _, fun _ _ _ => rfl⟩ B _ rfl) fun q hq => (r.ob j u q hu hq).2.2.1
    · show (if j = i then es else s.bx j).length ≤ s.m
      split
      · exact hes
      · exact r.lm j
    · rw [List.getElem?_set] at hu
      by_cases e : i = j
      · subst e
        rw [if_pos rfl, if_pos hi] at hu
        obtain rfl := Option.some.inj hu
        have := key q hq
        exact ⟨hin q hq, this.1, this.2.1, this.2.2.1⟩
      · rw [if_neg e] at hu
        have := r.ob j u q hu hq
        exact ⟨hsub _ this.1, this.2⟩
    · rw [List.getElem?_set] at hu hu'
      by_cases e : i = j
      · by_cases e' : i = k
        · omega
        · subst e
          rw [if_pos rfl, if_pos hi] at hu
          obtain rfl := Option.some.inj hu
          rw [if_neg e'] at hu'
          exact absurd hq (kj k u' q (Ne.symm e') hu' hq')
      · by_cases e' : i = k
        · subst e'
          rw [if_pos rfl, if_pos hi] at hu'
          obtain rfl := Option.some.inj hu'
          rw [if_neg e] at hu
          exact absurd hq' (kj j u q (Ne.symm e) hu hq)
        · rw [if_neg e] at hu
          rw [if_neg e'] at hu'
          exact r.oi j k u u' q hu hu' hq hq'
    · have hx := x.next
      show n < h1.next
      cases hv' : sid v' with
      | none =>
        rw [hv'] at hn
        have := r.on n hn; omega
      | some q =>
        rw [hv'] at hn
        rcases List.mem_cons.1 hn with rfl | hn
        · exact (key n hv').2.2.2
        · have := r.on n hn; omega
  · intro n hn
    cases hv' : sid v' with
    | none => rw [hv'] at hn; exact .inl hn
    | some q =>
      rw [hv'] at hn
      rcases List.mem_cons.1 hn with rfl | hn
      · rcases hs n hv' with e | e
        · exact .inl (ho n hv e).1
        · exact .inr e
      · exact .inl hn
/-- The count is changed. -/
theorem GridR.setCnt {h : H} {g B F : Nat} {bs : List Value} {os : List Nat} {s : St} (r : GridR h g B F bs os s) (c : Int) :
    ∃ h', A.store 1 (.pointer (some ⟨g, 4, none⟩)) (.int .i64 c) h = some h' ∧ GridR h' g B F bs os { s with cnt := c } ∧ ExtBut (· ∈ os) h h' ∧ h'.next = h.next := by
  refine ⟨h.put g (.cells [.int .i64 (s.w : Int), .int .i64 (s.m : Int), .slice (some ⟨B, 0, none⟩) (s.w * s.w * 7) (2 * (s.w * s.w * 7) + 1), .slice (some ⟨F, 0, none⟩) (s.w * 7) (2 * (s.w * 7) + 1), .int .i64 c] (some 0)), by rw [store_eq, r.hg]; rfl, ?_, ExtBut.put ⟨Nat.le_refl _, fun _ _ _ => rfl⟩ g _ r.og, rfl⟩
  exact { r with
    hg := by rw [H.get_put, if_pos rfl]
    hB := by rw [H.get_put, if_neg (Ne.symm r.n1)]; exact r.hB
    hF := by rw [H.get_put, if_neg (Ne.symm r.n2)]; exact r.hF
    bv := fun i v hi => (r.bv i v hi).extBut (S := fun n => n = g) (ExtBut.put ⟨Nat.le_refl _, fun _ _ _ => rfl⟩ g _ rfl) fun q hq => (r.ob i v q hi hq).2.1 }
/-- How many are full is changed. -/
theorem GridR.setFull {h : H} {g B F : Nat} {bs : List Value} {os : List Nat} {s : St} (r : GridR h g B F bs os s) {i : Nat} (hi : i < s.w * 7) (c : Int) :
    ∃ h', A.store 1 (.pointer (some ⟨F, i, none⟩)) (.int .i64 c) h = some h' ∧ GridR h' g B F bs os { s with fu := fun j => if j = i then c else s.fu j } ∧ ExtBut (· ∈ os) h h' ∧ h'.next = h.next := by
  have e : splice ((List.range (s.w * 7)).map fun i => Value.int .i64 (s.fu i)) i [.int .i64 c] = (List.range (s.w * 7)).map fun j => .int .i64 (if j = i then c else s.fu j) := by
    rw [splice_one (by simpa using hi), range_set]
    apply List.map_congr_left
    intro j _
    split <;> rfl
  refine ⟨h.put F (.cells ((List.range (s.w * 7)).map fun j => .int .i64 (if j = i then c else s.fu j)) (some 1)), ?_, ?_, ExtBut.put ⟨Nat.le_refl _, fun _ _ _ => rfl⟩ F _ r.oF, rfl⟩
  · rw [store_eq, r.hF]
    have : i + 1 ≤ s.w * 7 := hi
    simp [e, this]
  · exact { r with
      hg := by rw [H.get_put, if_neg r.n2]; exact r.hg
      hB := by rw [H.get_put, if_neg r.n3]; exact r.hB
      hF := by rw [H.get_put, if_pos rfl]
      bv := fun i v hi => (r.bv i v hi).extBut (S := fun n => n = F) (ExtBut.put ⟨Nat.le_refl _, fun _ _ _ => rfl⟩ F _ rfl) fun q hq => (r.ob i v q hi hq).2.2.2 }
end Go.Proofs.Ytdjhkdogpbiglaa.MailD

namespace Go.Proofs.Ytdjhkdogpbiglaa.MailD
open Go Go.AM
abbrev ptrV (p : Nat) : Value := .pointer (some ⟨p, 0, none⟩)
/-- Is that a mailbox? -/
def Ok (w : Nat) (f t l : Int) : Prop := 0 ≤ f ∧ f < w ∧ 0 ≤ t ∧ t < w ∧ 1 ≤ l ∧ l ≤ 7
instance (w : Nat) (f t l : Int) : Decidable (Ok w f t l) := by unfold Ok; infer_instance
def pl (w f t l : Nat) : Nat := (f * w + t) * 7 + l - 1
theorem pl_lt {w f t l : Nat} (hf : f < w) (ht : t < w) (hl : 1 ≤ l) (hl' : l ≤ 7) : pl w f t l < w * w * 7 := by
  have h1 : f * w + w ≤ w * w := by have := Nat.mul_le_mul_right w (show f + 1 ≤ w from hf); rwa [Nat.succ_mul] at this
  unfold pl; omega
theorem pl_inj {w f t l f' t' l' : Nat} (ht : t < w) (hl : 1 ≤ l) (hl' : l ≤ 7) (ht2 : t' < w) (hl2 : 1 ≤ l') (hl2' : l' ≤ 7) (e : pl w f t l = pl w f' t' l') : f = f' ∧ t = t' ∧ l = l' := by
  unfold pl at e
  have h1 : f * w + t = f' * w + t' := by omega
  have h2 : l = l' := by omega
  have hw : 0 < w := by omega
  have h3 : f = f' := by
    have e1 : (f * w + t) / w = f := by rw [Nat.mul_comm, Nat.mul_add_div hw, Nat.div_eq_of_lt ht]; rfl
    have e2 : (f' * w + t') / w = f' := by rw [Nat.mul_comm, Nat.mul_add_div hw, Nat.div_eq_of_lt ht2]; rfl
    rw [← e1, h1, e2]
  subst h3
  exact ⟨rfl, by omega, h2⟩
section
variable {h : H} {g B F : Nat} {bs : List Value} {os : List Nat} {s : St}
theorem T34n (k : Nat) (r : GridR h g B F bs os s) {f t l : Int} (ho : ¬ Ok s.w f t l) : callB Try.prog 0 [9] (k + 1) 34 [ptrV g, .int .i64 f, .int .i64 t, .int .i64 l] h = some (.int .i64 (-1), h) := by
  rw [F34eq [9] rfl]
  obtain ⟨lw, _⟩ := r.load
  simp only [F34, p34a, p34al, p34ar, p34arl, p34arll, bin_ptr_nil Try.underlying25, bnd_some, toBK_bool, cond_false, bin_lss, nilCheck_eq, fieldAddr_eq, Nat.zero_add, lw, bin_geq, bin_gtr]
  unfold Ok at ho
  by_cases h1 : f < 0
  · simp [h1, p34arlr]
  by_cases h2 : (s.w : Int) ≤ f
  · simp [h1, h2, p34arlr]
  by_cases h3 : t < 0
  · simp [h1, h2, h3, p34arlr]
  by_cases h4 : (s.w : Int) ≤ t
  · simp [h1, h2, h3, h4, p34arlr]
  by_cases h5 : l < 1
  · simp [h1, h2, h3, h4, h5, p34arlr]
  have h6 : (7 : Int) < l := by omega
  simp [h1, h2, h3, h4, h5, h6, p34arlr]
theorem T34 (k : Nat) (r : GridR h g B F bs os s) {f t l : Nat} (hf : f < s.w) (ht : t < s.w) (hl : 1 ≤ l) (hl' : l ≤ 7) : callB Try.prog 0 [9] (k + 1) 34 [ptrV g, .int .i64 (f : Int), .int .i64 (t : Int), .int .i64 (l : Int)] h = some (.int .i64 (pl s.w f t l : Int), h) := by
  rw [F34eq [9] rfl]
  obtain ⟨lw, _⟩ := r.load
  have h1 : decide ((f : Int) < 0) = false := by rw [decide_eq_false_iff_not]; omega
  have h2 : decide ((s.w : Int) ≤ (f : Int)) = false := by rw [decide_eq_false_iff_not]; omega
  have h3 : decide ((t : Int) < 0) = false := by rw [decide_eq_false_iff_not]; omega
  have h4 : decide ((s.w : Int) ≤ (t : Int)) = false := by rw [decide_eq_false_iff_not]; omega
  have h5 : decide ((l : Int) < 1) = false := by rw [decide_eq_false_iff_not]; omega
  have h6 : decide ((7 : Int) < (l : Int)) = false := by rw [decide_eq_false_iff_not]; omega
  have hm := mul64 (show f ≤ 64 by have := r.hw; omega) r.hw.2
  have w1 : IntKind.i64.wrap ((f : Int) * (s.w : Int)) = ((f * s.w : Nat) : Int) := by rw [← Int.natCast_mul, wrap_nat (by omega)]
  have w2 : IntKind.i64.wrap (((f * s.w : Nat) : Int) + (t : Int)) = ((f * s.w + t : Nat) : Int) := by rw [← Int.natCast_add, wrap_nat (by have := r.hw; omega)]
  have w3 : IntKind.i64.wrap (((f * s.w + t : Nat) : Int) * 7) = (((f * s.w + t) * 7 : Nat) : Int) := by
    rw [show ((f * s.w + t : Nat) : Int) * 7 = (((f * s.w + t) * 7 : Nat) : Int) by rw [Int.natCast_mul]; rfl, wrap_nat (by have := r.hw; omega)]
  have w4 : IntKind.i64.wrap ((((f * s.w + t) * 7 : Nat) : Int) + (l : Int)) = (((f * s.w + t) * 7 + l : Nat) : Int) := by rw [← Int.natCast_add, wrap_nat (by have := r.hw; omega)]
  have w5 : IntKind.i64.wrap ((((f * s.w + t) * 7 + l : Nat) : Int) - 1) = (pl s.w f t l : Int) := by
    rw [show (((f * s.w + t) * 7 + l : Nat) : Int) - 1 = (pl s.w f t l : Int) by unfold pl; omega, wrap_nat (by unfold pl; have := r.hw; omega)]
  simp only [F34, p34a, p34al, p34ar, p34arl, p34arll, bin_ptr_nil Try.underlying25, bnd_some, toBK_bool, cond_false, bin_lss, nilCheck_eq, fieldAddr_eq, Nat.zero_add, lw, bin_geq, bin_gtr, h1, h2, h3, h4, h5, h6, p34arlr, condV_bool, p34arr, bin_mul, w1, bin_add, w2, w3, w4, bin_sub, w5]
theorem T23n (k : Nat) (r : GridR h g B F bs os s) {f t l : Int} (ho : ¬ Ok s.w f t l) : callB Try.prog 0 [9] (k + 2) 23 [ptrV g, .int .i64 f, .int .i64 t, .int .i64 l] h = some (.int .i64 0, h) := by
  rw [F23eq [9] rfl]
  have hd : decide ((-1 : Int) < 0) = true := rfl
  simp only [F23, p23a, T34n k r ho, bnd2_some, bin_lss, hd, bnd_some, toBK_bool, cond_true]
theorem T23 (k : Nat) (r : GridR h g B F bs os s) {f t l : Nat} (hf : f < s.w) (ht : t < s.w) (hl : 1 ≤ l) (hl' : l ≤ 7) :
    callB Try.prog 0 [9] (k + 2) 23 [ptrV g, .int .i64 (f : Int), .int .i64 (t : Int), .int .i64 (l : Int)] h = some (.int .i64 ((s.bx (pl s.w f t l)).length : Int), h) := by
  rw [F23eq [9] rfl]
  obtain ⟨_, _, lB, _, _⟩ := r.load
  obtain ⟨v, _, bv, ix, ld⟩ := r.box (pl_lt hf ht hl hl')
  have hd : decide ((pl s.w f t l : Int) < 0) = false := by rw [decide_eq_false_iff_not]; omega
  simp only [F23, p23a, T34 k r hf ht hl hl', bnd2_some, bin_lss, hd, bnd_some, toBK_bool, cond_false, nilCheck_eq, fieldAddr_eq, Nat.zero_add, lB, ix, ld, bv.len]
theorem T25 (k : Nat) (r : GridR h g B F bs os s) : callB Try.prog 0 [9] (k + 1) 25 [ptrV g] h = some (.int .i64 s.cnt, h) := by
  rw [F25eq [9] rfl]
  obtain ⟨_, _, _, _, lc⟩ := r.load
  simp only [F25, p25a, bin_ptr_nil Try.underlying25, bnd_some, toBK_bool, cond_false, nilCheck_eq, fieldAddr_eq, Nat.zero_add, lc]
theorem T27 (k : Nat) (r : GridR h g B F bs os s) : callB Try.prog 0 [9] (k + 2) 27 [ptrV g] h = some (.bool (decide (s.cnt = 0)), h) := by
  rw [F27eq [9] rfl]
  simp only [F27, p27a, T25 k r, bnd2_some, bin_eql, bnd_some, toBK_bool]
theorem T14n (k : Nat) (r : GridR h g B F bs os s) {f t l : Int} (ho : ¬ Ok s.w f t l) : callB Try.prog 0 [9] (k + 2) 14 [ptrV g, .int .i64 f, .int .i64 t, .int .i64 l] h = some (.tuple ⟨[.slice none 0 0, .bool false]⟩, h) := by
  rw [F14eq [9] rfl]
  have hd : decide ((-1 : Int) < 0) = true := rfl
  simp only [F14, p14a, T34n k r ho, bnd2_some, bin_lss, hd, bnd_some, toBK_bool, cond_true]
theorem T14e (k : Nat) (r : GridR h g B F bs os s) {f t l : Nat} (hf : f < s.w) (ht : t < s.w) (hl : 1 ≤ l) (hl' : l ≤ 7) (he : s.bx (pl s.w f t l) = []) :
    callB Try.prog 0 [9] (k + 2) 14 [ptrV g, .int .i64 (f : Int), .int .i64 (t : Int), .int .i64 (l : Int)] h = some (.tuple ⟨[.slice none 0 0, .bool false]⟩, h) := by
  rw [F14eq [9] rfl]
  obtain ⟨_, _, lB, _, _⟩ := r.load
  obtain ⟨v, _, bv, ix, ld⟩ := r.box (pl_lt hf ht hl hl')
  have hd : decide ((pl s.w f t l : Int) < 0) = false := by rw [decide_eq_false_iff_not]; omega
  have hz : decide ((((s.bx (pl s.w f t l)).length : Nat) : Int) = 0) = true := by rw [he]; rfl
  simp only [F14, p14a, T34 k r hf ht hl hl', bnd2_some, bin_lss, hd, bnd_some, toBK_bool, cond_false, nilCheck_eq, fieldAddr_eq, Nat.zero_add, lB, ix, ld, bv.len, bin_eql, hz, cond_true]
theorem T14 (k : Nat) (r : GridR h g B F bs os s) {f t l : Nat} (hf : f < s.w) (ht : t < s.w) (hl : 1 ≤ l) (hl' : l ≤ 7) {c : Value} {cs : List Value} (he : s.bx (pl s.w f t l) = c :: cs) {c' : Value} {h' : H} (hc : callB Try.prog 0 [9] (k + 1) 32 [c] h = some (c', h')) :
    callB Try.prog 0 [9] (k + 2) 14 [ptrV g, .int .i64 (f : Int), .int .i64 (t : Int), .int .i64 (l : Int)] h = some (.tuple ⟨[c', .bool true]⟩, h') := by
  rw [F14eq [9] rfl]
  obtain ⟨_, _, lB, _, _⟩ := r.load
  obtain ⟨v, _, bv, ix, ld⟩ := r.box (pl_lt hf ht hl hl')
  have hd : decide ((pl s.w f t l : Int) < 0) = false := by rw [decide_eq_false_iff_not]; omega
  have hz : decide ((((s.bx (pl s.w f t l)).length : Nat) : Int) = 0) = false := by rw [he, decide_eq_false_iff_not]; simp; omega
  have bv' := bv
  rw [he] at bv'
  obtain ⟨q, ix2, ld2⟩ := bv'.head
  simp only [F14, p14a, T34 k r hf ht hl hl', bnd2_some, bin_lss, hd, bnd_some, toBK_bool, cond_false, nilCheck_eq, fieldAddr_eq, Nat.zero_add, lB, ix, ld, bv.len, bin_eql, hz, ix2, ld2, hc]
def putS (s : St) (f t l : Nat) (c : Value) : St :=
  { s with bx := fun j => if j = pl s.w f t l then s.bx (pl s.w f t l) ++ [c] else s.bx j, cnt := s.cnt + 1,
           fu := if (s.bx (pl s.w f t l)).length + 1 = s.m then fun j => if j = f * 7 + l - 1 then s.fu (f * 7 + l - 1) + 1 else s.fu j else s.fu }
def takeS (s : St) (f t l : Nat) : St :=
  { s with bx := fun j => if j = pl s.w f t l then (s.bx (pl s.w f t l)).tail else s.bx j, cnt := s.cnt - 1,
           fu := if (s.bx (pl s.w f t l)).length = s.m then fun j => if j = f * 7 + l - 1 then s.fu (f * 7 + l - 1) - 1 else s.fu j else s.fu }
/-- Nothing is put: no mailbox, no command, or it is full. -/
theorem T17n (k : Nat) (r : GridR h g B F bs os s) {f t l : Int} (ho : ¬ Ok s.w f t l) (c : Value) : callB Try.prog 0 [9] (k + 2) 17 [ptrV g, .int .i64 f, .int .i64 t, .int .i64 l, c] h = some (.bool false, h) := by
  rw [F17eq [9] rfl]
  have hd : decide ((-1 : Int) < 0) = true := rfl
  simp only [F17, p17a, p17al, p17ar, p17arl, T34n k r ho, bnd2_some, p17arr, p17arrl, p17arrll, bin_lss, hd, bnd_some, toBK_bool, cond_true, p17arrlr, condV_bool]
theorem T17z (k : Nat) (r : GridR h g B F bs os s) {f t l : Nat} (hf : f < s.w) (ht : t < s.w) (hl : 1 ≤ l) (hl' : l ≤ 7) {c : Value} (hc : A.lenS c = some (.int .i64 0)) :
    callB Try.prog 0 [9] (k + 2) 17 [ptrV g, .int .i64 (f : Int), .int .i64 (t : Int), .int .i64 (l : Int), c] h = some (.bool false, h) := by
  rw [F17eq [9] rfl]
  have hd : decide ((pl s.w f t l : Int) < 0) = false := by rw [decide_eq_false_iff_not]; omega
  simp only [F17, p17a, p17al, p17ar, p17arl, T34 k r hf ht hl hl', bnd2_some, p17arr, p17arrl, p17arrll, bin_lss, hd, bnd_some, toBK_bool, cond_false, hc, bin_eql, decide_true, cond_true, p17arrlr, condV_bool]
theorem T17f (k : Nat) (r : GridR h g B F bs os s) {f t l : Nat} (hf : f < s.w) (ht : t < s.w) (hl : 1 ≤ l) (hl' : l ≤ 7) {c : Value} {n : Nat} (hn : 0 < n) (hc : A.lenS c = some (.int .i64 (n : Int))) (hfull : (s.bx (pl s.w f t l)).length = s.m) :
    callB Try.prog 0 [9] (k + 2) 17 [ptrV g, .int .i64 (f : Int), .int .i64 (t : Int), .int .i64 (l : Int), c] h = some (.bool false, h) := by
  rw [F17eq [9] rfl]
  obtain ⟨_, lm, lB, _, _⟩ := r.load
  obtain ⟨v, _, bv, ix, ld⟩ := r.box (pl_lt hf ht hl hl')
  have hd : decide ((pl s.w f t l : Int) < 0) = false := by rw [decide_eq_false_iff_not]; omega
  have hz : decide ((n : Int) = 0) = false := by rw [decide_eq_false_iff_not]; omega
  have he : decide ((((s.bx (pl s.w f t l)).length : Nat) : Int) = (s.m : Int)) = true := by rw [hfull]; simp
  simp only [F17, p17a, p17al, p17ar, p17arl, T34 k r hf ht hl hl', bnd2_some, p17arr, p17arrl, p17arrll, bin_lss, hd, bnd_some, toBK_bool, cond_false, hc, bin_eql, hz, nilCheck_eq, fieldAddr_eq, Nat.zero_add, lB, ix, ld, bv.len, lm, he, p17arrlr, condV_bool, cond_true]
theorem chk_same {v : Value} (o : Option Value) (ho : o = some v) (hv : AM.same v v = true) : chk (bnd o fun v => some v) v = true := by
  subst ho
  show (match (some v : Option Value) with | some w => AM.same w v | none => false) = true
  exact hv
theorem T17 (k : Nat) (r : GridR h g B F bs os s) {f t l : Nat} (hf : f < s.w) (ht : t < s.w) (hl : 1 ≤ l) (hl' : l ≤ 7) {c : Value} {n : Nat} (hn : 0 < n) (hc : A.lenS c = some (.int .i64 (n : Int))) (hfull : (s.bx (pl s.w f t l)).length < s.m)
    {c' : Value} {h1 : H} (hcp : callB Try.prog 0 [9] (k + 1) 32 [c] h = some (c', h1)) (x1 : Ext h h1) (hcl : cellsL c' = some [c']) (hcnt : -2 ^ 40 < s.cnt ∧ s.cnt < 2 ^ 40) (hfu : ∀ i, -2 ^ 40 < s.fu i ∧ s.fu i < 2 ^ 40) :
    ∃ h' bs' os', callB Try.prog 0 [9] (k + 2) 17 [ptrV g, .int .i64 (f : Int), .int .i64 (t : Int), .int .i64 (l : Int), c] h = some (.bool true, h') ∧ GridR h' g B F bs' os' (putS s f t l c') ∧ ExtBut (· ∈ os) h1 h' ∧ (∀ n ∈ os', n ∈ os ∨ h1.next ≤ n) := by
  rw [F17eq [9] rfl]
  obtain ⟨_, lm, lB, _, _⟩ := r.load
  have hpl := pl_lt hf ht hl hl'
  obtain ⟨v, hv, bv, ix, ld⟩ := r.box hpl
  obtain ⟨p, hp⟩ : ∃ p, p = pl s.w f t l := ⟨_, rfl⟩
  have r1 := r.ext x1
  obtain ⟨_, _, lB1, _, _⟩ := r1.load
  obtain ⟨v1, hv1, bv1, _, ld1⟩ := r1.box hpl
  obtain rfl : v1 = v := by rw [hv] at hv1; exact (Option.some.inj hv1).symm
  have hd : decide ((pl s.w f t l : Int) < 0) = false := by rw [decide_eq_false_iff_not]; omega
  have hz : decide ((n : Int) = 0) = false := by rw [decide_eq_false_iff_not]; omega
  have he : decide ((((s.bx (pl s.w f t l)).length : Nat) : Int) = (s.m : Int)) = false := by rw [decide_eq_false_iff_not]; omega
  have hb1 := buildSlice_one (n := 1) (zs := Z29L) h1 rfl hcl rfl
  obtain ⟨h2, hh2⟩ : ∃ h2, h2 = h1.push (.cells [c'] (some 1)) := ⟨_, rfl⟩
  rw [← hh2] at hb1
  have x2 : Ext h1 h2 := hh2 ▸ Ext.push h1 _
  have g2 : h2.get h1.next = some (.cells [c'] (some 1)) := by rw [hh2, H.get_push, if_pos rfl]
  have r2 := r1.ext x2
  have hm := r.hm
  obtain ⟨v3, h3, ea, b3, y3, s3⟩ := (bv1.ext x2).push rfl g2 (by omega)
  obtain ⟨es, os', r4, ho4, y4⟩ := r2.setBox hv b3 (by rw [List.length_append, List.length_singleton]; exact hfull) y3 s3
  obtain ⟨h4, hh4⟩ : ∃ h4, h4 = h3.put B (.cells (bs.set (pl s.w f t l) v3) (some 1)) := ⟨_, rfl⟩
  rw [← hh4] at es r4 y4
  have lB3 : A.load false 1 (.pointer (some ⟨g, 2, none⟩)) h3 = some (.slice (some ⟨B, 0, none⟩) (s.w * s.w * 7) (2 * (s.w * s.w * 7) + 1)) := by
    rw [load1_eq, y3.get g (r2.on g r.og) (fun e => (r.ob _ _ g hv e).2.1 rfl), r2.hg]; rfl
  have same1 := bv.same
  have sameB : AM.same (.slice (some ⟨B, 0, none⟩) (s.w * s.w * 7) (2 * (s.w * s.w * 7) + 1)) (.slice (some ⟨B, 0, none⟩) (s.w * s.w * 7) (2 * (s.w * s.w * 7) + 1)) = true := same_slice _ _ _ (fun b h => by cases h; rfl)
  have k1 := chk_same _ ld1 same1
  have k2 := chk_same _ lB1 sameB
  have k3 := chk_same _ lB3 sameB
  obtain ⟨h5, es5, r5, y5, n5⟩ := r4.setCnt (s.cnt + 1)
  obtain ⟨_, lm5, lB5, lF5, _⟩ := r5.load
  obtain ⟨_, _, _, _, lc4⟩ := r4.load
  have w1 : IntKind.i64.wrap (s.cnt + 1) = s.cnt + 1 := wrap64 (by omega) (by omega)
  obtain ⟨v5, hv5, bv5, ix5, ld5⟩ := r5.box (i := pl s.w f t l) hpl
  have hlen5 := bv5.len
  simp only [if_true, List.length_append, List.length_singleton] at hlen5
  have hfi : f * 7 + l - 1 < s.w * 7 := by omega
  have ho' : ∀ n ∈ os', n ∈ os ∨ h1.next ≤ n := fun n hn => by
    rcases ho4 n hn with e | e
    · exact .inl e
    · exact .inr (by have := x2.next; omega)
  have ybig : ExtBut (· ∈ os) h1 h5 := by
    have a : ExtBut (· ∈ os) h1 h4 := x2.but.trans y4
    refine ⟨by have := a.next; have := y5.next; omega, fun i hi hno => ?_⟩
    have hi4 : i < h4.next := Nat.lt_of_lt_of_le hi a.next
    rw [y5.get i hi4 (fun e => by rcases ho' i e with e | e; exact hno e; omega), a.get i hi hno]
  by_cases hlast : (s.bx (pl s.w f t l)).length + 1 = s.m
  · have hq : decide ((((s.bx (pl s.w f t l)).length + 1 : Nat) : Int) = (s.m : Int)) = true := by rw [decide_eq_true_iff]; omega
    obtain ⟨ixF, ldF⟩ := r5.full hfi
    have w2 : IntKind.i64.wrap ((f : Int) * 7) = ((f * 7 : Nat) : Int) := by rw [show (f : Int) * 7 = ((f * 7 : Nat) : Int) by rw [Int.natCast_mul]; rfl, wrap_nat (by have := r.hw; omega)]
    have w3 : IntKind.i64.wrap (((f * 7 : Nat) : Int) + (l : Int)) = ((f * 7 + l : Nat) : Int) := by rw [← Int.natCast_add, wrap_nat (by have := r.hw; omega)]
    have w4 : IntKind.i64.wrap (((f * 7 + l : Nat) : Int) - 1) = ((f * 7 + l - 1 : Nat) : Int) := by rw [show ((f * 7 + l : Nat) : Int) - 1 = ((f * 7 + l - 1 : Nat) : Int) by omega, wrap_nat (by have := r.hw; omega)]
    have hfb := hfu (f * 7 + l - 1)
    have w5 : IntKind.i64.wrap (s.fu (f * 7 + l - 1) + 1) = s.fu (f * 7 + l - 1) + 1 := wrap64 (by omega) (by omega)
    obtain ⟨h6, es6, r6, y6, n6⟩ := r5.setFull hfi (s.fu (f * 7 + l - 1) + 1)
    have e6 : ({ s with bx := fun j => if j = pl s.w f t l then s.bx (pl s.w f t l) ++ [c'] else s.bx j, cnt := s.cnt + 1, fu := fun j => if j = f * 7 + l - 1 then s.fu (f * 7 + l - 1) + 1 else s.fu j } : St) = putS s f t l c' := by
      unfold putS; rw [if_pos hlast]
    refine ⟨h6, _, os', ?_, e6 ▸ r6, ?_, ho'⟩
    · simp only [F17, p17a, p17al, p17ar, p17arl, T34 k r hf ht hl hl', bnd2_some, p17arr, p17arrl, p17arrll, bin_lss, hd, bnd_some, toBK_bool, cond_false, hc, bin_eql, hz, nilCheck_eq, fieldAddr_eq, Nat.zero_add, lB, ix, ld, bv.len, lm, he, p17arrlr, condV_bool,
        p17arrr, p17arrrl, hcp, k1, k2, Bool.and_true, Bool.and_self, cond_true, hb1, ea, k3, es, p17arrrr, p17arrrrl, lc4, bin_add, w1, es5, p17arrrrr, p17arrrrrl, p17arrrrrll, lB5, ix5, ld5, hlen5, lm5, hq, p17arrrrrlr, lF5, bin_mul, w2, w3, bin_sub, w4, ixF, ldF, w5, es6, p17arrrrrr]
    · refine ⟨by have := ybig.next; omega, fun i hi hno => ?_⟩
      rw [y6.get i (Nat.lt_of_lt_of_le hi ybig.next) (fun e => by rcases ho' i e with e | e; exact hno e; omega), ybig.get i hi hno]
  · have hq : decide ((((s.bx (pl s.w f t l)).length + 1 : Nat) : Int) = (s.m : Int)) = false := by rw [decide_eq_false_iff_not]; omega
    have e6 : ({ s with bx := fun j => if j = pl s.w f t l then s.bx (pl s.w f t l) ++ [c'] else s.bx j, cnt := s.cnt + 1 } : St) = putS s f t l c' := by
      unfold putS; rw [if_neg hlast]
    refine ⟨h5, _, os', ?_, e6 ▸ r5, ybig, ho'⟩
    simp only [F17, p17a, p17al, p17ar, p17arl, T34 k r hf ht hl hl', bnd2_some, p17arr, p17arrl, p17arrll, bin_lss, hd, bnd_some, toBK_bool, cond_false, hc, bin_eql, hz, nilCheck_eq, fieldAddr_eq, Nat.zero_add, lB, ix, ld, bv.len, lm, he, p17arrlr, condV_bool,
      p17arrr, p17arrrl, hcp, k1, k2, Bool.and_true, Bool.and_self, cond_true, hb1, ea, k3, es, p17arrrr, p17arrrrl, lc4, bin_add, w1, es5, p17arrrrr, p17arrrrrl, p17arrrrrll, lB5, ix5, ld5, hlen5, lm5, hq, p17arrrrrlr, p17arrrrrr]
end
end Go.Proofs.Ytdjhkdogpbiglaa.MailD

namespace Go.Proofs.Ytdjhkdogpbiglaa.MailD
open Go Go.AM
section
variable {h : H} {g B F : Nat} {bs : List Value} {os : List Nat} {s : St}
theorem T12n (k : Nat) (r : GridR h g B F bs os s) {f t l : Int} (ho : ¬ Ok s.w f t l) : callB Try.prog 0 [9] (k + 2) 12 [ptrV g, .int .i64 f, .int .i64 t, .int .i64 l] h = some (.tuple ⟨[.slice none 0 0, .bool false]⟩, h) := by
  rw [F12eq [9] rfl]
  have hd : decide ((-1 : Int) < 0) = true := rfl
  simp only [F12, p12a, p12al, p12ar, p12arl, T34n k r ho, bnd2_some, p12arr, p12arrl, bin_lss, hd, bnd_some, toBK_bool, cond_true]
theorem T12e (k : Nat) (r : GridR h g B F bs os s) {f t l : Nat} (hf : f < s.w) (ht : t < s.w) (hl : 1 ≤ l) (hl' : l ≤ 7) (he : s.bx (pl s.w f t l) = []) :
    callB Try.prog 0 [9] (k + 2) 12 [ptrV g, .int .i64 (f : Int), .int .i64 (t : Int), .int .i64 (l : Int)] h = some (.tuple ⟨[.slice none 0 0, .bool false]⟩, h) := by
  rw [F12eq [9] rfl]
  obtain ⟨_, _, lB, _, _⟩ := r.load
  obtain ⟨v, _, bv, ix, ld⟩ := r.box (pl_lt hf ht hl hl')
  have hd : decide ((pl s.w f t l : Int) < 0) = false := by rw [decide_eq_false_iff_not]; omega
  have hz : decide ((((s.bx (pl s.w f t l)).length : Nat) : Int) = 0) = true := by rw [he]; rfl
  simp only [F12, p12a, p12al, p12ar, p12arl, T34 k r hf ht hl hl', bnd2_some, p12arr, p12arrl, bin_lss, hd, bnd_some, toBK_bool, cond_false, nilCheck_eq, fieldAddr_eq, Nat.zero_add, lB, ix, ld, bv.len, bin_eql, hz, cond_true]
theorem T12 (k : Nat) (r : GridR h g B F bs os s) {f t l : Nat} (hf : f < s.w) (ht : t < s.w) (hl : 1 ≤ l) (hl' : l ≤ 7) {c : Value} {cs : List Value} (he : s.bx (pl s.w f t l) = c :: cs)
    (hcnt : -2 ^ 40 < s.cnt ∧ s.cnt < 2 ^ 40) (hfu : ∀ i, -2 ^ 40 < s.fu i ∧ s.fu i < 2 ^ 40) :
    ∃ h' bs' os', callB Try.prog 0 [9] (k + 2) 12 [ptrV g, .int .i64 (f : Int), .int .i64 (t : Int), .int .i64 (l : Int)] h = some (.tuple ⟨[c, .bool true]⟩, h') ∧ GridR h' g B F bs' os' (takeS s f t l) ∧ ExtBut (· ∈ os) h h' ∧ (∀ n ∈ os', n ∈ os ∨ h.next ≤ n) := by
  rw [F12eq [9] rfl]
  obtain ⟨_, lm, lB, lF, _⟩ := r.load
  have hpl := pl_lt hf ht hl hl'
  obtain ⟨v, hv, bv, ix, ld⟩ := r.box hpl
  have hd : decide ((pl s.w f t l : Int) < 0) = false := by rw [decide_eq_false_iff_not]; omega
  have hz : decide ((((s.bx (pl s.w f t l)).length : Nat) : Int) = 0) = false := by rw [he, decide_eq_false_iff_not]; simp; omega
  have bv' := bv
  rw [he] at bv'
  obtain ⟨q, ix2, ld2⟩ := bv'.head
  have hfi : f * 7 + l - 1 < s.w * 7 := by omega
  have hle := r.lm (pl s.w f t l)
  rw [he] at hle
  -- how many are full
  obtain ⟨b, hb⟩ : ∃ b, b = decide ((((s.bx (pl s.w f t l)).length : Nat) : Int) = (s.m : Int)) := ⟨_, rfl⟩
  obtain ⟨fu1, hfu1⟩ : ∃ fu1, fu1 = (if (s.bx (pl s.w f t l)).length = s.m then fun j => if j = f * 7 + l - 1 then s.fu (f * 7 + l - 1) - 1 else s.fu j else s.fu) := ⟨_, rfl⟩
  have hA : ∃ h1, p12arrrrlr (callB Try.prog 0 [9] (k + 1)) (k + 1) (.bool b) (.int .i64 (l : Int)) (.int .i64 (f : Int)) (.int .i64 (pl s.w f t l : Int)) (ptrV g) c h
        (fun x10 x0 x11 h => p12arrrrr (callB Try.prog 0 [9] (k + 1)) (k + 1) x10 x0 x11 h (fun x8 x9 h => some (Value.tuple ⟨[x8, x9]⟩, h))) =
        p12arrrrr (callB Try.prog 0 [9] (k + 1)) (k + 1) (.int .i64 (pl s.w f t l : Int)) (ptrV g) c h1 (fun x8 x9 h => some (Value.tuple ⟨[x8, x9]⟩, h)) ∧ GridR h1 g B F bs os { s with fu := fu1 } ∧ ExtBut (· ∈ os) h h1 ∧ h1.next = h.next := by
    by_cases hm : (s.bx (pl s.w f t l)).length = s.m
    · have hbt : b = true := by rw [hb, decide_eq_true_iff]; omega
      obtain ⟨ixF, ldF⟩ := r.full hfi
      have w2 : IntKind.i64.wrap ((f : Int) * 7) = ((f * 7 : Nat) : Int) := by rw [show (f : Int) * 7 = ((f * 7 : Nat) : Int) by rw [Int.natCast_mul]; rfl, wrap_nat (by have := r.hw; omega)]
      have w3 : IntKind.i64.wrap (((f * 7 : Nat) : Int) + (l : Int)) = ((f * 7 + l : Nat) : Int) := by rw [← Int.natCast_add, wrap_nat (by have := r.hw; omega)]
      have w4 : IntKind.i64.wrap (((f * 7 + l : Nat) : Int) - 1) = ((f * 7 + l - 1 : Nat) : Int) := by rw [show ((f * 7 + l : Nat) : Int) - 1 = ((f * 7 + l - 1 : Nat) : Int) by omega, wrap_nat (by have := r.hw; omega)]
      have hfb := hfu (f * 7 + l - 1)
      have w5 : IntKind.i64.wrap (s.fu (f * 7 + l - 1) - 1) = s.fu (f * 7 + l - 1) - 1 := wrap64 (by omega) (by omega)
      obtain ⟨h1, es1, r1, y1, n1⟩ := r.setFull hfi (s.fu (f * 7 + l - 1) - 1)
      refine ⟨h1, ?_, by rw [hfu1, if_pos hm]; exact r1, y1, n1⟩
      rw [hbt]
      simp only [p12arrrrlr, condV_bool, cond_true, nilCheck_eq, bnd_some, fieldAddr_eq, Nat.zero_add, lF, bin_mul, w2, bin_add, w3, bin_sub, w4, ixF, ldF, w5, es1]
    · have hbf : b = false := by rw [hb, decide_eq_false_iff_not]; omega
      refine ⟨h, ?_, by rw [hfu1, if_neg hm]; exact r, ⟨Nat.le_refl _, fun _ _ _ => rfl⟩, rfl⟩
      rw [hbf]
      simp only [p12arrrrlr, condV_bool, cond_false]
  obtain ⟨h1, eA, r1, y1, n1⟩ := hA
  obtain ⟨_, _, lB1, _, _⟩ := r1.load
  obtain ⟨v1, hv1, bv1, ix1, ld1⟩ := r1.box hpl
  obtain rfl : v1 = v := by rw [hv] at hv1; exact (Option.some.inj hv1).symm
  have bv1' : BoxV h1 v1 (c :: cs) := by rw [← he]; exact bv1
  obtain ⟨v2, h2, e35, b2, y2, s2, n2⟩ := T35 k bv1'
  have hcl : cs.length ≤ s.m := by simp only [List.length_cons] at hle; omega
  obtain ⟨es, os', r3, ho3, y3⟩ := r1.setBox hv b2 hcl y2 (fun n hn => .inl (by rw [← s2]; exact hn))
  obtain ⟨h3, hh3⟩ : ∃ h3, h3 = h2.put B (.cells (bs.set (pl s.w f t l) v2) (some 1)) := ⟨_, rfl⟩
  rw [← hh3] at es r3 y3
  have lB2 : A.load false 1 (.pointer (some ⟨g, 2, none⟩)) h2 = some (.slice (some ⟨B, 0, none⟩) (s.w * s.w * 7) (2 * (s.w * s.w * 7) + 1)) := by
    rw [load1_eq, y2.get g (r1.on g r.og) (fun e => (r.ob _ _ g hv e).2.1 rfl), r1.hg]; rfl
  have sameB : AM.same (.slice (some ⟨B, 0, none⟩) (s.w * s.w * 7) (2 * (s.w * s.w * 7) + 1)) (.slice (some ⟨B, 0, none⟩) (s.w * s.w * 7) (2 * (s.w * s.w * 7) + 1)) = true := same_slice _ _ _ (fun b h => by cases h; rfl)
  have k3 := chk_same _ lB2 sameB
  obtain ⟨_, _, _, _, lc3⟩ := r3.load
  have w1 : IntKind.i64.wrap (s.cnt - 1) = s.cnt - 1 := wrap64 (by omega) (by omega)
  obtain ⟨h4, es4, r4, y4, n4⟩ := r3.setCnt (s.cnt - 1)
  have e4 : ({ s with bx := fun j => if j = pl s.w f t l then cs else s.bx j, cnt := s.cnt - 1, fu := fu1 } : St) = takeS s f t l := by
    unfold takeS
    rw [he, hfu1, he]
    rfl
  have ho' : ∀ n ∈ os', n ∈ os ∨ h.next ≤ n := fun n hn => by
    rcases ho3 n hn with e | e
    · exact .inl e
    · exact .inr (by omega)
  have a : ExtBut (· ∈ os) h h3 := y1.trans y3
  refine ⟨h4, _, os', ?_, e4 ▸ r4, ⟨by have := a.next; omega, fun i hi hno => ?_⟩, ho'⟩
  · simp only [F12, p12a, p12al, p12ar, p12arl, T34 k r hf ht hl hl', bnd2_some, p12arr, p12arrl, bin_lss, hd, bnd_some, toBK_bool, cond_false, nilCheck_eq, fieldAddr_eq, Nat.zero_add, lB, ix, ld, bv.len, bin_eql, hz, p12arrr, p12arrrl, ix2, ld2, p12arrrr, p12arrrrl, p12arrrrll, lm]
    rw [← hb, eA]
    simp only [p12arrrrr, p12arrrrrl, nilCheck_eq, bnd_some, fieldAddr_eq, Nat.zero_add, lB1, ix1, ld1, e35, bnd2_some, k3, Bool.and_true, cond_true, es, p12arrrrrr, lc3, bin_sub, w1, es4]
  · rw [y4.get i (Nat.lt_of_lt_of_le hi a.next) (fun e => by rcases ho' i e with e | e; exact hno e; omega), a.get i hi hno]
end
theorem zeros_one (v : Value) : ∀ n, A.zeros [v] n = List.replicate n v
  | 0 => rfl
  | n + 1 => by show v :: A.zeros [v] n = _; rw [zeros_one v n]; rfl
theorem makeSlice_one (b : Nat) (v : Value) {n : Nat} (h : H) (h1 : b * n ≤ 2 ^ 47) (h2 : n ≤ 2 ^ 47) : A.makeSlice 1 b [v] (.int .i64 (n : Int)) (.int .i64 (n : Int)) h = some (.slice (some ⟨h.next, 0, none⟩) n (2 * n + 1), h.push (.cells (List.replicate n v) (some 1))) := by
  have e : A.makeSlice 1 b [v] (.int .i64 (n : Int)) (.int .i64 (n : Int)) h = (bif Nat.ble n n && Nat.ble (b * n) (2 ^ 47) && Nat.ble n (2 ^ 47) then some (.slice (some ⟨h.next, 0, none⟩) n (2 * n + 1), h.push (.cells (A.zeros [v] n) (some 1))) else none) := rfl
  have e1 : Nat.ble n n = true := by rw [ble_dec, decide_eq_true_iff]; exact Nat.le_refl n
  have e2 : Nat.ble (b * n) (2 ^ 47) = true := by rw [ble_dec, decide_eq_true_iff]; exact h1
  have e3 : Nat.ble n (2 ^ 47) = true := by rw [ble_dec, decide_eq_true_iff]; exact h2
  rw [e, e1, e2, e3, zeros_one]; rfl
def newS (w m : Nat) : St := ⟨w, m, fun _ => [], fun _ => 0, 0⟩
theorem T10n (k : Nat) (h : H) {w m : Int} (hn : ¬ (1 ≤ w ∧ w ≤ 64 ∧ 1 ≤ m ∧ m ≤ 64)) : callB Try.prog 0 [9] (k + 1) 10 [.int .i64 w, .int .i64 m] h = some (.pointer none, h) := by
  rw [F10eq [9] rfl]
  simp only [F10, p10a, p10al, p10ar, p10arl, p10arll, bin_lss, bnd_some, toBK_bool, bin_gtr]
  by_cases h1 : w < 1
  · simp [h1, p10arlr]
  by_cases h2 : 64 < w
  · simp [h1, h2, p10arlr]
  by_cases h3 : m < 1
  · simp [h1, h2, h3, p10arlr]
  have h4 : 64 < m := by omega
  simp [h1, h2, h3, h4, p10arlr]
theorem T10 (k : Nat) (h : H) {w m : Nat} (hw : 1 ≤ w ∧ w ≤ 64) (hm : 1 ≤ m ∧ m ≤ 64) :
    ∃ h' g B F bs os, callB Try.prog 0 [9] (k + 1) 10 [.int .i64 (w : Int), .int .i64 (m : Int)] h = some (ptrV g, h') ∧ GridR h' g B F bs os (newS w m) ∧ Ext h h' ∧ (∀ n ∈ os, h.next ≤ n) := by
  rw [F10eq [9] rfl]
  have h1 : decide ((w : Int) < 1) = false := by rw [decide_eq_false_iff_not]; omega
  have h2 : decide ((64 : Int) < (w : Int)) = false := by rw [decide_eq_false_iff_not]; omega
  have h3 : decide ((m : Int) < 1) = false := by rw [decide_eq_false_iff_not]; omega
  have h4 : decide ((64 : Int) < (m : Int)) = false := by rw [decide_eq_false_iff_not]; omega
  have hmu := mul64 hw.2 hw.2
  have w1 : IntKind.i64.wrap ((w : Int) * (w : Int)) = ((w * w : Nat) : Int) := by rw [← Int.natCast_mul, wrap_nat (by omega)]
  have w2 : IntKind.i64.wrap (((w * w : Nat) : Int) * 7) = ((w * w * 7 : Nat) : Int) := by rw [show ((w * w : Nat) : Int) * 7 = ((w * w * 7 : Nat) : Int) by rw [Int.natCast_mul (w * w)]; rfl, wrap_nat (by omega)]
  have w3 : IntKind.i64.wrap ((w : Int) * 7) = ((w * 7 : Nat) : Int) := by rw [show (w : Int) * 7 = ((w * 7 : Nat) : Int) by rw [Int.natCast_mul]; rfl, wrap_nat (by omega)]
  have m1 := makeSlice_one 24 (.slice none 0 0) (n := w * w * 7) h (by omega) (by omega)
  obtain ⟨a1, ha1⟩ : ∃ a1, a1 = h.push (.cells (List.replicate (w * w * 7) (.slice none 0 0)) (some 1)) := ⟨_, rfl⟩
  rw [← ha1] at m1
  have m2 := makeSlice_one 8 (.int .i64 0) (n := w * 7) a1 (by omega) (by omega)
  obtain ⟨a2, ha2⟩ : ∃ a2, a2 = a1.push (.cells (List.replicate (w * 7) (.int .i64 0)) (some 1)) := ⟨_, rfl⟩
  rw [← ha2] at m2
  have b1 : ∀ x y : Value, A.build Z48L [(0, 1, .int .i64 (w : Int)), (1, 1, .int .i64 (m : Int)), (2, 1, .slice (some ⟨h.next, 0, none⟩) (w * w * 7) (2 * (w * w * 7) + 1)), (3, 1, .slice (some ⟨a1.next, 0, none⟩) (w * 7) (2 * (w * 7) + 1))]
      = some (.agg ⟨[.int .i64 (w : Int), .int .i64 (m : Int), .slice (some ⟨h.next, 0, none⟩) (w * w * 7) (2 * (w * w * 7) + 1), .slice (some ⟨a1.next, 0, none⟩) (w * 7) (2 * (w * 7) + 1), .int .i64 0]⟩) := fun _ _ => rfl
  obtain ⟨a3, ha3⟩ : ∃ a3, a3 = a2.push (.cells [.int .i64 (w : Int), .int .i64 (m : Int), .slice (some ⟨h.next, 0, none⟩) (w * w * 7) (2 * (w * w * 7) + 1), .slice (some ⟨a1.next, 0, none⟩) (w * 7) (2 * (w * 7) + 1), .int .i64 0] (some 0)) := ⟨_, rfl⟩
  have bx : A.box 5 (.agg ⟨[.int .i64 (w : Int), .int .i64 (m : Int), .slice (some ⟨h.next, 0, none⟩) (w * w * 7) (2 * (w * w * 7) + 1), .slice (some ⟨a1.next, 0, none⟩) (w * 7) (2 * (w * 7) + 1), .int .i64 0]⟩) a2 = some (ptrV a2.next, a3) := by rw [ha3]; rfl
  have n1 : a1.next = h.next + 1 := by rw [ha1]; rfl
  have n2 : a2.next = a1.next + 1 := by rw [ha2]; rfl
  have n3 : a3.next = a2.next + 1 := by rw [ha3]; rfl
  have x1 : Ext h a1 := ha1 ▸ Ext.push h _
  have x2 : Ext a1 a2 := ha2 ▸ Ext.push a1 _
  have x3 : Ext a2 a3 := ha3 ▸ Ext.push a2 _
  refine ⟨a3, a2.next, h.next, a1.next, List.replicate (w * w * 7) (.slice none 0 0), [a2.next, h.next, a1.next], ?_, ?_, (x1.trans x2).trans x3, fun n hn => by simp at hn; omega⟩
  · have zz1 : Z55L = [.slice none 0 0] := rfl
    have zz2 : Z3L = [.int .i64 0] := rfl
    simp only [F10, p10a, p10al, p10ar, p10arl, p10arll, bin_lss, bnd_some, toBK_bool, bin_gtr, h1, h2, h3, h4, cond_false, p10arlr, condV_bool, p10arr, bin_mul, w1, w2, zz1, m1, bnd2_some, w3, zz2, m2, b1 .nilFunc .nilFunc, bx]
  · have nil : ∀ (i : Nat) v, (List.replicate (w * w * 7) (Value.slice none 0 0))[i]? = some v → v = .slice none 0 0 := fun i v hi => by
      rw [List.getElem?_replicate] at hi
      split at hi
      · exact (Option.some.inj hi).symm
      · cases hi
    refine ⟨hw, hm, by rw [ha3, H.get_push, if_pos rfl]; rfl, by rw [x3.get _ (by omega), x2.get _ (by omega), ha1, H.get_push, if_pos rfl], List.length_replicate .., ?_, fun i v hi => .inl ⟨nil i v hi, rfl⟩, fun _ => Nat.zero_le _, by omega, by omega, by omega, by simp, by simp, by simp,
      fun i v q hi hq => by rw [nil i v hi] at hq; simp [sid] at hq, fun i j u v q hu _ hq _ => by rw [nil i u hu] at hq; simp [sid] at hq, fun n hn => by simp at hn; omega⟩
    rw [x3.get _ (by omega), ha2, H.get_push, if_pos rfl]
    show some (Blk.cells (List.replicate (w * 7) (Value.int .i64 0)) (some 1)) = some (Blk.cells ((List.range (w * 7)).map fun i => Value.int .i64 0) (some 1))
    rw [List.map_const', List.length_range]
noncomputable def itm (n : Int) : List Value := .int .u8 1 :: .int .i64 n :: Z71L.drop 2
def Cmd1 (h : H) (v : Value) (n : Int) : Prop := ∃ q c o, v = .slice (some ⟨q, 0, none⟩) 1 c ∧ q < h.next ∧ h.get q = some (.cells (itm n) o)
theorem Cmd1.extBut {S : Nat → Prop} {h h' : H} {v : Value} {n : Int} (c : Cmd1 h v n) (x : ExtBut S h h') (hs : ∀ i, sid v = some i → ¬ S i) : Cmd1 h' v n := by
  obtain ⟨q, c, o, e, hq, hg⟩ := c
  exact ⟨q, c, o, e, Nat.lt_of_lt_of_le hq x.next, by rw [x.get q hq (hs q (by rw [e]; rfl))]; exact hg⟩
theorem Cmd1.len {h : H} {v : Value} {n : Int} (c : Cmd1 h v n) : A.lenS v = some (.int .i64 1) := by
  obtain ⟨q, c, o, rfl, hq, hg⟩ := c; rfl
theorem Cmd1.cells {h : H} {v : Value} {n : Int} (c : Cmd1 h v n) : cellsL v = some [v] := by
  obtain ⟨q, c, o, rfl, hq, hg⟩ := c; rfl
theorem Cmd1.sid_lt {h : H} {v : Value} {n : Int} (c : Cmd1 h v n) : ∀ i, sid v = some i → i < h.next := by
  obtain ⟨q, c, o, rfl, hq, hg⟩ := c
  intro i hi
  simp [sid] at hi; omega
end Go.Proofs.Ytdjhkdogpbiglaa.MailD
