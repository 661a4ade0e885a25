/-
  Mail: one mailbox: a row of commands that grows behind and is shifted ahead; its place in a grid.
-/
import Derived.Test.YtdjhkdogpbiglaaMailD
import Derived.Test.YtdjhkdogpbiglaaAmLaw
namespace Go.Proofs.Ytdjhkdogpbiglaa.MailD
open Go Go.AM

/-- A mailbox's commands. -/
def BoxV (h : H) (v : Value) (es : List Value) : Prop :=
  (v = .slice none 0 0 ∧ es = []) ∨ ∃ q c cs, v = .slice (some ⟨q, 0, none⟩) es.length (2 * c) ∧ q < h.next ∧ h.get q = some (.cells cs (some 1)) ∧ cs.length = c ∧ es.length ≤ c ∧ cs.take es.length = es

theorem BoxV.len {h : H} {v : Value} {es : List Value} (b : BoxV h v es) : A.lenS v = some (.int .i64 (es.length : Int)) := by
  rcases b with ⟨rfl, rfl⟩ | ⟨q, c, cs, rfl, _⟩ <;> rfl
theorem BoxV.sid_lt {h : H} {v : Value} {es : List Value} (b : BoxV h v es) : ∀ i, sid v = some i → i < h.next := by
  intro i hi
  rcases b with ⟨rfl, rfl⟩ | ⟨q, c, cs, rfl, hq, _⟩
  · simp [sid] at hi
  · simp [sid] at hi; omega
theorem BoxV.extBut {S : Nat → Prop} {h h' : H} {v : Value} {es : List Value} (b : BoxV h v es) (x : ExtBut S h h') (hs : ∀ i, sid v = some i → ¬ S i) : BoxV h' v es := by
  rcases b with hv | ⟨q, c, cs, e, hq, hg, r⟩
  · exact .inl hv
  · exact .inr ⟨q, c, cs, e, Nat.lt_of_lt_of_le hq x.next, by rw [x.get q hq (hs q (by rw [e]; rfl))]; exact hg, r⟩
theorem BoxV.ext {h h' : H} {v : Value} {es : List Value} (b : BoxV h v es) (x : Ext h h') : BoxV h' v es := b.extBut (S := fun _ => False) x.but (by simp)
theorem BoxV.same {h : H} {v : Value} {es : List Value} (b : BoxV h v es) : AM.same v v = true := by
  rcases b with ⟨rfl, rfl⟩ | ⟨q, c, cs, rfl, _⟩
  · exact same_slice _ _ _ (fun b h => by cases h)
  · exact same_slice _ _ _ (fun b h => by cases h; rfl)
/-- The first one. -/
theorem BoxV.head {h : H} {v e : Value} {es : List Value} (b : BoxV h v (e :: es)) : ∃ q, A.idxS 1 v (.int .i64 0) = some (.pointer (some ⟨q, 0, none⟩)) ∧ A.load false 1 (.pointer (some ⟨q, 0, none⟩)) h = some e := by
  rcases b with ⟨_, h⟩ | ⟨q, c, cs, rfl, hq, hg, hl, hle, ht⟩
  · cases h
  · have ix := idxS_eq 1 q 0 (e :: es).length (2 * c) 0 .i64 (by simp)
    refine ⟨q, ix, ?_⟩
    rw [load1_eq, hg]
    have : (cs.take (e :: es).length)[0]? = some e := by rw [ht]; rfl
    rw [List.getElem?_take, if_pos (by simp)] at this
    exact this

/-- One more. -/
theorem BoxV.push {h : H} {v e x : Value} {es : List Value} {t : Nat} (b : BoxV h v es) (hx : x = .slice (some ⟨t, 0, none⟩) 1 3) (ht : h.get t = some (.cells [e] (some 1))) (hlen : es.length ≤ 70000) :
    ∃ v' h', A.append 1 24 v x h = some (v', h') ∧ BoxV h' v' (es ++ [e]) ∧ ExtBut (fun i => sid v = some i) h h' ∧ (∀ i, sid v' = some i → sid v = some i ∨ h.next ≤ i) := by
  subst hx
  have hel : A.elems 1 (.slice (some ⟨t, 0, none⟩) 1 3) h = some [e] := by
    simp only [A.elems, ht]; rfl
  have hlo : A.lenOf (.slice (some ⟨t, 0, none⟩) 1 3) = 1 := rfl
  rcases b with ⟨rfl, rfl⟩ | ⟨q, c, cs, rfl, hq, hg, hl, hle, htk⟩
  · refine ⟨.slice (some ⟨h.next, 0, none⟩) 1 2, h.push (.cells [e] (some 1)), ?_, .inr ⟨h.next, 1, [e], rfl, Nat.lt_succ_self _, by rw [H.get_push, if_pos rfl], rfl, by simp, rfl⟩, (Ext.push _ _).but, fun i hi => .inr ?_⟩
    · simp only [A.append, hel]; rfl
    · have : h.next = i := by simpa [sid] using hi
      omega
  · by_cases hc : es.length + 1 ≤ c
    · refine ⟨.slice (some ⟨q, 0, none⟩) (es.length + 1) (2 * c), h.put q (.cells (splice cs es.length [e]) (some 1)), ?_, .inr ⟨q, c, splice cs es.length [e], by simp, hq, by rw [H.get_put, if_pos rfl], ?_, by simp; omega, ?_⟩, ExtBut.put ⟨Nat.le_refl _, fun _ _ _ => rfl⟩ q _ rfl, fun i hi => .inl hi⟩
      · simp only [A.append, hel, hlo, hg]
        have e1 : es.length + 1 ≤ 2 * c / 2 := by omega
        simp [hl, hc]
      · rw [splice_length _ _ _ (by simp; omega)]; exact hl
      · rw [splice_one (by omega), List.length_append, List.length_singleton]
        apply List.ext_getElem?
        intro j
        rw [List.getElem?_take, List.getElem?_set, List.getElem?_append]
        by_cases h1 : j < es.length
        · have h2 : ¬ es.length = j := by omega
          have h3 : j < es.length + 1 := by omega
          rw [if_pos h3, if_neg h2, if_pos h1, ← htk, List.getElem?_take, if_pos h1]
        · by_cases h2 : j = es.length
          · subst h2
            rw [if_pos (by omega), if_pos rfl, if_pos (by omega), if_neg (by omega)]
            simp
          · rw [if_neg (by omega), if_neg h1, List.getElem?_eq_none_iff.2 (by simp; omega)]
    · have hce : c = es.length := by omega
      have hcs : cs = es := by rw [← htk, List.take_of_length_le (by omega)]
      subst hcs
      refine ⟨.slice (some ⟨h.next, 0, none⟩) (cs.length + 1) (2 * (cs.length + 1)), (h.kill q).push (.cells (cs ++ [e]) (some 1)), ?_, .inr ⟨h.next, cs.length + 1, cs ++ [e], by simp, by simp, by simp [H.get_push], by simp, by simp, List.take_of_length_le (by simp)⟩, ⟨by simp, fun i hi hs => ?_⟩, fun i hi => .inr ?_⟩
      · simp only [A.append, hel, hlo, hg]
        have e1 : ¬ (cs.length + 1 ≤ 2 * c / 2) := by omega
        have e2 : 2 * c % 2 = 0 := by omega
        have e3 : (cs.length + 1) * 24 ≤ 2 ^ 47 := by omega
        have e4 : cs.length + 1 ≤ 2 ^ 47 := by omega
        simp [e2, e3, e4]
        omega
      · rw [H.get_push, H.get_kill, next_kill', if_neg (by omega), if_neg (fun e => hs (by rw [e]; rfl))]
      · have : h.next = i := by simpa [sid] using hi
        omega

/-- The first one is taken out. -/
theorem T35 (k : Nat) {h : H} {v e : Value} {es : List Value} (b : BoxV h v (e :: es)) : ∃ v' h', callB Try.prog 0 [9] (k + 1) 35 [v, .int .i64 0, .int .i64 1] h = some (v', h') ∧ BoxV h' v' es ∧ ExtBut (fun i => sid v = some i) h h' ∧ sid v' = sid v ∧ h'.next = h.next := by
  rw [F35eq [9] rfl]
  rcases b with ⟨_, h⟩ | ⟨q, c, cs, rfl, hq, hg, hl, hle, htk⟩
  · cases h
  have hcs : (cs.drop 1).take es.length = es := by
    have := congrArg (List.drop 1) htk
    rw [List.drop_take] at this
    simpa using this
  simp only [List.length_cons] at hle
  have e0 : ((es.length + 1 : Nat) : Int) = Int.ofNat (es.length + 1) := rfl
  have e0' : ((es.length : Nat) : Int) = Int.ofNat es.length := rfl
  have e1 : (0 : Int) = Int.ofNat 0 := rfl
  have e2 : (1 : Int) = Int.ofNat 1 := rfl
  have c1 : 2 * c / 2 = c := by omega
  have c2 : Nat.beq (2 * c % 2) 1 = false := by rw [beq_dec', decide_eq_false_iff_not]; omega
  have a1 : A.sliceS 1 (.slice (some ⟨q, 0, none⟩) (es.length + 1) (2 * c)) (some (.int .i64 0)) (some (.int .i64 1)) (some (.int .i64 ((es.length + 1 : Nat) : Int))) h = some (.slice (some ⟨q, 0, none⟩) 1 (2 * (es.length + 1) + 1)) := by
    rw [e0, e1, e2]
    simp [A.sliceS, A.bound, c1, hle]
  have a2 : A.sliceS 1 (.slice (some ⟨q, 0, none⟩) (es.length + 1) (2 * c)) none (some (.int .i64 0)) none h = some (.slice (some ⟨q, 0, none⟩) 0 (2 * c)) := by
    rw [e1]
    simp [A.sliceS, A.bound]
  have hok : ∀ (g : H) (ds : List Value), g.get q = some (.cells ds (some 1)) → A.esOK 1 q g = true := fun g ds hg => by simp [A.esOK, hg]
  have a3 : A.sliceS 1 (.slice (some ⟨q, 0, none⟩) (es.length + 1) (2 * c)) (some (.int .i64 1)) none none h = some (.slice (some ⟨q, 1, none⟩) es.length (2 * c - 2)) := by
    rw [e2]
    simp [A.sliceS, A.bound, hok h cs hg]
  obtain ⟨h1, a4, g1, x1, n1⟩ : ∃ h1, A.append 1 24 (.slice (some ⟨q, 0, none⟩) 0 (2 * c)) (.slice (some ⟨q, 1, none⟩) es.length (2 * c - 2)) h = some (.slice (some ⟨q, 0, none⟩) es.length (2 * c), h1) ∧ h1.get q = some (.cells (es ++ cs.drop es.length) (some 1)) ∧ ExtBut (fun i => i = q) h h1 ∧ h1.next = h.next := by
    by_cases hz : es.length = 0
    · obtain rfl : es = [] := List.length_eq_zero_iff.1 hz
      exact ⟨h, rfl, by rw [hg]; rfl, ⟨Nat.le_refl _, fun _ _ _ => rfl⟩, rfl⟩
    · have hel : A.elems 1 (.slice (some ⟨q, 1, none⟩) es.length (2 * c - 2)) h = some es := by
        have z1 : Nat.beq es.length 0 = false := by rw [beq_dec', decide_eq_false_iff_not]; exact hz
        have z2 : Nat.ble (1 + es.length) cs.length = true := by rw [ble_dec, decide_eq_true_iff]; omega
        simp only [A.elems, z1, cond_false, hg, Nat.mul_one, z2, cond_true, hcs]
      have hsp : splice cs (0 * 1) es = es ++ cs.drop es.length := by simp [splice]
      refine ⟨h.put q (.cells (es ++ cs.drop es.length) (some 1)), ?_, by rw [H.get_put, if_pos rfl], ExtBut.put ⟨Nat.le_refl _, fun _ _ _ => rfl⟩ q _ rfl, rfl⟩
      have z1 : Nat.beq es.length 0 = false := by rw [beq_dec', decide_eq_false_iff_not]; exact hz
      have z3 : Nat.ble es.length (2 * c / 2) = true := by rw [ble_dec, decide_eq_true_iff]; omega
      have z4 : Nat.ble (es.length * 1) cs.length = true := by rw [ble_dec, decide_eq_true_iff]; omega
      have hlo : A.lenOf (.slice (some ⟨q, 1, none⟩) es.length (2 * c - 2)) = es.length := rfl
      simp only [A.append, hel, hlo, z1, cond_false, hg, z3, cond_true, z4, hsp, Nat.zero_add]
  have hlX : (es ++ cs.drop es.length).length = c := by simp; omega
  have a5 : A.sliceS 1 (.slice (some ⟨q, 0, none⟩) es.length (2 * c)) (some (.int .i64 (es.length : Int))) (some (.int .i64 ((es.length + 1 : Nat) : Int))) none h1 = some (.slice (some ⟨q, es.length, none⟩) 1 (2 * c - 2 * es.length)) := by
    rw [e0, e0']
    simp [A.sliceS, A.bound, c1, hle, hok h1 _ g1]
  obtain ⟨h2, hh2⟩ : ∃ h2, h2 = h1.put q (.cells (splice (es ++ cs.drop es.length) es.length [.slice none 0 0]) (some 1)) := ⟨_, rfl⟩
  have a6 : A.clear 1 Z29L (.slice (some ⟨q, es.length, none⟩) 1 (2 * c - 2 * es.length)) h1 = some h2 := by
    have z4 : Nat.ble (es.length + 1 * 1) (es ++ cs.drop es.length).length = true := by rw [ble_dec, decide_eq_true_iff, hlX]; omega
    have z0 : Nat.beq 1 0 = false := rfl
    have zz : A.zeros Z29L 1 = [.slice none 0 0] := rfl
    simp only [A.clear, z0, cond_false, g1, z4, cond_true, zz]
    rw [hh2]
  refine ⟨.slice (some ⟨q, 0, none⟩) es.length (2 * c), h2, ?_, .inr ⟨q, c, _, rfl, by rw [hh2]; show q < h1.next; omega, by rw [hh2, H.get_put, if_pos rfl], ?_, by omega, ?_⟩, ?_, rfl, by rw [hh2]; exact n1⟩
  · have l1 : A.lenS (.slice (some ⟨q, 0, none⟩) (es.length + 1) (2 * c)) = some (.int .i64 ((es.length + 1 : Nat) : Int)) := rfl
    have l2 : A.lenS (.slice (some ⟨q, 0, none⟩) es.length (2 * c)) = some (.int .i64 (es.length : Int)) := rfl
    have hd : decide ((0 : Int) = 1) = false := rfl
    simp only [F35, p35a, p35al, p35ar, p35arl, List.length_cons, l1, bnd_some, a1, p35arr, p35arrl, bin_eql, hd, toBK_bool, cond_false, p35arrr, a2, a3, a4, bnd2_some, l2, a5, a6]
  · rw [splice_length _ _ _ (by rw [hlX]; simp; omega)]; exact hlX
  · rw [splice_one (by rw [hlX]; omega)]
    apply List.ext_getElem?
    intro j
    rw [List.getElem?_take]
    by_cases hj : j < es.length
    · rw [if_pos hj, List.getElem?_set, if_neg (by omega), List.getElem?_append, if_pos hj]
    · rw [if_neg hj, List.getElem?_eq_none_iff.2 (by omega)]
  · rw [hh2]
    exact ExtBut.put ⟨by omega, fun i hi hs => x1.get i hi (fun e => hs (by rw [e]; rfl))⟩ q _ rfl
end Go.Proofs.Ytdjhkdogpbiglaa.MailD
