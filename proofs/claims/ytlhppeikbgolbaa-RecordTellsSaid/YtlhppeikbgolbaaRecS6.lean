/-
  Two notes held against each other: the document's Same; rows of notes.
-/
import Derived.Test.YtlhppeikbgolbaaRecS5
namespace Go.Proofs.Ytlhppeikbgolbaa.RecD
open Go Go.AM

theorem Q30a {C : CF} {L : Nat} {β : Type} {h : H} {t2 t3 : Nat} {f g : NoteF} {o2 o3 : Option Nat} (h2 : h.get t2 = some (.cells f.packet o2)) (h3 : h.get t3 = some (.cells g.packet o3)) (kn : Value → Value → Value → H → Option β) :
    p30arll C L (.pointer (some ⟨t3, 0, none⟩)) (.pointer (some ⟨t2, 0, none⟩)) h kn = kn (.bool (!decide (f.i 4 = g.i 4 ∧ f.b 5 = g.b 5 ∧ f.i 6 = g.i 6 ∧ f.b 7 = g.b 7 ∧ f.i 8 = g.i 8 ∧ f.s 9 = g.s 9 ∧ f.s 10 = g.s 10 ∧ f.i 11 = g.i 11 ∧ f.b 12 = g.b 12 ∧ f.i 13 = g.i 13 ∧ f.s 14 = g.s 14))) (.pointer (some ⟨t3, 0, none⟩)) (.pointer (some ⟨t2, 0, none⟩)) h := by
  by_cases q0 : f.i 4 = g.i 4
  · skip
    by_cases q1 : f.b 5 = g.b 5
    · skip
      by_cases q2 : f.i 6 = g.i 6
      · skip
        by_cases q3 : f.b 7 = g.b 7
        · skip
          by_cases q4 : f.i 8 = g.i 8
          · skip
            by_cases q5 : f.s 9 = g.s 9
            · skip
              by_cases q6 : f.s 10 = g.s 10
              · skip
                by_cases q7 : f.i 11 = g.i 11
                · skip
                  by_cases q8 : f.b 12 = g.b 12
                  · skip
                    by_cases q9 : f.i 13 = g.i 13
                    · skip
                      by_cases q10 : f.s 14 = g.s 14
                      · skip
                        simp [p30arll, h2, h3, bin_bool_neq Try.underlying4, q0, q1, q2, q3, q4, q5, q6, q7, q8, q9, q10]
                      · simp [p30arll, h2, h3, bin_bool_neq Try.underlying4, q0, q1, q2, q3, q4, q5, q6, q7, q8, q9, q10]
                    · simp [p30arll, h2, h3, bin_bool_neq Try.underlying4, q0, q1, q2, q3, q4, q5, q6, q7, q8, q9]
                  · simp [p30arll, h2, h3, bin_bool_neq Try.underlying4, q0, q1, q2, q3, q4, q5, q6, q7, q8]
                · simp [p30arll, h2, h3, bin_bool_neq Try.underlying4, q0, q1, q2, q3, q4, q5, q6, q7]
              · simp [p30arll, h2, h3, bin_bool_neq Try.underlying4, q0, q1, q2, q3, q4, q5, q6]
            · simp [p30arll, h2, h3, bin_bool_neq Try.underlying4, q0, q1, q2, q3, q4, q5]
          · simp [p30arll, h2, h3, bin_bool_neq Try.underlying4, q0, q1, q2, q3, q4]
        · simp [p30arll, h2, h3, bin_bool_neq Try.underlying4, q0, q1, q2, q3]
      · simp [p30arll, h2, h3, bin_bool_neq Try.underlying4, q0, q1, q2]
    · simp [p30arll, h2, h3, bin_bool_neq Try.underlying4, q0, q1]
  · simp [p30arll, h2, h3, bin_bool_neq Try.underlying4, q0]
theorem Q30b {C : CF} {L : Nat} {β : Type} {h : H} {t2 t3 : Nat} {f g : NoteF} {o2 o3 : Option Nat} (h2 : h.get t2 = some (.cells f.packet o2)) (h3 : h.get t3 = some (.cells g.packet o3)) {n1 n2 : Nat} (l1 : A.lenS f.w = some (.int .i64 n1)) (l2 : A.lenS g.w = some (.int .i64 n2)) (kn : Value → Value → Value → H → Option β) :
    p30arrll C L (.pointer (some ⟨t3, 0, none⟩)) (.pointer (some ⟨t2, 0, none⟩)) h kn = kn (.bool (!(decide (f.b 15 = g.b 15 ∧ f.s 16 = g.s 16 ∧ f.s 17 = g.s 17 ∧ f.i 18 = g.i 18 ∧ f.b 19 = g.b 19 ∧ f.b 20 = g.b 20 ∧ f.b 21 = g.b 21 ∧ f.s 22 = g.s 22 ∧ f.s 23 = g.s 23 ∧ f.b 24 = g.b 24 ∧ f.i 25 = g.i 25 ∧ f.s 27 = g.s 27) && decide (n1 = n2)))) (.pointer (some ⟨t3, 0, none⟩)) (.pointer (some ⟨t2, 0, none⟩)) h := by
  have hn : ((n1 : Int) = (n2 : Int)) = (n1 = n2) := by rw [eq_iff_iff]; omega
  have wc1 := NoteF.will_cells f
  have wc2 := NoteF.will_cells g
  by_cases q0 : f.b 15 = g.b 15
  · skip
    by_cases q1 : (f.s 16 = g.s 16 ∧ f.s 17 = g.s 17 ∧ f.i 18 = g.i 18 ∧ f.b 19 = g.b 19)
    · skip
      by_cases q2 : f.b 20 = g.b 20
      · skip
        by_cases q3 : f.b 21 = g.b 21
        · skip
          by_cases q4 : f.s 22 = g.s 22
          · skip
            by_cases q5 : f.s 23 = g.s 23
            · skip
              by_cases q6 : f.b 24 = g.b 24
              · skip
                by_cases q7 : f.i 25 = g.i 25
                · skip
                  by_cases q8 : f.s 27 = g.s 27
                  · skip
                    simp [p30arrll, h2, h3, bin_bool_neq Try.underlying4, msg_neq, l1, l2, hn, q0, q1, q2, q3, q4, q5, q6, q7, q8]
                  · simp [p30arrll, h2, h3, bin_bool_neq Try.underlying4, msg_neq, l1, l2, hn, q0, q1, q2, q3, q4, q5, q6, q7, q8]
                · simp [p30arrll, h2, h3, bin_bool_neq Try.underlying4, msg_neq, l1, l2, hn, q0, q1, q2, q3, q4, q5, q6, q7]
              · simp [p30arrll, h2, h3, bin_bool_neq Try.underlying4, msg_neq, l1, l2, hn, q0, q1, q2, q3, q4, q5, q6]
            · simp [p30arrll, h2, h3, bin_bool_neq Try.underlying4, msg_neq, l1, l2, hn, q0, q1, q2, q3, q4, q5]
          · simp [p30arrll, h2, h3, bin_bool_neq Try.underlying4, msg_neq, l1, l2, hn, q0, q1, q2, q3, q4]
        · simp [p30arrll, h2, h3, bin_bool_neq Try.underlying4, msg_neq, l1, l2, hn, q0, q1, q2, q3]
      · simp [p30arrll, h2, h3, bin_bool_neq Try.underlying4, msg_neq, l1, l2, hn, q0, q1, q2]
    · have q1' : (decide (f.s 16 = g.s 16) && (decide (f.s 17 = g.s 17) && (decide (f.i 18 = g.i 18) && decide (f.b 19 = g.b 19)))) = false := by
        rw [← Bool.not_eq_true]; simpa using q1
      have q1'' : ¬ (f.b 15 = g.b 15 ∧ f.s 16 = g.s 16 ∧ f.s 17 = g.s 17 ∧ f.i 18 = g.i 18 ∧ f.b 19 = g.b 19 ∧ f.b 20 = g.b 20 ∧ f.b 21 = g.b 21 ∧ f.s 22 = g.s 22 ∧ f.s 23 = g.s 23 ∧ f.b 24 = g.b 24 ∧ f.i 25 = g.i 25 ∧ f.s 27 = g.s 27) := fun hh => q1 ⟨hh.2.1, hh.2.2.1, hh.2.2.2.1, hh.2.2.2.2.1⟩
      have q1c : (decide (f.b 15 = g.b 15 ∧ f.s 16 = g.s 16 ∧ f.s 17 = g.s 17 ∧ f.i 18 = g.i 18 ∧ f.b 19 = g.b 19 ∧ f.b 20 = g.b 20 ∧ f.b 21 = g.b 21 ∧ f.s 22 = g.s 22 ∧ f.s 23 = g.s 23 ∧ f.b 24 = g.b 24 ∧ f.i 25 = g.i 25 ∧ f.s 27 = g.s 27)) = false := by simpa using q1''
      rw [q1c]
      simp [p30arrll, h2, h3, bin_bool_neq Try.underlying4, msg_neq, l1, l2, hn, q0, q1']
  · simp [p30arrll, h2, h3, bin_bool_neq Try.underlying4, msg_neq, l1, l2, hn, q0]

/-- The document's row of Subs. -/
theorem L30 {C : CF} {L : Nat} {β : Type} {kr : Value → H → Option β} {kx : H → Option β} {h : H} {t2 t3 : Nat} {f g : NoteF} {e1 e2 : List (List Value)} {o2 o3 : Option Nat}
    (h2 : h.get t2 = some (.cells f.packet o2)) (h3 : h.get t3 = some (.cells g.packet o3)) (s1 : SliceE 2 h f.w e1) (s2 : SliceE 2 h g.w e2) (T1 : SubsT e1) (T2 : SubsT e2) (hl : e1.length = e2.length) (hb : e1.length < 2 ^ 62) :
    ∀ (n i : Nat), i ≤ e1.length → e1.length - i < n → (∀ j, j < i → e1[j]? = e2[j]?) →
    (p30arrrlrbw C L kr kx n (.int .i64 i) (.pointer (some ⟨t3, 0, none⟩)) (.pointer (some ⟨t2, 0, none⟩)) h = kr (.bool false) h ∧ e1 ≠ e2) ∨
    (p30arrrlrbw C L kr kx n (.int .i64 i) (.pointer (some ⟨t3, 0, none⟩)) (.pointer (some ⟨t2, 0, none⟩)) h = kx h ∧ e1 = e2) := by
  have len1 := s1.len.1
  intro n
  induction n with
  | zero => intro i _ h1; omega
  | succ n ih =>
    intro i hi hn heq
    by_cases hlt : i < e1.length
    · have hlt2 : i < e2.length := by omega
      obtain ⟨a, q, ha⟩ := T1 e1[i] (List.getElem_mem _)
      obtain ⟨a', q', ha'⟩ := T2 e2[i] (List.getElem_mem _)
      have hc : ((i : Int) < (e1.length : Int)) := by omega
      have hw := wrap_succ (n := i) (by omega)
      obtain ⟨id, off, cells, own, g1, g2, g3, g4, g5, g6⟩ := s1.at (i := i) (e := [.string a, .int .u8 q]) (by rw [List.getElem?_eq_getElem hlt, ha]) .i64
      obtain ⟨id', off', cells', own', j1, j2, j3, j4, j5, j6⟩ := s2.at (i := i) (e := [.string a', .int .u8 q']) (by rw [List.getElem?_eq_getElem hlt2, ha']) .i64
      have run : ∀ (kn : Value → Value → Value → H → Option β), p30arrrlrbo C L (.int .i64 i) (.pointer (some ⟨t3, 0, none⟩)) (.pointer (some ⟨t2, 0, none⟩)) h kr kn kx =
          if a = a' ∧ q = q' then kn (.int .i64 ((i + 1 : Nat) : Int)) (.pointer (some ⟨t3, 0, none⟩)) (.pointer (some ⟨t2, 0, none⟩)) h else kr (.bool false) h := by
        intro kn
        rw [← hw]
        by_cases hq : a = a' ∧ q = q'
        · rw [if_pos hq]
          simp only [p30arrrlrbo]
          simp [hc, h2, h3, len1, g1, g3, g4, g5, j1, j3, j4, j5, sub_neq, hq]
        · rw [if_neg hq]
          have : (decide (a = a') && decide (q = q')) = false := by
            by_cases h1 : a = a' <;> by_cases h2 : q = q' <;> simp_all
          simp only [p30arrrlrbo]
          simp [hc, h2, h3, len1, g1, g3, g4, g5, j1, j3, j4, j5, sub_neq, this]
      rw [p30arrrlrbw, run]
      by_cases hq : a = a' ∧ q = q'
      · rw [if_pos hq]
        exact ih (i + 1) (by omega) (by omega) fun j hj => by
          by_cases hji : j = i
          · subst hji; rw [List.getElem?_eq_getElem hlt, List.getElem?_eq_getElem hlt2, ha, ha', hq.1, hq.2]
          · exact heq j (by omega)
      · rw [if_neg hq]
        left
        refine ⟨rfl, fun e => hq ?_⟩
        have e0 : e1[i]? = e2[i]? := by rw [e]
        rw [List.getElem?_eq_getElem hlt, List.getElem?_eq_getElem hlt2, ha, ha'] at e0
        exact sub_inj.1 (Option.some.inj e0)
    · right
      have hc : ¬ ((i : Int) < (e1.length : Int)) := by omega
      refine ⟨by simp [p30arrrlrbw, p30arrrlrbo, h2, len1, hc], ?_⟩
      apply List.ext_getElem?
      intro j
      by_cases hj : j < i
      · exact heq j hj
      · rw [List.getElem?_eq_none_iff.2 (by omega), List.getElem?_eq_none_iff.2 (by omega)]

theorem S30 (n : Nat) {h : H} {f g : NoteF} {e1 e2 : List (List Value)} (s1 : SliceE 2 h f.w e1) (s2 : SliceE 2 h g.w e2) (T1 : SubsT e1) (T2 : SubsT e2) (hn : e1.length + 2 ≤ n) (hb : e1.length < 2 ^ 62) :
    ∃ b h', callB Try.prog 0 O1 (n + 1) 30 [.agg ⟨f.packet⟩, .agg ⟨g.packet⟩] h = some (.bool b, h') ∧ Ext h h' ∧ (b = true ↔ EqP f g ∧ e1 = e2) := by
  rw [F30eq O1 rfl]
  obtain ⟨h1, hh1⟩ : ∃ h1, h1 = (h.push (.cells f.packet (some 0))).push (.cells g.packet (some 0)) := ⟨_, rfl⟩
  have x1 : Ext h h1 := by rw [hh1]; exact (Ext.push _ _).pushed _
  have g2 : h1.get h.next = some (.cells f.packet (some 0)) := by rw [hh1]; simp [H.get_push]
  have g3 : h1.get (h.next + 1) = some (.cells g.packet (some 0)) := by rw [hh1]; simp [H.get_push]
  have len1 := (s1.ext x1).len.1
  have len2 := (s2.ext x1).len.1
  have head : ∀ {β : Type} (kr : Value → H → Option β), p30a (callB Try.prog 0 O1 n) n (.agg ⟨f.packet⟩) (.agg ⟨g.packet⟩) h kr = p30ar (callB Try.prog 0 O1 n) n (.pointer (some ⟨h.next + 1, 0, none⟩)) (.pointer (some ⟨h.next, 0, none⟩)) h1 kr := by
    intro β kr
    simp only [p30a, p30al]
    simp
    rw [← hh1]
  rw [F30, head]
  by_cases ha : f.i 4 = g.i 4 ∧ f.b 5 = g.b 5 ∧ f.i 6 = g.i 6 ∧ f.b 7 = g.b 7 ∧ f.i 8 = g.i 8 ∧ f.s 9 = g.s 9 ∧ f.s 10 = g.s 10 ∧ f.i 11 = g.i 11 ∧ f.b 12 = g.b 12 ∧ f.i 13 = g.i 13 ∧ f.s 14 = g.s 14
  · by_cases hr : f.b 15 = g.b 15 ∧ f.s 16 = g.s 16 ∧ f.s 17 = g.s 17 ∧ f.i 18 = g.i 18 ∧ f.b 19 = g.b 19 ∧ f.b 20 = g.b 20 ∧ f.b 21 = g.b 21 ∧ f.s 22 = g.s 22 ∧ f.s 23 = g.s 23 ∧ f.b 24 = g.b 24 ∧ f.i 25 = g.i 25 ∧ f.s 27 = g.s 27
    · have hp : EqP f g := by
        unfold EqP
        simp only [ha, hr, and_self]
      by_cases hl : e1.length = e2.length
      · have loop := L30 (C := callB Try.prog 0 O1 n) (L := n) (kr := fun x4 h => some (x4, h)) (kx := fun h => p30arrrr (callB Try.prog 0 O1 n) n h fun x4 h => some (x4, h)) g2 g3 (s1.ext x1) (s2.ext x1) T1 T2 hl hb n 0 (by omega) (by omega) (by omega)
        have start : p30ar (callB Try.prog 0 O1 n) n (.pointer (some ⟨h.next + 1, 0, none⟩)) (.pointer (some ⟨h.next, 0, none⟩)) h1 (fun x4 h => some (x4, h)) =
            p30arrrlrbw (callB Try.prog 0 O1 n) n (fun x4 h => some (x4, h)) (fun h => p30arrrr (callB Try.prog 0 O1 n) n h fun x4 h => some (x4, h)) n (.int .i64 ((0 : Nat) : Int)) (.pointer (some ⟨h.next + 1, 0, none⟩)) (.pointer (some ⟨h.next, 0, none⟩)) h1 := by
          have c1 : (!decide (f.i 4 = g.i 4 ∧ f.b 5 = g.b 5 ∧ f.i 6 = g.i 6 ∧ f.b 7 = g.b 7 ∧ f.i 8 = g.i 8 ∧ f.s 9 = g.s 9 ∧ f.s 10 = g.s 10 ∧ f.i 11 = g.i 11 ∧ f.b 12 = g.b 12 ∧ f.i 13 = g.i 13 ∧ f.s 14 = g.s 14)) = false := by simp [ha]
          have c2 : (!(decide (f.b 15 = g.b 15 ∧ f.s 16 = g.s 16 ∧ f.s 17 = g.s 17 ∧ f.i 18 = g.i 18 ∧ f.b 19 = g.b 19 ∧ f.b 20 = g.b 20 ∧ f.b 21 = g.b 21 ∧ f.s 22 = g.s 22 ∧ f.s 23 = g.s 23 ∧ f.b 24 = g.b 24 ∧ f.i 25 = g.i 25 ∧ f.s 27 = g.s 27) && decide (e1.length = e2.length))) = false := by simp [hr, hl]
          simp only [p30ar, p30arl, Q30a g2 g3, c1, p30arlr, condV_bool, cond_false, p30arr, p30arrl, Q30b g2 g3 len1 len2, c2, p30arrlr, p30arrr, p30arrrl, p30arrrll, p30arrrlr, p30arrrlrb]
          rfl
        rw [start]
        rcases loop with ⟨e, hne⟩ | ⟨e, hee⟩
        · exact ⟨false, h1, e, x1, by simp [hne]⟩
        · exact ⟨true, h1, e, x1, by simp [hee, hp]⟩
      · refine ⟨false, h1, ?_, x1, by simp; intro _ e; exact hl (by rw [e])⟩
        have c1 : (!decide (f.i 4 = g.i 4 ∧ f.b 5 = g.b 5 ∧ f.i 6 = g.i 6 ∧ f.b 7 = g.b 7 ∧ f.i 8 = g.i 8 ∧ f.s 9 = g.s 9 ∧ f.s 10 = g.s 10 ∧ f.i 11 = g.i 11 ∧ f.b 12 = g.b 12 ∧ f.i 13 = g.i 13 ∧ f.s 14 = g.s 14)) = false := by simp [ha]
        have c2 : (!(decide (f.b 15 = g.b 15 ∧ f.s 16 = g.s 16 ∧ f.s 17 = g.s 17 ∧ f.i 18 = g.i 18 ∧ f.b 19 = g.b 19 ∧ f.b 20 = g.b 20 ∧ f.b 21 = g.b 21 ∧ f.s 22 = g.s 22 ∧ f.s 23 = g.s 23 ∧ f.b 24 = g.b 24 ∧ f.i 25 = g.i 25 ∧ f.s 27 = g.s 27) && decide (e1.length = e2.length))) = true := by simp [hl]
        simp only [p30ar, p30arl, Q30a g2 g3, c1, p30arlr, condV_bool, cond_false, p30arr, p30arrl, Q30b g2 g3 len1 len2, c2, p30arrlr, cond_true]
    · refine ⟨false, h1, ?_, x1, ?_⟩
      · have c1 : (!decide (f.i 4 = g.i 4 ∧ f.b 5 = g.b 5 ∧ f.i 6 = g.i 6 ∧ f.b 7 = g.b 7 ∧ f.i 8 = g.i 8 ∧ f.s 9 = g.s 9 ∧ f.s 10 = g.s 10 ∧ f.i 11 = g.i 11 ∧ f.b 12 = g.b 12 ∧ f.i 13 = g.i 13 ∧ f.s 14 = g.s 14)) = false := by simp [ha]
        have hr' : decide (f.b 15 = g.b 15 ∧ f.s 16 = g.s 16 ∧ f.s 17 = g.s 17 ∧ f.i 18 = g.i 18 ∧ f.b 19 = g.b 19 ∧ f.b 20 = g.b 20 ∧ f.b 21 = g.b 21 ∧ f.s 22 = g.s 22 ∧ f.s 23 = g.s 23 ∧ f.b 24 = g.b 24 ∧ f.i 25 = g.i 25 ∧ f.s 27 = g.s 27) = false := by simpa using hr
        have c2 : (!(decide (f.b 15 = g.b 15 ∧ f.s 16 = g.s 16 ∧ f.s 17 = g.s 17 ∧ f.i 18 = g.i 18 ∧ f.b 19 = g.b 19 ∧ f.b 20 = g.b 20 ∧ f.b 21 = g.b 21 ∧ f.s 22 = g.s 22 ∧ f.s 23 = g.s 23 ∧ f.b 24 = g.b 24 ∧ f.i 25 = g.i 25 ∧ f.s 27 = g.s 27) && decide (e1.length = e2.length))) = true := by rw [hr']; rfl
        simp only [p30ar, p30arl, Q30a g2 g3, c1, p30arlr, condV_bool, cond_false, p30arr, p30arrl, Q30b g2 g3 len1 len2, c2, p30arrlr, cond_true]
      · simp only [Bool.false_eq_true, false_iff, not_and]
        intro hp _
        refine hr ?_
        unfold EqP at hp
        simp only [hp, and_self]
  · refine ⟨false, h1, ?_, x1, ?_⟩
    · have ha' : decide (f.i 4 = g.i 4 ∧ f.b 5 = g.b 5 ∧ f.i 6 = g.i 6 ∧ f.b 7 = g.b 7 ∧ f.i 8 = g.i 8 ∧ f.s 9 = g.s 9 ∧ f.s 10 = g.s 10 ∧ f.i 11 = g.i 11 ∧ f.b 12 = g.b 12 ∧ f.i 13 = g.i 13 ∧ f.s 14 = g.s 14) = false := by simpa using ha
      have c1 : (!decide (f.i 4 = g.i 4 ∧ f.b 5 = g.b 5 ∧ f.i 6 = g.i 6 ∧ f.b 7 = g.b 7 ∧ f.i 8 = g.i 8 ∧ f.s 9 = g.s 9 ∧ f.s 10 = g.s 10 ∧ f.i 11 = g.i 11 ∧ f.b 12 = g.b 12 ∧ f.i 13 = g.i 13 ∧ f.s 14 = g.s 14)) = true := by rw [ha']; rfl
      simp only [p30ar, p30arl, Q30a g2 g3, c1, p30arlr, condV_bool, cond_true]
    · simp only [Bool.false_eq_true, false_iff, not_and]
      intro hp _
      refine ha ?_
      unfold EqP at hp
      simp only [hp, and_self]

theorem Q16r {n : Nat} {h : H} {t2 t3 : Nat} {f g : NoteF} {o2 o3 : Option Nat} {b : Bool} {h' : H} (h2 : h.get t2 = some (.cells f.cells o2)) (h3 : h.get t3 = some (.cells g.cells o3)) (e30 : callB Try.prog 0 O1 n 30 [.agg ⟨f.packet⟩, .agg ⟨g.packet⟩] h = some (.bool b, h'))
    {β : Type} (kr : Value → H → Option β) : ∃ h'', p16arr (callB Try.prog 0 O1 n) n (.pointer (some ⟨t2, 0, none⟩)) (.pointer (some ⟨t3, 0, none⟩)) h kr = kr (.bool (decide (f.s 28 = g.s 28 ∧ f.s 29 = g.s 29 ∧ f.i 30 = g.i 30 ∧ f.b 31 = g.b 31 ∧ f.b 33 = g.b 33 ∧ f.i 34 = g.i 34) && b)) h'' ∧ (h'' = h ∨ h'' = h') := by
  have mc1 := NoteF.msg_cells f
  have mc2 := NoteF.msg_cells g
  by_cases hm : f.s 28 = g.s 28 ∧ f.s 29 = g.s 29 ∧ f.i 30 = g.i 30 ∧ f.b 31 = g.b 31 ∧ f.b 33 = g.b 33 ∧ f.i 34 = g.i 34
  · refine ⟨h', ?_, .inr rfl⟩
    simp only [p16arr]
    simp [h2, h3, msg_eql, bin_bool_eql Try.underlying4, hm, e30]
  · refine ⟨h, ?_, .inl rfl⟩
    simp only [p16arr]
    by_cases q0 : (f.s 28 = g.s 28 ∧ f.s 29 = g.s 29 ∧ f.i 30 = g.i 30 ∧ f.b 31 = g.b 31)
    · by_cases q1 : f.b 33 = g.b 33
      · by_cases q2 : f.i 34 = g.i 34
        · exact absurd ⟨q0.1, q0.2.1, q0.2.2.1, q0.2.2.2, q1, q2⟩ hm
        · simp [h2, h3, msg_eql, bin_bool_eql Try.underlying4, q0, q1, q2]
      · simp [h2, h3, msg_eql, bin_bool_eql Try.underlying4, q0, q1]
    · have q0' : (decide (f.s 28 = g.s 28) && (decide (f.s 29 = g.s 29) && (decide (f.i 30 = g.i 30) && decide (f.b 31 = g.b 31)))) = false := by
        rw [← Bool.not_eq_true]; simpa using q0
      have hm' : decide (f.s 28 = g.s 28 ∧ f.s 29 = g.s 29 ∧ f.i 30 = g.i 30 ∧ f.b 31 = g.b 31 ∧ f.b 33 = g.b 33 ∧ f.i 34 = g.i 34) = false := by simpa using hm
      simp [h2, h3, msg_eql, q0', hm']

theorem S16 (n : Nat) {h : H} {f g : NoteF} {e1 e2 : List (List Value)} (s1 : SliceE 2 h f.w e1) (s2 : SliceE 2 h g.w e2) (T1 : SubsT e1) (T2 : SubsT e2) (hn : e1.length + 2 ≤ n) (hb : e1.length < 2 ^ 62) :
    ∃ b h', callB Try.prog 0 O1 (n + 2) 16 [.agg ⟨f.cells⟩, .agg ⟨g.cells⟩] h = some (.bool b, h') ∧ Ext h h' ∧ (b = true ↔ EqN f g ∧ e1 = e2) := by
  rw [F16eq O1 rfl]
  obtain ⟨h1, hh1⟩ : ∃ h1, h1 = (h.push (.cells f.cells (some 0))).push (.cells g.cells (some 0)) := ⟨_, rfl⟩
  have x1 : Ext h h1 := by rw [hh1]; exact (Ext.push _ _).pushed _
  have g2 : h1.get h.next = some (.cells f.cells (some 0)) := by rw [hh1]; simp [H.get_push]
  have g3 : h1.get (h.next + 1) = some (.cells g.cells (some 0)) := by rw [hh1]; simp [H.get_push]
  obtain ⟨b, h2, e30, x2, hb2⟩ := S30 n (s1.ext x1) (s2.ext x1) T1 T2 hn hb
  obtain ⟨h3, e, hor⟩ := Q16r g2 g3 e30 (fun x4 h => some (x4, h))
  have head : ∀ {β : Type} (kn : Value → Value → H → Option β), p16al (callB Try.prog 0 O1 (n + 1)) (n + 1) (.agg ⟨f.cells⟩) (.agg ⟨g.cells⟩) h kn = kn (.pointer (some ⟨h.next, 0, none⟩)) (.pointer (some ⟨h.next + 1, 0, none⟩)) h1 := by
    intro β kn
    simp only [p16al]
    simp
    rw [← hh1]
  by_cases ha : f.i 0 = g.i 0 ∧ f.i 1 = g.i 1 ∧ f.i 2 = g.i 2 ∧ f.s 3 = g.s 3 ∧ f.s 32 = g.s 32
  · refine ⟨decide (f.s 28 = g.s 28 ∧ f.s 29 = g.s 29 ∧ f.i 30 = g.i 30 ∧ f.b 31 = g.b 31 ∧ f.b 33 = g.b 33 ∧ f.i 34 = g.i 34) && b, h3, ?_, ?_, ?_⟩
    · have c1 : (!decide (f.i 0 = g.i 0 ∧ f.i 1 = g.i 1 ∧ f.i 2 = g.i 2 ∧ f.s 3 = g.s 3 ∧ f.s 32 = g.s 32)) = false := by simp [ha]
      rw [F16, p16a, head, p16ar, p16arl, Q16l g2 g3, c1]
      simp only [p16arlr, condV_bool, cond_false]
      exact e
    · rcases hor with rfl | rfl
      · exact x1
      · exact x1.trans x2
    · simp only [Bool.and_eq_true, decide_eq_true_eq, hb2, EqN]
      constructor
      · rintro ⟨⟨b1, b2, b3, b4, b5, b6⟩, hp, he⟩
        exact ⟨⟨⟨ha.1, ha.2.1, ha.2.2.1, ha.2.2.2.1, b1, b2, b3, b4, ha.2.2.2.2, b5, b6⟩, hp⟩, he⟩
      · rintro ⟨⟨⟨a0, a1, a2, a3, b1, b2, b3, b4, a4, b5, b6⟩, hp⟩, he⟩
        exact ⟨⟨b1, b2, b3, b4, b5, b6⟩, hp, he⟩
  · refine ⟨false, h1, ?_, x1, ?_⟩
    · have ha' : decide (f.i 0 = g.i 0 ∧ f.i 1 = g.i 1 ∧ f.i 2 = g.i 2 ∧ f.s 3 = g.s 3 ∧ f.s 32 = g.s 32) = false := by simpa using ha
      have c1 : (!decide (f.i 0 = g.i 0 ∧ f.i 1 = g.i 1 ∧ f.i 2 = g.i 2 ∧ f.s 3 = g.s 3 ∧ f.s 32 = g.s 32)) = true := by rw [ha']; rfl
      rw [F16, p16a, head, p16ar, p16arl, Q16l g2 g3, c1]
      simp only [p16arlr, condV_bool, cond_true]
    · simp only [Bool.false_eq_true, false_iff, not_and, EqN]
      intro hp _
      exact ha ⟨hp.1.1, hp.1.2.1, hp.1.2.2.1, hp.1.2.2.2.1, hp.1.2.2.2.2.2.2.2.2.1⟩
end Go.Proofs.Ytlhppeikbgolbaa.RecD
