/-
  Two notes held against each other.
-/
import Derived.Test.YtlhppeikbgolbaaRecS3
namespace Go.Proofs.Ytlhppeikbgolbaa.RecD
open Go Go.AM

/-- Two packets are the same but for their Subs. -/
def EqP (f g : NoteF) : Prop := f.i 4 = g.i 4 ∧ f.b 5 = g.b 5 ∧ f.i 6 = g.i 6 ∧ f.b 7 = g.b 7 ∧ f.i 8 = g.i 8 ∧ f.s 9 = g.s 9 ∧ f.s 10 = g.s 10 ∧ f.i 11 = g.i 11 ∧ f.b 12 = g.b 12 ∧ f.i 13 = g.i 13 ∧ f.s 14 = g.s 14 ∧ f.b 15 = g.b 15 ∧ f.s 16 = g.s 16 ∧ f.s 17 = g.s 17 ∧ f.i 18 = g.i 18 ∧ f.b 19 = g.b 19 ∧ f.b 20 = g.b 20 ∧ f.b 21 = g.b 21 ∧ f.s 22 = g.s 22 ∧ f.s 23 = g.s 23 ∧ f.b 24 = g.b 24 ∧ f.i 25 = g.i 25 ∧ f.s 27 = g.s 27
/-- Two notes are the same but for their Subs. -/
def EqN (f g : NoteF) : Prop := (f.i 0 = g.i 0 ∧ f.i 1 = g.i 1 ∧ f.i 2 = g.i 2 ∧ f.s 3 = g.s 3 ∧ f.s 28 = g.s 28 ∧ f.s 29 = g.s 29 ∧ f.i 30 = g.i 30 ∧ f.b 31 = g.b 31 ∧ f.s 32 = g.s 32 ∧ f.b 33 = g.b 33 ∧ f.i 34 = g.i 34) ∧ EqP f g
instance (f g : NoteF) : Decidable (EqP f g) := by unfold EqP; infer_instance
instance (f g : NoteF) : Decidable (EqN f g) := by unfold EqN; infer_instance

theorem Q26l {C : CF} {L : Nat} {β : Type} {h : H} {t2 t3 : Nat} {f g : NoteF} {o2 o3 : Option Nat} (h2 : h.get t2 = some (.cells f.cells o2)) (h3 : h.get t3 = some (.cells g.cells o3)) (kn : Value → Value → Value → H → Option β) :
    p26arl C L (.pointer (some ⟨t2, 0, none⟩)) (.pointer (some ⟨t3, 0, none⟩)) h kn = kn (.bool (decide (f.i 0 = g.i 0 ∧ f.i 1 = g.i 1 ∧ f.i 2 = g.i 2 ∧ f.s 3 = g.s 3 ∧ f.s 32 = g.s 32))) (.pointer (some ⟨t2, 0, none⟩)) (.pointer (some ⟨t3, 0, none⟩)) h := by
  by_cases q0 : f.i 0 = g.i 0
  · skip
    by_cases q1 : f.i 1 = g.i 1
    · skip
      by_cases q2 : f.i 2 = g.i 2
      · skip
        by_cases q3 : f.s 3 = g.s 3
        · skip
          by_cases q4 : f.s 32 = g.s 32
          · skip
            simp [p26arl, h2, h3, q0, q1, q2, q3, q4]
          · simp [p26arl, h2, h3, q0, q1, q2, q3, q4]
        · simp [p26arl, h2, h3, q0, q1, q2, q3]
      · simp [p26arl, h2, h3, q0, q1, q2]
    · simp [p26arl, h2, h3, q0, q1]
  · simp [p26arl, h2, h3, q0]
theorem Q16l {C : CF} {L : Nat} {β : Type} {h : H} {t2 t3 : Nat} {f g : NoteF} {o2 o3 : Option Nat} (h2 : h.get t2 = some (.cells f.cells o2)) (h3 : h.get t3 = some (.cells g.cells o3)) (kn : Value → Value → Value → H → Option β) :
    p16arll C L (.pointer (some ⟨t2, 0, none⟩)) (.pointer (some ⟨t3, 0, none⟩)) h kn = kn (.bool (!decide (f.i 0 = g.i 0 ∧ f.i 1 = g.i 1 ∧ f.i 2 = g.i 2 ∧ f.s 3 = g.s 3 ∧ f.s 32 = g.s 32))) (.pointer (some ⟨t2, 0, none⟩)) (.pointer (some ⟨t3, 0, none⟩)) h := by
  by_cases q0 : f.i 0 = g.i 0
  · skip
    by_cases q1 : f.i 1 = g.i 1
    · skip
      by_cases q2 : f.i 2 = g.i 2
      · skip
        by_cases q3 : f.s 3 = g.s 3
        · skip
          by_cases q4 : f.s 32 = g.s 32
          · skip
            simp [p16arll, h2, h3, q0, q1, q2, q3, q4]
          · simp [p16arll, h2, h3, q0, q1, q2, q3, q4]
        · simp [p16arll, h2, h3, q0, q1, q2, q3]
      · simp [p16arll, h2, h3, q0, q1, q2]
    · simp [p16arll, h2, h3, q0, q1]
  · simp [p16arll, h2, h3, q0]

theorem msg_eq (a b a' b' : ByteArray) (c c' : Int) (d d' : Bool) : A.eqV Try.prog 20 31 (.agg ⟨[.string a, .string b, .int .u8 c, .bool d]⟩) (.agg ⟨[.string a', .string b', .int .u8 c', .bool d']⟩) =
    some (decide (a = a') && (decide (b = b') && (decide (c = c') && decide (d = d')))) := by
  have e : A.eqV Try.prog 20 31 (.agg ⟨[.string a, .string b, .int .u8 c, .bool d]⟩) (.agg ⟨[.string a', .string b', .int .u8 c', .bool d']⟩) =
    (bif (a.data.toList == a'.data.toList) then (bif (b.data.toList == b'.data.toList) then (bif (c == c') then (bif (d == d') then some true else some false) else some false) else some false) else some false) := by kernel_rfl
  rw [e, bytes_beq, bytes_beq]
  have h1 : (c == c') = decide (c = c') := rfl
  have h2 : (d == d') = decide (d = d') := by cases d <;> cases d' <;> rfl
  rw [h1, h2]
  cases decide (a = a') <;> cases decide (b = b') <;> cases decide (c = c') <;> cases decide (d = d') <;> rfl
theorem msg_eql (a b a' b' : ByteArray) (c c' : Int) (d d' : Bool) : A.bin Try.prog .eql 31 (.agg ⟨[.string a, .string b, .int .u8 c, .bool d]⟩) (.agg ⟨[.string a', .string b', .int .u8 c', .bool d']⟩) =
    some (.bool (decide (a = a') && (decide (b = b') && (decide (c = c') && decide (d = d'))))) := bin_agg_eql rfl rfl (by kernel_rfl) (msg_eq ..)
theorem msg_neq (a b a' b' : ByteArray) (c c' : Int) (d d' : Bool) : A.bin Try.prog .neq 31 (.agg ⟨[.string a, .string b, .int .u8 c, .bool d]⟩) (.agg ⟨[.string a', .string b', .int .u8 c', .bool d']⟩) =
    some (.bool (!(decide (a = a') && (decide (b = b') && (decide (c = c') && decide (d = d')))))) := bin_agg_neq rfl rfl (by kernel_rfl) (msg_eq ..)
theorem sub_eq (a a' : ByteArray) (c c' : Int) : A.eqV Try.prog 20 57 (.agg ⟨[.string a, .int .u8 c]⟩) (.agg ⟨[.string a', .int .u8 c']⟩) = some (decide (a = a') && decide (c = c')) := by
  have e : A.eqV Try.prog 20 57 (.agg ⟨[.string a, .int .u8 c]⟩) (.agg ⟨[.string a', .int .u8 c']⟩) = (bif (a.data.toList == a'.data.toList) then (bif (c == c') then some true else some false) else some false) := by kernel_rfl
  rw [e, bytes_beq]
  have h1 : (c == c') = decide (c = c') := rfl
  rw [h1]
  cases decide (a = a') <;> cases decide (c = c') <;> rfl
theorem sub_neq (a a' : ByteArray) (c c' : Int) : A.bin Try.prog .neq 57 (.agg ⟨[.string a, .int .u8 c]⟩) (.agg ⟨[.string a', .int .u8 c']⟩) = some (.bool (!(decide (a = a') && decide (c = c')))) :=
  bin_agg_neq rfl rfl (by kernel_rfl) (sub_eq ..)

@[simp] theorem NoteF.msg_cells (f : NoteF) : List.take 4 (List.drop 28 f.cells) = [.string (f.s 28), .string (f.s 29), .int .u8 (f.i 30), .bool (f.b 31)] := (rfl)
@[simp] theorem NoteF.pkt_cells (f : NoteF) : List.take 24 (List.drop 4 f.cells) = f.packet := (rfl)
@[simp] theorem NoteF.will_cells (f : NoteF) : List.take 4 (List.drop 12 f.packet) = [.string (f.s 16), .string (f.s 17), .int .u8 (f.i 18), .bool (f.b 19)] := (rfl)

/-- A packet laid flat. -/
def NoteF.plain (f : NoteF) : List Value := [.int .u8 (f.i 4), .int .u8 (f.i 6), .int .u8 (f.i 11), .int .u8 (f.i 25), .bool (f.b 5), .bool (f.b 7), .bool (f.b 12), .bool (f.b 15), .bool (f.b 20), .bool (f.b 21), .bool (f.b 24), .int .u16 (f.i 8), .int .u16 (f.i 13), .string (f.s 9), .string (f.s 10), .string (f.s 14), .string (f.s 22), .string (f.s 23), .string (f.s 27), .string (f.s 16), .string (f.s 17), .int .u8 (f.i 18), .bool (f.b 19)]
@[simp] theorem NoteF.plain_length (f : NoteF) : f.plain.length = 23 := (rfl)
theorem build68 (f : NoteF) : A.build Z68L [(0, 1, .int .u8 (f.i 4)), (1, 1, .int .u8 (f.i 6)), (2, 1, .int .u8 (f.i 11)), (3, 1, .int .u8 (f.i 25)), (4, 1, .bool (f.b 5)), (5, 1, .bool (f.b 7)), (6, 1, .bool (f.b 12)), (7, 1, .bool (f.b 15)), (8, 1, .bool (f.b 20)), (9, 1, .bool (f.b 21)), (10, 1, .bool (f.b 24)), (11, 1, .int .u16 (f.i 8)), (12, 1, .int .u16 (f.i 13)), (13, 1, .string (f.s 9)), (14, 1, .string (f.s 10)), (15, 1, .string (f.s 14)), (16, 1, .string (f.s 22)), (17, 1, .string (f.s 23)), (18, 1, .string (f.s 27)), (19, 4, .agg ⟨[.string (f.s 16), .string (f.s 17), .int .u8 (f.i 18), .bool (f.b 19)]⟩)] = some (.agg ⟨f.plain⟩) := by kernel_rfl
theorem splice68 (f : NoteF) : splice Z68L 0 f.plain = f.plain := by kernel_rfl
theorem take23 (f : NoteF) : List.take 23 f.plain = f.plain := rfl
theorem take24 (f : NoteF) : List.take 24 f.packet = f.packet := rfl


theorem S34 (n : Nat) (h : H) (f : NoteF) : ∃ h', callB Try.prog 0 O1 (n + 1) 34 [.agg ⟨f.packet⟩] h = some (.agg ⟨f.plain⟩, h') ∧ Ext h h' := by
  rw [F34eq O1 rfl]
  have hz : cellsL Z68 = some Z68L := rfl
  have hz2 : Z68L.length = 23 := rfl
  have hb := build68 f
  have hs := splice68 f
  have ht := take23 f
  refine ⟨((h.push (.cells f.packet (some 0))).push (.cells Z68L (some 0))).put (h.next + 1) (.cells f.plain (some 0)), ?_, ((Ext.push h _).pushed _).put _ _ (by omega)⟩
  simp only [F34, p34a]
  simp [hz, hz2, H.get_push, H.get_put, hb, hs, ht, resC, packA]

theorem plain_eq (f g : NoteF) : A.eqV Try.prog 20 68 (.agg ⟨f.plain⟩) (.agg ⟨g.plain⟩) = some (decide (EqP f g)) := by
  have e : A.eqV Try.prog 20 68 (.agg ⟨f.plain⟩) (.agg ⟨g.plain⟩) = ((bif (f.i 4 == g.i 4) then (bif (f.i 6 == g.i 6) then (bif (f.i 11 == g.i 11) then (bif (f.i 25 == g.i 25) then (bif (f.b 5 == g.b 5) then (bif (f.b 7 == g.b 7) then (bif (f.b 12 == g.b 12) then (bif (f.b 15 == g.b 15) then (bif (f.b 20 == g.b 20) then (bif (f.b 21 == g.b 21) then (bif (f.b 24 == g.b 24) then (bif (f.i 8 == g.i 8) then (bif (f.i 13 == g.i 13) then (bif ((f.s 9).data.toList == (g.s 9).data.toList) then (bif ((f.s 10).data.toList == (g.s 10).data.toList) then (bif ((f.s 14).data.toList == (g.s 14).data.toList) then (bif ((f.s 22).data.toList == (g.s 22).data.toList) then (bif ((f.s 23).data.toList == (g.s 23).data.toList) then (bif ((f.s 27).data.toList == (g.s 27).data.toList) then (match (bif ((f.s 16).data.toList == (g.s 16).data.toList) then (bif ((f.s 17).data.toList == (g.s 17).data.toList) then (bif (f.i 18 == g.i 18) then (bif (f.b 19 == g.b 19) then some true else some false) else some false) else some false) else some false) with | some q => (bif q then some true else some false) | none => none) else some false) else some false) else some false) else some false) else some false) else some false) else some false) else some false) else some false) else some false) else some false) else some false) else some false) else some false) else some false) else some false) else some false) else some false) else some false)) := by kernel_rfl
  rw [e]
  simp only [bytes_beq]
  have hi : ∀ a b : Int, (a == b) = decide (a = b) := fun _ _ => rfl
  have hb : ∀ a b : Bool, (a == b) = decide (a = b) := by intro a b; cases a <;> cases b <;> rfl
  simp only [hi, hb]
  unfold EqP
  by_cases q0 : f.i 4 = g.i 4
  · skip
    by_cases q1 : f.i 6 = g.i 6
    · skip
      by_cases q2 : f.i 11 = g.i 11
      · skip
        by_cases q3 : f.i 25 = g.i 25
        · skip
          by_cases q4 : f.b 5 = g.b 5
          · skip
            by_cases q5 : f.b 7 = g.b 7
            · skip
              by_cases q6 : f.b 12 = g.b 12
              · skip
                by_cases q7 : f.b 15 = g.b 15
                · skip
                  by_cases q8 : f.b 20 = g.b 20
                  · skip
                    by_cases q9 : f.b 21 = g.b 21
                    · skip
                      by_cases q10 : f.b 24 = g.b 24
                      · skip
                        by_cases q11 : f.i 8 = g.i 8
                        · skip
                          by_cases q12 : f.i 13 = g.i 13
                          · skip
                            by_cases q13 : f.s 9 = g.s 9
                            · skip
                              by_cases q14 : f.s 10 = g.s 10
                              · skip
                                by_cases q15 : f.s 14 = g.s 14
                                · skip
                                  by_cases q16 : f.s 22 = g.s 22
                                  · skip
                                    by_cases q17 : f.s 23 = g.s 23
                                    · skip
                                      by_cases q18 : f.s 27 = g.s 27
                                      · skip
                                        by_cases q19 : f.s 16 = g.s 16
                                        · skip
                                          by_cases q20 : f.s 17 = g.s 17
                                          · skip
                                            by_cases q21 : f.i 18 = g.i 18
                                            · skip
                                              by_cases q22 : f.b 19 = g.b 19
                                              · skip
                                                simp only [q0, q1, q2, q3, q4, q5, q6, q7, q8, q9, q10, q11, q12, q13, q14, q15, q16, q17, q18, q19, q20, q21, q22, decide_true, cond_true, and_self]
                                              · simp only [q0, q1, q2, q3, q4, q5, q6, q7, q8, q9, q10, q11, q12, q13, q14, q15, q16, q17, q18, q19, q20, q21, q22, decide_true, decide_false, cond_true, cond_false, false_and, and_false]
                                            · simp only [q0, q1, q2, q3, q4, q5, q6, q7, q8, q9, q10, q11, q12, q13, q14, q15, q16, q17, q18, q19, q20, q21, decide_true, decide_false, cond_true, cond_false, false_and, and_false]
                                          · simp only [q0, q1, q2, q3, q4, q5, q6, q7, q8, q9, q10, q11, q12, q13, q14, q15, q16, q17, q18, q19, q20, decide_true, decide_false, cond_true, cond_false, false_and, and_false]
                                        · simp only [q0, q1, q2, q3, q4, q5, q6, q7, q8, q9, q10, q11, q12, q13, q14, q15, q16, q17, q18, q19, decide_true, decide_false, cond_true, cond_false, false_and, and_false]
                                      · simp only [q0, q1, q2, q3, q4, q5, q6, q7, q8, q9, q10, q11, q12, q13, q14, q15, q16, q17, q18, decide_true, decide_false, cond_true, cond_false, false_and, and_false]
                                    · simp only [q0, q1, q2, q3, q4, q5, q6, q7, q8, q9, q10, q11, q12, q13, q14, q15, q16, q17, decide_true, decide_false, cond_true, cond_false, false_and, and_false]
                                  · simp only [q0, q1, q2, q3, q4, q5, q6, q7, q8, q9, q10, q11, q12, q13, q14, q15, q16, decide_true, decide_false, cond_true, cond_false, false_and, and_false]
                                · simp only [q0, q1, q2, q3, q4, q5, q6, q7, q8, q9, q10, q11, q12, q13, q14, q15, decide_true, decide_false, cond_true, cond_false, false_and, and_false]
                              · simp only [q0, q1, q2, q3, q4, q5, q6, q7, q8, q9, q10, q11, q12, q13, q14, decide_true, decide_false, cond_true, cond_false, false_and, and_false]
                            · simp only [q0, q1, q2, q3, q4, q5, q6, q7, q8, q9, q10, q11, q12, q13, decide_true, decide_false, cond_true, cond_false, false_and, and_false]
                          · simp only [q0, q1, q2, q3, q4, q5, q6, q7, q8, q9, q10, q11, q12, decide_true, decide_false, cond_true, cond_false, false_and, and_false]
                        · simp only [q0, q1, q2, q3, q4, q5, q6, q7, q8, q9, q10, q11, decide_true, decide_false, cond_true, cond_false, false_and, and_false]
                      · simp only [q0, q1, q2, q3, q4, q5, q6, q7, q8, q9, q10, decide_true, decide_false, cond_true, cond_false, false_and, and_false]
                    · simp only [q0, q1, q2, q3, q4, q5, q6, q7, q8, q9, decide_true, decide_false, cond_true, cond_false, false_and, and_false]
                  · simp only [q0, q1, q2, q3, q4, q5, q6, q7, q8, decide_true, decide_false, cond_true, cond_false, false_and, and_false]
                · simp only [q0, q1, q2, q3, q4, q5, q6, q7, decide_true, decide_false, cond_true, cond_false, false_and, and_false]
              · simp only [q0, q1, q2, q3, q4, q5, q6, decide_true, decide_false, cond_true, cond_false, false_and, and_false]
            · simp only [q0, q1, q2, q3, q4, q5, decide_true, decide_false, cond_true, cond_false, false_and, and_false]
          · simp only [q0, q1, q2, q3, q4, decide_true, decide_false, cond_true, cond_false, false_and, and_false]
        · simp only [q0, q1, q2, q3, decide_true, decide_false, cond_true, cond_false, false_and, and_false]
      · simp only [q0, q1, q2, decide_true, decide_false, cond_true, cond_false, false_and, and_false]
    · simp only [q0, q1, decide_true, decide_false, cond_true, cond_false, false_and, and_false]
  · simp only [q0, decide_true, decide_false, cond_true, cond_false, false_and, and_false]
theorem plain_neq (f g : NoteF) : A.bin Try.prog .neq 68 (.agg ⟨f.plain⟩) (.agg ⟨g.plain⟩) = some (.bool (!decide (EqP f g))) := bin_agg_neq rfl rfl (by kernel_rfl) (plain_eq f g)
end Go.Proofs.Ytlhppeikbgolbaa.RecD
