/-
  Two notes held against each other: the program's Same, the document's Same.
-/
import Derived.Test.YtlhppeikbgolbaaRecS4
namespace Go.Proofs.Ytlhppeikbgolbaa.RecD
open Go Go.AM

theorem sub_inj {s s' : ByteArray} {q q' : Int} : ([Value.string s, .int .u8 q] = [Value.string s', .int .u8 q']) ↔ s = s' ∧ q = q' := by simp

/-- The program's row of Subs. -/
theorem L31 {C : CF} {L : Nat} {β : Type} {kr : Value → H → Option β} {kx : H → Option β} {h1 : H} {t3 : Nat} {g : NoteF} {v : Value} {e1 e2 : List (List Value)} {o3 : Option Nat}
    (ht : h1.get t3 = some (.cells g.packet o3)) (ht' : t3 < h1.next) (s1 : SliceE 2 h1 v e1) (s2 : SliceE 2 h1 g.w e2) (T1 : SubsT e1) (T2 : SubsT e2) (hl : e1.length = e2.length) (hb : e1.length < 2 ^ 62) :
    ∀ (n i : Nat) (h : H), i ≤ e1.length → e1.length - i < n → Ext h1 h → (∀ j, j < i → e1[j]? = e2[j]?) →
    (∃ h', p31arrlrbw C L kr kx n (.int .i64 e1.length) (.int .i64 i) (.pointer (some ⟨t3, 0, none⟩)) v h = kr (.bool false) h' ∧ Ext h1 h' ∧ e1 ≠ e2) ∨
    (∃ h', p31arrlrbw C L kr kx n (.int .i64 e1.length) (.int .i64 i) (.pointer (some ⟨t3, 0, none⟩)) v h = kx h' ∧ Ext h1 h' ∧ e1 = e2) := by
  intro n
  induction n with
  | zero => intro i h _ h1; omega
  | succ n ih =>
    intro i h hi hn hx heq
    by_cases hlt : i < e1.length
    · have hlt2 : i < e2.length := by omega
      obtain ⟨a, q, ha⟩ := T1 e1[i] (List.getElem_mem _)
      obtain ⟨a', q', ha'⟩ := T2 e2[i] (List.getElem_mem _)
      have hc : ((i : Int) < (e1.length : Int)) := by omega
      have hw := wrap_succ (n := i) (by omega)
      obtain ⟨id, off, cells, own, g1, g2, g3, g4, g5, g6⟩ := (s1.ext hx).at (i := i) (e := [.string a, .int .u8 q]) (by rw [List.getElem?_eq_getElem hlt, ha]) .i64
      -- behind the local copy
      obtain ⟨h2, hh2⟩ : ∃ h2, h2 = (h.push (.cells Z57L (some 0))).put h.next (.cells [.string a, .int .u8 q] (some 0)) := ⟨_, rfl⟩
      have hx2 : Ext h h2 := by rw [hh2]; exact (Ext.push h _).put _ _ (Nat.le_refl _)
      obtain ⟨id', off', cells', own', j1, j2, j3, j4, j5, j6⟩ := (s2.ext (hx.trans hx2)).at (i := i) (e := [.string a', .int .u8 q']) (by rw [List.getElem?_eq_getElem hlt2, ha']) .i64
      have gt : h2.get t3 = some (.cells g.packet o3) := by rw [(hx.trans hx2).get _ ht']; exact ht
      have gn : h2.get h.next = some (.cells [.string a, .int .u8 q] (some 0)) := by rw [hh2]; simp [H.get_put]
      have hz : cellsL Z57 = some Z57L := rfl
      have hz2 : Z57L.length = 2 := rfl
      have hsp : splice Z57L 0 [.string a, .int .u8 q] = [.string a, .int .u8 q] := rfl
      have run : ∀ (kn : Value → Value → Value → Value → H → Option β), p31arrlrbo C L (.int .i64 e1.length) (.int .i64 i) (.pointer (some ⟨t3, 0, none⟩)) v h kr kn kx =
          if a = a' ∧ q = q' then kn (.int .i64 e1.length) (.int .i64 ((i + 1 : Nat) : Int)) (.pointer (some ⟨t3, 0, none⟩)) v h2 else kr (.bool false) h2 := by
        intro kn
        rw [← hw]
        by_cases hq : a = a' ∧ q = q'
        · rw [if_pos hq]
          simp only [p31arrlrbo]
          simp [hc, g1, g3, g4, g5, hz, hz2, H.get_push, hsp]
          rw [← hh2]
          simp [gn, gt, j1, j3, j4, j5, sub_neq, hq]
        · rw [if_neg hq]
          simp only [p31arrlrbo]
          simp [hc, g1, g3, g4, g5, hz, hz2, H.get_push, hsp]
          rw [← hh2]
          have : (decide (a = a') && decide (q = q')) = false := by
            by_cases h1 : a = a' <;> by_cases h2 : q = q' <;> simp_all
          simp [gn, gt, j1, j3, j4, j5, sub_neq, this]
      rw [p31arrlrbw, run]
      by_cases hq : a = a' ∧ q = q'
      · rw [if_pos hq]
        exact ih (i + 1) h2 (by omega) (by omega) (hx.trans hx2) fun j hj => by
          by_cases hji : j = i
          · subst hji; rw [List.getElem?_eq_getElem hlt, List.getElem?_eq_getElem hlt2, ha, ha', hq.1, hq.2]
          · exact heq j (by omega)
      · rw [if_neg hq]
        left
        refine ⟨h2, rfl, hx.trans hx2, fun e => hq ?_⟩
        have e0 : e1[i]? = e2[i]? := by rw [e]
        rw [List.getElem?_eq_getElem hlt, List.getElem?_eq_getElem hlt2, ha, ha'] at e0
        exact sub_inj.1 (Option.some.inj e0)
    · right
      have hc : ¬ ((i : Int) < (e1.length : Int)) := by omega
      refine ⟨h, by simp [p31arrlrbw, p31arrlrbo, hc], hx, ?_⟩
      apply List.ext_getElem?
      intro j
      by_cases hj : j < i
      · exact heq j hj
      · rw [List.getElem?_eq_none_iff.2 (by omega), List.getElem?_eq_none_iff.2 (by omega)]

theorem S31 (n : Nat) {h : H} {f g : NoteF} {e1 e2 : List (List Value)} (s1 : SliceE 2 h f.w e1) (s2 : SliceE 2 h g.w e2) (T1 : SubsT e1) (T2 : SubsT e2) (hn : e1.length + 2 ≤ n) (hb : e1.length < 2 ^ 62) :
    ∃ b h', callB Try.prog 0 O1 (n + 1) 31 [.agg ⟨f.packet⟩, .agg ⟨g.packet⟩] h = some (.bool b, h') ∧ Ext h h' ∧ (b = true ↔ EqP f g ∧ e1 = e2) := by
  rw [F31eq O1 rfl]
  obtain ⟨h1, hh1⟩ : ∃ h1, h1 = (h.push (.cells f.packet (some 0))).push (.cells g.packet (some 0)) := ⟨_, rfl⟩
  have x1 : Ext h h1 := by rw [hh1]; exact (Ext.push _ _).pushed _
  have hn1 : h1.next = h.next + 2 := by rw [hh1]; rfl
  have g2 : h1.get h.next = some (.cells f.packet (some 0)) := by rw [hh1]; simp [H.get_push]
  have g3 : h1.get (h.next + 1) = some (.cells g.packet (some 0)) := by rw [hh1]; simp [H.get_push]
  obtain ⟨h2, e34, x2⟩ := S34 (n - 1) h1 f
  rw [show n - 1 + 1 = n by omega] at e34
  obtain ⟨h3, e34', x3⟩ := S34 (n - 1) h2 g
  rw [show n - 1 + 1 = n by omega] at e34'
  have g3' : h2.get (h.next + 1) = some (.cells g.packet (some 0)) := by rw [x2.get _ (by omega)]; exact g3
  have x13 : Ext h1 h3 := x2.trans x3
  have k2 : h3.get h.next = some (.cells f.packet (some 0)) := by rw [x13.get _ (by omega)]; exact g2
  have k3 : h3.get (h.next + 1) = some (.cells g.packet (some 0)) := by rw [x13.get _ (by omega)]; exact g3
  have t2 := take24 f
  have t3 := take24 g
  have len1 := (s1.ext (x1.trans x13)).len.1
  have len2 := (s2.ext (x1.trans x13)).len.1
  have hchk : same (.agg ⟨g.packet⟩) (.agg ⟨g.packet⟩) = true ∨ True := .inr trivial
  have head : ∀ {β : Type} (kr : Value → H → Option β), p31a (callB Try.prog 0 O1 n) n (.agg ⟨f.packet⟩) (.agg ⟨g.packet⟩) h kr = p31ar (callB Try.prog 0 O1 n) n (.pointer (some ⟨h.next, 0, none⟩)) (.pointer (some ⟨h.next + 1, 0, none⟩)) h1 kr := by
    intro β kr
    simp only [p31a, p31al]
    simp
    rw [← hh1]
  have same2 : same (.agg ⟨g.packet⟩) (.agg ⟨g.packet⟩) = true := by
    have hs := s2.same
    simp [same, sameA, sameL, NoteF.packet, hs, kind_beq]
  by_cases hp : EqP f g
  · by_cases hl : e1.length = e2.length
    · have mid : ∀ {β : Type} (kr : Value → H → Option β) (kn : Value → Value → H → Option β), p31arl (callB Try.prog 0 O1 n) n (.pointer (some ⟨h.next, 0, none⟩)) (.pointer (some ⟨h.next + 1, 0, none⟩)) h1 kr kn =
          kn (.pointer (some ⟨h.next, 0, none⟩)) (.pointer (some ⟨h.next + 1, 0, none⟩)) h3 := by
        intro β kr kn
        simp only [p31arl]
        simp [g2, g3, g3', t2, t3, e34, e34', chk, same2, plain_neq, hp, k2, k3, len1, len2, hl]
      have loop := L31 (C := callB Try.prog 0 O1 n) (L := n) (kr := fun x4 h => some (x4, h)) (kx := fun h => p31arrr (callB Try.prog 0 O1 n) n h fun x4 h => some (x4, h)) (h1 := h3) k3 (by have := x13.next; omega) (s1.ext (x1.trans x13)) (s2.ext (x1.trans x13)) T1 T2 hl hb n 0 h3 (by omega) (by omega) (Ext.refl _) (by omega)
      have start : p31arr (callB Try.prog 0 O1 n) n (.pointer (some ⟨h.next, 0, none⟩)) (.pointer (some ⟨h.next + 1, 0, none⟩)) h3 (fun x4 h => some (x4, h)) =
          p31arrlrbw (callB Try.prog 0 O1 n) n (fun x4 h => some (x4, h)) (fun h => p31arrr (callB Try.prog 0 O1 n) n h fun x4 h => some (x4, h)) n (.int .i64 e1.length) (.int .i64 ((0 : Nat) : Int)) (.pointer (some ⟨h.next + 1, 0, none⟩)) f.w h3 := by
        simp only [p31arr, p31arrl, p31arrll, p31arrlr, p31arrlrb]
        simp [k2, len1]
      rw [F31, head, p31ar, mid, start]
      rcases loop with ⟨h', e, x, hne⟩ | ⟨h', e, x, hee⟩
      · exact ⟨false, h', e, x1.trans (x13.trans x), by simp [hne]⟩
      · exact ⟨true, h', e, x1.trans (x13.trans x), by simp [hee, hp]⟩
    · refine ⟨false, h3, ?_, x1.trans x13, by simp; intro _ e; exact hl (by rw [e])⟩
      rw [F31, head, p31ar]
      have hl' : ¬ ((e1.length : Int) = (e2.length : Int)) := by omega
      simp only [p31arl]
      simp [g2, g3, g3', t2, t3, e34, e34', chk, same2, plain_neq, hp, k2, k3, len1, len2, hl']
  · refine ⟨false, h3, ?_, x1.trans x13, by simp [hp]⟩
    rw [F31, head, p31ar]
    simp only [p31arl]
    simp [g2, g3, g3', t2, t3, e34, e34', chk, same2, plain_neq, hp]

theorem Q26r {n : Nat} {h : H} {t2 t3 : Nat} {f g : NoteF} {o2 o3 : Option Nat} {b : Bool} {h' : H} (h2 : h.get t2 = some (.cells f.cells o2)) (h3 : h.get t3 = some (.cells g.cells o3)) (e31 : callB Try.prog 0 O1 n 31 [.agg ⟨f.packet⟩, .agg ⟨g.packet⟩] h = some (.bool b, h'))
    {β : Type} (kr : Value → H → Option β) (c : Bool) : ∃ h'', p26arr (callB Try.prog 0 O1 n) n (.bool c) (.pointer (some ⟨t2, 0, none⟩)) (.pointer (some ⟨t3, 0, none⟩)) h kr = kr (.bool (c && (decide (f.s 28 = g.s 28 ∧ f.s 29 = g.s 29 ∧ f.i 30 = g.i 30 ∧ f.b 31 = g.b 31 ∧ f.b 33 = g.b 33 ∧ f.i 34 = g.i 34) && b))) h'' ∧ (h'' = h ∨ h'' = h') := by
  have mc1 := NoteF.msg_cells f
  have mc2 := NoteF.msg_cells g
  cases c with
  | false => exact ⟨h, by simp [p26arr], .inl rfl⟩
  | true =>
    by_cases hm : f.s 28 = g.s 28 ∧ f.s 29 = g.s 29 ∧ f.i 30 = g.i 30 ∧ f.b 31 = g.b 31 ∧ f.b 33 = g.b 33 ∧ f.i 34 = g.i 34
    · refine ⟨h', ?_, .inr rfl⟩
      simp only [p26arr]
      simp [h2, h3, msg_eql, bin_bool_eql Try.underlying4, hm, e31]
    · refine ⟨h, ?_, .inl rfl⟩
      simp only [p26arr]
      by_cases q0 : (f.s 28 = g.s 28 ∧ f.s 29 = g.s 29 ∧ f.i 30 = g.i 30 ∧ f.b 31 = g.b 31)
      · by_cases q1 : f.b 33 = g.b 33
        · by_cases q2 : f.i 34 = g.i 34
          · exact absurd ⟨q0.1, q0.2.1, q0.2.2.1, q0.2.2.2, q1, q2⟩ hm
          · simp [h2, h3, msg_eql, bin_bool_eql Try.underlying4, q0, q1, q2]
        · simp [h2, h3, msg_eql, bin_bool_eql Try.underlying4, q0, q1]
      · have q0' : (decide (f.s 28 = g.s 28) && (decide (f.s 29 = g.s 29) && (decide (f.i 30 = g.i 30) && decide (f.b 31 = g.b 31)))) = false := by
          rw [← Bool.not_eq_true]; simpa using q0
        have hm' : decide (f.s 28 = g.s 28 ∧ f.s 29 = g.s 29 ∧ f.i 30 = g.i 30 ∧ f.b 31 = g.b 31 ∧ f.b 33 = g.b 33 ∧ f.i 34 = g.i 34) = false := by simpa using hm
        simp [h2, h3, msg_eql, q0', hm']

theorem S26 (n : Nat) {h : H} {f g : NoteF} {e1 e2 : List (List Value)} (s1 : SliceE 2 h f.w e1) (s2 : SliceE 2 h g.w e2) (T1 : SubsT e1) (T2 : SubsT e2) (hn : e1.length + 2 ≤ n) (hb : e1.length < 2 ^ 62) :
    ∃ b h', callB Try.prog 0 O1 (n + 2) 26 [.agg ⟨f.cells⟩, .agg ⟨g.cells⟩] h = some (.bool b, h') ∧ Ext h h' ∧ (b = true ↔ EqN f g ∧ e1 = e2) := by
  rw [F26eq O1 rfl]
  obtain ⟨h1, hh1⟩ : ∃ h1, h1 = (h.push (.cells f.cells (some 0))).push (.cells g.cells (some 0)) := ⟨_, rfl⟩
  have x1 : Ext h h1 := by rw [hh1]; exact (Ext.push _ _).pushed _
  have g2 : h1.get h.next = some (.cells f.cells (some 0)) := by rw [hh1]; simp [H.get_push]
  have g3 : h1.get (h.next + 1) = some (.cells g.cells (some 0)) := by rw [hh1]; simp [H.get_push]
  obtain ⟨b, h2, e31, x2, hb2⟩ := S31 n (s1.ext x1) (s2.ext x1) T1 T2 hn hb
  obtain ⟨h3, e, hor⟩ := Q26r g2 g3 e31 (fun x4 h => some (x4, h)) (decide (f.i 0 = g.i 0 ∧ f.i 1 = g.i 1 ∧ f.i 2 = g.i 2 ∧ f.s 3 = g.s 3 ∧ f.s 32 = g.s 32))
  refine ⟨decide (f.i 0 = g.i 0 ∧ f.i 1 = g.i 1 ∧ f.i 2 = g.i 2 ∧ f.s 3 = g.s 3 ∧ f.s 32 = g.s 32) && (decide (f.s 28 = g.s 28 ∧ f.s 29 = g.s 29 ∧ f.i 30 = g.i 30 ∧ f.b 31 = g.b 31 ∧ f.b 33 = g.b 33 ∧ f.i 34 = g.i 34) && b), h3, ?_, ?_, ?_⟩
  · rw [F26, p26a]
    have head : ∀ {β : Type} (kn : Value → Value → H → Option β), p26al (callB Try.prog 0 O1 (n + 1)) (n + 1) (.agg ⟨f.cells⟩) (.agg ⟨g.cells⟩) h kn = kn (.pointer (some ⟨h.next, 0, none⟩)) (.pointer (some ⟨h.next + 1, 0, none⟩)) h1 := by
      intro β kn
      simp only [p26al]
      simp
      rw [← hh1]
    rw [head, p26ar, Q26l g2 g3]
    exact e
  · rcases hor with rfl | rfl
    · exact x1
    · exact x1.trans x2
  · simp only [Bool.and_eq_true, decide_eq_true_eq, hb2, EqN]
    constructor
    · rintro ⟨⟨a0, a1, a2, a3, a4⟩, ⟨b1, b2, b3, b4, b5, b6⟩, hp, he⟩
      exact ⟨⟨⟨a0, a1, a2, a3, b1, b2, b3, b4, a4, b5, b6⟩, hp⟩, he⟩
    · rintro ⟨⟨⟨a0, a1, a2, a3, b1, b2, b3, b4, a4, b5, b6⟩, hp⟩, he⟩
      exact ⟨⟨a0, a1, a2, a3, a4⟩, ⟨b1, b2, b3, b4, b5, b6⟩, hp, he⟩
end Go.Proofs.Ytlhppeikbgolbaa.RecD
