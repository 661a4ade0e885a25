/-
  IdsAgain: ids are freed, and taken again.
-/
import Derived.Test.YtlhppeikbgolbaaDoorIdsA
namespace Go.Proofs.YtlhppeikbgolbaaDoor.IdsD
open Go Go.AM Go.IdsN Go.Proofs.YtlhppeikbgolbaaDoor.IdsF7

/-- One that is freed: is it in the row; what is counted. -/
theorem free7 (k L : Nat) {β : Type} {h0 h : H} {p b : Nat} {S : List Nat} {x1 : Value} {l : List Nat} (v : Ag h0 h p b S) (s : InL h0 x1 l) (hl : l.length ≤ 100) {i : Nat} (hi : i < l.length) {many : Nat} (hm : many ≤ 300)
    (hs : ∀ x, x ∈ S ↔ (1 ≤ x ∧ x ≤ many ∧ x ∉ l.take i)) {g : Nat} (hg : S.length + g = many)
    (kn : Value → Value → Value → Value → Value → H → Option β) (kr : Value → H → Option β) :
    ∃ (h' : H) (g' : Nat), p7arrrrrlrborl (callB Tryd.prog 1 [] (k + 1027)) L (.int .i64 (i : Int)) (.int .i64 (g : Int)) x1 (ptrV p) (.int .u16 (many : Int)) h kn kr =
        kn (.int .i64 (i : Int)) (.int .i64 (g' : Int)) x1 (ptrV p) (.int .u16 (many : Int)) h' ∧ Ag h0 h' p b (S.erase l[i]) ∧ (S.erase l[i]).length + g' = many := by
  obtain ⟨a, g1, g2⟩ := s.at hi
  have hid : l[i] < 65536 := s.2 _ (List.getElem_mem hi)
  have e0 := g2 h v.x
  have c13 := T13 (k + 1025) v.pool hid
  have hw := wrap_succ (n := g) (by omega)
  by_cases hin : l[i] ∈ S
  · obtain ⟨r1, r2, r3⟩ := (hs _).1 hin
    obtain ⟨h1, e12, q1, y1, _⟩ := T12 (k + 1024) v.pool hid hin
    have d1 : decide ((1 : Int) ≤ (l[i] : Int)) = true := by rw [decide_eq_true_iff]; omega
    have d2 : decide ((l[i] : Int) ≤ (many : Int)) = true := by rw [decide_eq_true_iff]; omega
    have hpos : 0 < S.length := List.length_pos_of_mem hin
    refine ⟨h1, g + 1, ?_, v.step q1 y1, by rw [List.length_erase_of_mem hin]; omega⟩
    simp only [p7arrrrrlrborl, p7arrrrrlrborlb, p7arrrrrlrborlbl, g1, bnd_some, e0, c13, bnd2_some, toBK_bool, hin, decide_true, p7arrrrrlrborlbr, p7arrrrrlrborlbrl, p7arrrrrlrborlbrll, bin_geq, d1, cond_true, bin_leq, d2,
      bin_bool_neq Tryd.underlying4, Bool.not_true, cond_false, e12, p7arrrrrlrborlbrlr, condV_bool, p7arrrrrlrborlbrr, bin_add, hw]
  · have e12 := T12n (k + 1024) v.pool hid hin
    have he : S.erase l[i] = S := List.erase_of_not_mem hin
    rw [he]
    refine ⟨h, g, ?_, v, hg⟩
    have dft : decide (false = true) = false := rfl
    by_cases h1 : 1 ≤ l[i]
    · have d1 : decide ((1 : Int) ≤ (l[i] : Int)) = true := by rw [decide_eq_true_iff]; omega
      by_cases h2 : l[i] ≤ many
      · have d2 : decide ((l[i] : Int) ≤ (many : Int)) = true := by rw [decide_eq_true_iff]; omega
        have h3 : l[i] ∈ l.take i := Decidable.byContradiction fun h3 => hin ((hs _).2 ⟨h1, h2, h3⟩)
        obtain ⟨v', sl, sp⟩ := s.pre hi
        have c22 := S22 (k + 1026) (sp.ext v.x) (by rw [List.length_take]; omega) (by rw [List.length_take]; omega) l[i]
        rw [decide_eq_true h3] at c22
        have c22' : callB Tryd.prog 1 [] (k + 1027) 22 [v', .int .u16 (l[i] : Int)] h = some (.bool true, h) := c22
        simp only [p7arrrrrlrborl, p7arrrrrlrborlb, p7arrrrrlrborlbl, g1, bnd_some, e0, c13, bnd2_some, toBK_bool, hin, decide_false, p7arrrrrlrborlbr, p7arrrrrlrborlbrl, p7arrrrrlrborlbrll, bin_geq, d1, cond_true, bin_leq, d2,
          bin_bool_neq Tryd.underlying4, dft, Bool.not_false, sl h, c22', un_not, Bool.not_true, cond_false, e12, decide_true, p7arrrrrlrborlbrlr, condV_bool, p7arrrrrlrborlbrr]
      · have d2 : decide ((l[i] : Int) ≤ (many : Int)) = false := by rw [decide_eq_false_iff_not]; omega
        simp only [p7arrrrrlrborl, p7arrrrrlrborlb, p7arrrrrlrborlbl, g1, bnd_some, e0, c13, bnd2_some, toBK_bool, hin, decide_false, p7arrrrrlrborlbr, p7arrrrrlrborlbrl, p7arrrrrlrborlbrll, bin_geq, d1, cond_true, bin_leq, d2,
          bin_bool_neq Tryd.underlying4, decide_true, Bool.not_true, cond_false, e12, p7arrrrrlrborlbrlr, condV_bool, p7arrrrrlrborlbrr]
    · have d1 : decide ((1 : Int) ≤ (l[i] : Int)) = false := by rw [decide_eq_false_iff_not]; omega
      simp only [p7arrrrrlrborl, p7arrrrrlrborlb, p7arrrrrlrborlbl, g1, bnd_some, e0, c13, bnd2_some, toBK_bool, hin, decide_false, p7arrrrrlrborlbr, p7arrrrrlrborlbrl, p7arrrrrlrborlbrll, bin_geq, d1, cond_false,
        bin_bool_neq Tryd.underlying4, decide_true, Bool.not_true, e12, p7arrrrrlrborlbrlr, condV_bool, p7arrrrrlrborlbrr]

theorem two7 (k L : Nat) {β : Type} (kr : Value → H → Option β) (kx2 : Value → Value → Value → Value → H → Option β) {h0 : H} {p b : Nat} {x1 : Value} {l : List Nat} (s : InL h0 x1 l) (hl : l.length ≤ 100) {many : Nat} (hm : many ≤ 300) :
    ∀ (d i m : Nat) (h : H) (S : List Nat) (g : Nat), Ag h0 h p b S → i + d = l.length → d < m → S.length + g = many → (∀ x, x ∈ S ↔ (1 ≤ x ∧ x ≤ many ∧ x ∉ l.take i)) →
      ∃ (h' : H) (S' : List Nat) (g' : Nat), p7arrrrrlrbw (callB Tryd.prog 1 [] (k + 1027)) L kr kx2 m (.int .i64 (i : Int)) (.int .i64 (g : Int)) x1 (ptrV p) (.int .u16 (many : Int)) h = kx2 (.int .i64 (g' : Int)) x1 (ptrV p) (.int .u16 (many : Int)) h' ∧
        Ag h0 h' p b S' ∧ S'.length + g' = many ∧ ∀ x, x ∈ S' ↔ (1 ≤ x ∧ x ≤ many ∧ x ∉ l) := by
  have hlen := s.len
  intro d
  induction d with
  | zero =>
    intro i m h S g v hi hd hg hs
    obtain ⟨m, rfl⟩ : ∃ q, m = q + 1 := ⟨m - 1, by omega⟩
    have hq : decide ((i : Int) < (l.length : Int)) = false := by rw [decide_eq_false_iff_not]; omega
    refine ⟨h, S, g, ?_, v, hg, fun x => ?_⟩
    · simp only [p7arrrrrlrbw, p7arrrrrlrbo, p7arrrrrlrbol, hlen, bnd_some, bin_lss, hq, toBK_bool, cond_false]
    · rw [hs x, List.take_of_length_le (by omega)]
  | succ d ih =>
    intro i m h S g v hi hd hg hs
    obtain ⟨m, rfl⟩ : ∃ q, m = q + 1 := ⟨m - 1, by omega⟩
    have hil : i < l.length := by omega
    have hq : decide ((i : Int) < (l.length : Int)) = true := by rw [decide_eq_true_iff]; omega
    have hw := wrap_succ (n := i) (by omega)
    obtain ⟨h1, g1, e1, v1, q1⟩ := free7 (β := β) k L v s hl hil hm hs hg (fun x8 x7 x1 x5 x0 h => p7arrrrrlrborr (callB Tryd.prog 1 [] (k + 1027)) L x8 x7 x1 x5 x0 h (fun x8 x7 x1 x5 x0 h => p7arrrrrlrbw (callB Tryd.prog 1 [] (k + 1027)) L kr kx2 m x8 x7 x1 x5 x0 h)) kr
    obtain ⟨h', S', g', e, v', q2, q3⟩ := ih (i + 1) m h1 _ g1 v1 (by omega) (by omega) q1 (fun x => by
      rw [v.pool.nd.mem_erase_iff, hs x, List.take_add_one, List.getElem?_eq_getElem hil]
      simp only [Option.toList_some, List.mem_append, List.mem_singleton]
      constructor
      · rintro ⟨a1, a2, a3, a4⟩; exact ⟨a2, a3, fun h => h.elim a4 a1⟩
      · rintro ⟨a1, a2, a3⟩; exact ⟨fun h => a3 (.inr h), a1, a2, fun h => a3 (.inl h)⟩)
    refine ⟨h', S', g', ?_, v', q2, q3⟩
    simp only [p7arrrrrlrbw, p7arrrrrlrbo, p7arrrrrlrbol, hlen, bnd_some, bin_lss, hq, toBK_bool, cond_true, p7arrrrrlrbor]
    rw [e1]
    simp only [p7arrrrrlrborr, bin_add, bnd_some, hw]
    exact e

theorem three7 (k L : Nat) {β : Type} (kr : Value → H → Option β) (kx4 : Value → Value → H → Option β) {h0 : H} {p b : Nat} {x1 : Value} {l : List Nat} (s : InL h0 x1 l) (hl : l.length ≤ 100) {many g : Nat} (hm : many ≤ 300) (hgm : g ≤ 300) :
    ∀ (d i m : Nat) (h : H) (S : List Nat) (last : Nat), Ag h0 h p b S → i + d = g → d < m → S.length + d = many → (∀ x ∈ S, 1 ≤ x ∧ x ≤ many) → (∀ x, 1 ≤ x → x ≤ many → x ∈ S ∨ x ∈ l) → (∀ x, 1 ≤ x → x ≤ last → x ∈ S) →
      ∃ h' S', p7arrrrrrrlrbw (callB Tryd.prog 1 [] (k + 1027)) L kr kx4 m (.int .i64 (g : Int)) (.int .i64 (i : Int)) x1 (.int .u16 (last : Int)) (ptrV p) (.int .u16 (many : Int)) h = kx4 (ptrV p) (.int .u16 (many : Int)) h' ∧
        Ag h0 h' p b S' ∧ S'.length = many ∧ ∀ x ∈ S', 1 ≤ x ∧ x ≤ many := by
  intro d
  induction d with
  | zero =>
    intro i m h S last v hi hd hg hs hc hla
    obtain ⟨m, rfl⟩ : ∃ q, m = q + 1 := ⟨m - 1, by omega⟩
    have hq : decide ((i : Int) < (g : Int)) = false := by rw [decide_eq_false_iff_not]; omega
    exact ⟨h, S, by simp only [p7arrrrrrrlrbw, p7arrrrrrrlrbo, p7arrrrrrrlrbol, bnd_some, bin_lss, hq, toBK_bool, cond_false], v, by omega, hs⟩
  | succ d ih =>
    intro i m h S last v hi hd hg hs hc hla
    obtain ⟨m, rfl⟩ : ∃ q, m = q + 1 := ⟨m - 1, by omega⟩
    have hq : decide ((i : Int) < (g : Int)) = true := by rw [decide_eq_true_iff]; omega
    obtain ⟨i0, h1, b1, b2, b3, b4, e10, r1, y1, _⟩ := T10 (k + 1) v.pool (by omega)
    have c1 : i0 ≤ many := by
      rcases Nat.lt_or_ge many i0 with h | h
      · have := many_le many S fun x h1 h2 => b4 x h1 (by omega)
        omega
      · exact h
    have c2 : last < i0 := by
      rcases Nat.lt_or_ge last i0 with h | h
      · exact h
      · exact absurd (hla i0 b1 h) b3
    have c3 : i0 ∈ l := (hc i0 b1 c1).resolve_left b3
    have v1 := v.step r1 y1
    have c22 := S22 (k + 1026) (s.ext v1.x) (by omega) (by omega) i0
    rw [decide_eq_true c3] at c22
    have c22' : callB Tryd.prog 1 [] (k + 1027) 22 [x1, .int .u16 (i0 : Int)] h1 = some (.bool true, h1) := c22
    have e10' : callB Tryd.prog 1 [] (k + 1027) 10 [ptrV p] h = some (.tuple ⟨[.int .u16 (i0 : Int), .int .i64 0]⟩, h1) := e10
    have d1 : decide ((i0 : Int) ≤ (last : Int)) = false := by rw [decide_eq_false_iff_not]; omega
    have d2 : decide ((many : Int) < (i0 : Int)) = false := by rw [decide_eq_false_iff_not]; omega
    have hw : IntKind.i64.wrap ((i : Int) + 1) = ((i + 1 : Nat) : Int) := wrap_succ (by omega)
    have ex0 : A.extract 0 (.tuple ⟨[.int .u16 (i0 : Int), .int .i64 0]⟩) = some (.int .u16 (i0 : Int)) := rfl
    have ex1 : A.extract 1 (.tuple ⟨[.int .u16 (i0 : Int), .int .i64 0]⟩) = some (.int .i64 0) := rfl
    obtain ⟨h', S', e, v', q1, q2⟩ := ih (i + 1) m h1 (i0 :: S) i0 v1 (by omega) (by omega) (by simp; omega) (fun x hx => by
        rcases List.mem_cons.1 hx with h | h
        · omega
        · exact hs x h) (fun x h1 h2 => (hc x h1 h2).imp (List.mem_cons_of_mem _) id) (fun x h1 h2 => by
        rcases Nat.lt_or_ge x i0 with h | h
        · exact List.mem_cons_of_mem _ (b4 x h1 h)
        · rw [show x = i0 by omega]; exact List.mem_cons_self)
    refine ⟨h', S', ?_, v', q1, q2⟩
    simp only [p7arrrrrrrlrbw, p7arrrrrrrlrbo, p7arrrrrrrlrbol, bnd_some, bin_lss, hq, toBK_bool, cond_true, p7arrrrrrrlrbor, p7arrrrrrrlrborl, p7arrrrrrrlrborlb, p7arrrrrrrlrborlbl, e10', bnd2_some, ex0, ex1, p7arrrrrrrlrborlbr, p7arrrrrrrlrborlbrl,
      p7arrrrrrrlrborlbrll, bin_neq, decide_true, Bool.not_true, cond_false, bin_leq, d1, bin_gtr, d2, c22', un_not, p7arrrrrrrlrborlbrlr, condV_bool, p7arrrrrrrlrborlbrr, p7arrrrrrrlrborr, bin_add, hw]
    exact e
end Go.Proofs.YtlhppeikbgolbaaDoor.IdsD
