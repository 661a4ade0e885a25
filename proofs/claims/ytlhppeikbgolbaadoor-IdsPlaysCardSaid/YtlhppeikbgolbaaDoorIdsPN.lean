/-
  IdsPlays: the law, awake taken as told.
-/
import Derived.Test.YtlhppeikbgolbaaDoorIdsPM
namespace Go.Proofs.YtlhppeikbgolbaaDoor.IdsD
open Go Go.AM Go.IdsN Go.Proofs.YtlhppeikbgolbaaDoor.IdsF4

theorem len4 (k L : Nat) {β : Type} {h0 h : H} {p b q : Nat} {v : Value} {R : List Nat} (s : Pl h0 h p b q v R) (x5 x0 : Value) (kr : Value → H → Option β) (kn : Value → Value → Value → Value → H → Option β) :
    p4arrrlrborlbr (callB Tryd.prog 1 [] (k + 1026)) L x5 x0 (ptrV p) (ptrV q) h kr kn = kn x5 x0 (ptrV p) (ptrV q) h := by
  have e11 := T11 (k + 1024) s.pool
  have hs : same v v = true := s.ref.s.slice.same
  simp only [p4arrrlrborlbr, e11, bnd2_some, nilCheck_eq, bnd_some, fieldAddr_eq, Nat.zero_add, s.ref.load, s.ref.len, chk, hs, Bool.and_true, cond_true, bin_neq, decide_true, Bool.not_true, toBK_bool, cond_false]

theorem main4 (k L : Nat) {β : Type} (kr : Value → H → Option β) (kx0 : Value → Value → H → Option β) {h0 : H} {p b q : Nat} {x0 : Value} {l : List Nat} (sl : InL h0 x0 l) (h400 : l.length ≤ 400) :
    ∀ (d i m : Nat) (h : H) (v : Value) (R : List Nat), Pl h0 h p b q v R → i + d = l.length → d < m → R.length ≤ i →
      ∃ (h' : H) (v' : Value) (R' : List Nat), p4arrrlrbw (callB Tryd.prog 1 [] (k + 1026)) L kr kx0 m (.int .i64 (i : Int)) x0 (ptrV p) (ptrV q) h = kx0 (ptrV p) (ptrV q) h' ∧ Pl h0 h' p b q v' R' ∧ R'.length ≤ l.length := by
  have hlen : A.lenS x0 = some (.int .i64 (l.length : Int)) := by
    have := sl.1.len.1
    rw [List.length_map] at this
    exact this
  intro d
  induction d with
  | zero =>
    intro i m h v R s hi hm hR
    obtain ⟨m, rfl⟩ : ∃ u, m = u + 1 := ⟨m - 1, by omega⟩
    have hd : decide ((i : Int) < (l.length : Int)) = false := by rw [decide_eq_false_iff_not]; omega
    exact ⟨h, v, R, by simp only [p4arrrlrbw, p4arrrlrbo, p4arrrlrbol, hlen, bnd_some, bin_lss, hd, toBK_bool, cond_false], s, by omega⟩
  | succ d ih =>
    intro i m h v R s hi hm hR
    obtain ⟨m, rfl⟩ : ∃ u, m = u + 1 := ⟨m - 1, by omega⟩
    have hil : i < l.length := by omega
    have hd : decide ((i : Int) < (l.length : Int)) = true := by rw [decide_eq_true_iff]; omega
    have hw := wrap_succ (n := i) (by omega)
    obtain ⟨a, g1, g2⟩ := sl.at hil
    have e0 := g2 h s.x
    by_cases hz : l[i] = 0
    · have hq : decide ((l[i] : Int) = 0) = true := by rw [decide_eq_true_iff]; omega
      obtain ⟨h1, v1, R1, e1, s1, r1⟩ := take4 (β := β) k L s (by omega) (.bool true) (.int .i64 (i : Int)) x0 kr
        (fun x5 x0 x3 x4 h => p4arrrlrborlbr (callB Tryd.prog 1 [] (k + 1026)) L x5 x0 x3 x4 h kr (fun x5 x0 x3 x4 h => p4arrrlrborr (callB Tryd.prog 1 [] (k + 1026)) L x5 x0 x3 x4 h (fun x5 x0 x3 x4 h => p4arrrlrbw (callB Tryd.prog 1 [] (k + 1026)) L kr kx0 m x5 x0 x3 x4 h)))
      obtain ⟨h', v', R', e, s', r'⟩ := ih (i + 1) m h1 v1 R1 s1 (by omega) (by omega) (by omega)
      refine ⟨h', v', R', ?_, s', r'⟩
      simp only [p4arrrlrbw, p4arrrlrbo, p4arrrlrbol, hlen, bnd_some, bin_lss, hd, toBK_bool, cond_true, p4arrrlrbor, p4arrrlrborl, p4arrrlrborlb, p4arrrlrborlbl, p4arrrlrborlbll, g1, e0, bin_eql, hq, p4arrrlrborlblr, condV_bool]
      rw [e1, len4 k L s1]
      simp only [p4arrrlrborr, bin_add, bnd_some, hw]
      exact e
    · have hq : decide ((l[i] : Int) = 0) = false := by rw [decide_eq_false_iff_not]; omega
      obtain ⟨h1, v1, e1, s1⟩ := free4 (β := β) k L s (by omega) sl hil (.bool false) kr
        (fun x5 x0 x3 x4 h => p4arrrlrborlbr (callB Tryd.prog 1 [] (k + 1026)) L x5 x0 x3 x4 h kr (fun x5 x0 x3 x4 h => p4arrrlrborr (callB Tryd.prog 1 [] (k + 1026)) L x5 x0 x3 x4 h (fun x5 x0 x3 x4 h => p4arrrlrbw (callB Tryd.prog 1 [] (k + 1026)) L kr kx0 m x5 x0 x3 x4 h)))
      obtain ⟨h', v', R', e, s', r'⟩ := ih (i + 1) m h1 v1 _ s1 (by omega) (by omega) (by have := List.length_erase_le (a := l[i]) (l := R); omega)
      refine ⟨h', v', R', ?_, s', r'⟩
      simp only [p4arrrlrbw, p4arrrlrbo, p4arrrlrbol, hlen, bnd_some, bin_lss, hd, toBK_bool, cond_true, p4arrrlrbor, p4arrrlrborl, p4arrrlrborlb, p4arrrlrborlbl, p4arrrlrborlbll, g1, e0, bin_eql, hq, p4arrrlrborlblr, condV_bool, cond_false]
      rw [e1, len4 k L s1]
      simp only [p4arrrlrborr, bin_add, bnd_some, hw]
      exact e
end Go.Proofs.YtlhppeikbgolbaaDoor.IdsD
