/-
  IdsPlays: a call of each, in the pool and in the document's.
-/
import Derived.Test.YtlhppeikbgolbaaDoorIdsP4
import Derived.Test.YtlhppeikbgolbaaDoorIdsL
import Derived.Test.YtlhppeikbgolbaaDoorIdsF4
namespace Go.Proofs.YtlhppeikbgolbaaDoor.IdsD
open Go Go.AM Go.IdsN Go.Proofs.YtlhppeikbgolbaaDoor.IdsF4

/-- A pool and the document's hold the same row. -/
structure Pl (h0 h : H) (p b q : Nat) (v : Value) (R : List Nat) : Prop where
  pool : PoolS h p b R
  ref : RefP h q v R
  up : R.Pairwise (· < ·)
  np : h0.next ≤ p
  nb : h0.next ≤ b
  nq : h0.next ≤ q
  qp : q ≠ p
  qb : q ≠ b
  sv : ∀ i, sid v = some i → i ≠ p ∧ i ≠ b ∧ i ≠ q
  lp : p < h.next
  lb : b < h.next
  z : 0 < h0.next
  x : Ext h0 h

theorem RefP.two {h h' : H} {p b q : Nat} {v : Value} {R : List Nat} (r : RefP h q v R) (y : ExtBut (Two p b) h h') (qp : q ≠ p) (qb : q ≠ b) (sv : ∀ i, sid v = some i → i ≠ p ∧ i ≠ b ∧ i ≠ q) : RefP h' q v R :=
  ⟨by rw [y.get q r.lt (fun e => by rcases e with e | e; exact qp e; exact qb e)]; exact r.hq, r.s.extBut y (fun i hi e => by have := sv i hi; rcases e with e | e <;> omega), Nat.lt_of_lt_of_le r.lt y.next⟩

theorem take4 (k L : Nat) {β : Type} {h0 h : H} {p b q : Nat} {v : Value} {R : List Nat} (s : Pl h0 h p b q v R) (hR : R.length ≤ 400) (x28 x5 x0 : Value) (kr : Value → H → Option β) (kn : Value → Value → Value → Value → H → Option β) :
    ∃ (h' : H) (v' : Value) (R' : List Nat), p4arrrlrborlblrt (callB Tryd.prog 1 [] (k + 1026)) L x28 x5 x0 (ptrV p) (ptrV q) h kr kn = kn x5 x0 (ptrV p) (ptrV q) h' ∧ Pl h0 h' p b q v' R' ∧ R'.length = R.length + 1 := by
  obtain ⟨i0, h1, b1, b2, b3, b4, e10, r1, y1, n1⟩ := T10 k s.pool (by omega)
  have f1 := s.ref.two y1 s.qp s.qb s.sv
  obtain ⟨t1, t2, t3⟩ := tpl_spec R 0 s.up (fun x hx => (s.pool.rg x hx).1)
  simp only [Nat.zero_add] at t1 t2 t3
  obtain rfl : i0 = tpl R 0 + 1 := by
    rcases Nat.lt_trichotomy i0 (tpl R 0 + 1) with h | h | h
    · exact absurd (t2 i0 (by omega) (by omega)) b3
    · exact h
    · exact absurd (b4 _ (by omega) h) t1
  obtain ⟨v', h2, e17, f2, y2, hv'⟩ := S17 (k + 1025) f1 (by omega) (fun x hx => (s.pool.rg x hx).2) (by omega)
  have hl := tpl_le R 0
  have pm : ((tpl R 0 + 1) :: R).Perm (R.take (tpl R 0) ++ (tpl R 0 + 1) :: R.drop (tpl R 0)) := by
    have := (List.perm_middle (a := tpl R 0 + 1) (l₁ := R.take (tpl R 0)) (l₂ := R.drop (tpl R 0))).symm
    rwa [List.take_append_drop] at this
  have hz := s.z
  have hnq := s.nq
  have r2 := (r1.extBut y2 (by omega) (fun e => s.qp e.symm) (fun e => s.qb e.symm)).perm pm
  have x1 := ext_two s.x y1 s.np s.nb
  have x2 : Ext h0 h2 := ⟨Nat.le_trans x1.next y2.next, fun i hi => by rw [y2.get i (Nat.lt_of_lt_of_le hi x1.next) (by omega), x1.get i hi]⟩
  refine ⟨h2, v', _, ?_, ⟨r2, f2, t3, s.np, s.nb, s.nq, s.qp, s.qb, fun i hi => ?_, Nat.lt_of_lt_of_le s.lp (Nat.le_trans y1.next y2.next), Nat.lt_of_lt_of_le s.lb (Nat.le_trans y1.next y2.next), s.z, x2⟩, by rw [← pm.length_eq]; rfl⟩
  · have ex0 : A.extract 0 (.tuple ⟨[.int .u16 ((tpl R 0 + 1 : Nat) : Int), .int .i64 0]⟩) = some (.int .u16 ((tpl R 0 + 1 : Nat) : Int)) := rfl
    have ex1 : A.extract 1 (.tuple ⟨[.int .u16 ((tpl R 0 + 1 : Nat) : Int), .int .i64 0]⟩) = some (.int .i64 0) := rfl
    simp only [p4arrrlrborlblrt, e10, bnd2_some, ex0, ex1, bnd_some, e17, bin_neq, decide_true, Bool.not_true, toBK_bool, cond_false]
  · have h1' := hv' i hi
    have := s.lp; have := s.lb; have := s.ref.lt; have := y1.next
    omega
end Go.Proofs.YtlhppeikbgolbaaDoor.IdsD
