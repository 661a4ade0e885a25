/-
  IdsPlays: an id that is freed, in the pool and in the document's.
-/
import Derived.Test.YtlhppeikbgolbaaDoorIdsPL
namespace Go.Proofs.YtlhppeikbgolbaaDoor.IdsD
open Go Go.AM Go.IdsN Go.Proofs.YtlhppeikbgolbaaDoor.IdsF4

theorem free4 (k L : Nat) {β : Type} {h0 h : H} {p b q : Nat} {v : Value} {R : List Nat} (s : Pl h0 h p b q v R) (hR : R.length ≤ 400) {x0 : Value} {l : List Nat} (sl : InL h0 x0 l) {i : Nat} (hi : i < l.length) (x28 : Value) (kr : Value → H → Option β) (kn : Value → Value → Value → Value → H → Option β) :
    ∃ (h' : H) (v' : Value), p4arrrlrborlblrf (callB Tryd.prog 1 [] (k + 1026)) L x28 (.int .i64 (i : Int)) x0 (ptrV p) (ptrV q) h kr kn = kn (.int .i64 (i : Int)) x0 (ptrV p) (ptrV q) h' ∧ Pl h0 h' p b q v' (R.erase l[i]) := by
  obtain ⟨a, g1, g2⟩ := sl.at hi
  have hid : l[i] < 65536 := sl.2 _ (List.getElem_mem hi)
  have e0 := g2 h s.x
  have c13 := T13 (k + 1024) s.pool hid
  have c18 : callB Tryd.prog 1 [] (k + 1026) 18 [ptrV q, .int .u16 (l[i] : Int)] h = some (.bool (decide (l[i] ∈ R)), h) := S18 (k + 1024) s.ref (by omega) (by omega) s.up l[i]
  have hz := s.z
  have hnq := s.nq
  by_cases hin : l[i] ∈ R
  · obtain ⟨h1, e12, r1, y1, n1⟩ := T12 (k + 1023) s.pool hid hin
    have f1 := s.ref.two y1 s.qp s.qb s.sv
    have x1 := ext_two s.x y1 s.np s.nb
    have e1 := g2 h1 x1
    obtain ⟨v', h2, e19, f2, y2, hv'⟩ := S19 (k + 1023) f1 (by omega) (by omega) s.up hin
    have r2 := r1.extBut y2 (by omega) (fun e => s.qp e.symm) (fun e => s.qb e.symm)
    have x2 : Ext h0 h2 := ⟨Nat.le_trans x1.next y2.next, fun i hi => by rw [y2.get i (Nat.lt_of_lt_of_le hi x1.next) (by omega), x1.get i hi]⟩
    have e2 := g2 h2 x2
    have c13' := T13 (k + 1024) r2 hid
    have hno : decide (l[i] ∈ R.erase l[i]) = false := by rw [decide_eq_false_iff_not, s.pool.nd.mem_erase_iff]; exact fun h => h.1 rfl
    rw [hno] at c13'
    refine ⟨h2, v', ?_, ⟨r2, f2, s.up.sublist List.erase_sublist, s.np, s.nb, s.nq, s.qp, s.qb, fun i hi => ?_, Nat.lt_of_lt_of_le s.lp (Nat.le_trans y1.next y2.next), Nat.lt_of_lt_of_le s.lb (Nat.le_trans y1.next y2.next), s.z, x2⟩⟩
    · simp only [p4arrrlrborlblrf, p4arrrlrborlblrfl, g1, bnd_some, e0, c13, bnd2_some, toBK_bool, c18, bin_bool_neq Tryd.underlying4, decide_true, Bool.not_true, cond_false, e12, e1, hin, e19, e2, c13', p4arrrlrborlblrfr, condV_bool, chk, same]
      simp
    · have h1' := hv' i hi
      have := s.lp; have := s.lb; have := s.ref.lt; have := y1.next
      omega
  · have e12 := T12n (k + 1023) s.pool hid hin
    have e19 : callB Tryd.prog 1 [] (k + 1026) 19 [ptrV q, .int .u16 (l[i] : Int)] h = some (.bool false, h) := S19n (k + 1023) s.ref (by omega) (by omega) s.up hin
    have he : R.erase l[i] = R := List.erase_of_not_mem hin
    rw [he]
    refine ⟨h, v, ?_, s⟩
    simp only [p4arrrlrborlblrf, p4arrrlrborlblrfl, g1, bnd_some, e0, c13, bnd2_some, toBK_bool, c18, bin_bool_neq Tryd.underlying4, decide_true, decide_false, Bool.not_true, cond_false, e12, hin, e19, p4arrrlrborlblrfr, condV_bool, chk, same]
    simp
end Go.Proofs.YtlhppeikbgolbaaDoor.IdsD
