/-
  IdsPlays: the law, awake taken as told.
-/
import Derived.Test.YtlhppeikbgolbaaDoorIdsPN
namespace Go.Proofs.YtlhppeikbgolbaaDoor.IdsD
open Go Go.AM Go.IdsN Go.Proofs.YtlhppeikbgolbaaDoor.IdsF4

theorem S16 (k : Nat) (h : H) : callB Tryd.prog 1 [] (k + 1) 16 [] h = some (ptrV h.next, h.push (.cells [.slice none 0 0] (some 0))) := by
  rw [F16eq [] rfl]
  rfl

theorem law4 (k : Nat) {h0 : H} {x0 : Value} {l : List Nat} (sl : InL h0 x0 l) (ht : TabAt h0) (hz : 0 < h0.next)
    (awake : ∀ h, TabAt h → 0 < h.next → ∃ h', callB Tryd.prog 1 [] (k + 1031) 15 [] h = some (.bool true, h')) :
    ∃ h', callB Tryd.prog 1 [] (k + 1032) 4 [x0] h0 = some (.bool true, h') := by
  have hlen : A.lenS x0 = some (.int .i64 (l.length : Int)) := by
    have := sl.1.len.1
    rw [List.length_map] at this
    exact this
  rw [F4eq [] rfl]
  by_cases h4 : 400 < l.length
  · obtain ⟨h', e⟩ := awake h0 ht hz
    have hd : decide ((400 : Int) < (l.length : Int)) = true := by rw [decide_eq_true_iff]; omega
    refine ⟨h', ?_⟩
    simp only [F4, p4a, p4al, p4ar, p4arl, hlen, bnd_some, bin_gtr, hd, toBK_bool, cond_true, e, bnd2_some]
  · have hd : decide ((400 : Int) < (l.length : Int)) = false := by rw [decide_eq_false_iff_not]; omega
    obtain ⟨h1, e8, r1, x1, n1⟩ := T8 (k + 1030) ht hz
    have e16 := S16 (k + 1030) h1
    obtain ⟨h2, hh2⟩ : ∃ h2, h2 = h1.push (.cells [.slice none 0 0] (some 0)) := ⟨_, rfl⟩
    rw [← hh2] at e16
    have x2 : Ext h1 h2 := hh2 ▸ Ext.push h1 _
    have n2 : h2.next = h1.next + 1 := by rw [hh2]; rfl
    have s : Pl h0 h2 (h0.next + 1) h0.next h1.next (.slice none 0 0) [] :=
      ⟨r1.ext x2, ⟨by rw [hh2, H.get_push, if_pos rfl], Vec.nil 1 h2, by omega⟩, List.Pairwise.nil, by omega, by omega, by omega, by omega, by omega, fun i hi => by simp [sid] at hi, by omega, by omega, hz, x1.trans x2⟩
    obtain ⟨h3, v, R, e, s3, hR⟩ := main4 (k + 5) (k + 1031) (fun x2 h => some (x2, h)) (fun x3 x4 h => p4arrrr (callB Tryd.prog 1 [] (k + 1031)) (k + 1031) x3 x4 h (fun x2 h => some (x2, h))) sl (by omega)
      l.length 0 (k + 1031) h2 _ [] s (by omega) (by omega) (by simp)
    obtain ⟨w, R', h4', e14, s4, u4, x4, _⟩ := S14 k s3.pool.pool (Nat.lt_of_lt_of_le hz s3.x.next)
    have hRR : R' = R := sorted_eq _ _ u4.1 s3.up (u4.row s3.pool.rg)
    subst hRR
    have f4 : RefP h4' h1.next v R' := ⟨by rw [x4.get _ s3.ref.lt]; exact s3.ref.hq, s3.ref.s.ext x4, Nat.lt_of_lt_of_le s3.ref.lt x4.next⟩
    have e20 := S20 (k + 1030) s4 f4.s.slice (by omega) (by omega)
    obtain ⟨_, _, rp⟩ := s3.pool.pool
    have ht4 : TabAt h4' := by unfold TabAt; rw [x4.get 0 (Nat.lt_of_lt_of_le hz s3.x.next)]; exact rp.tb
    obtain ⟨h5, e15⟩ := awake h4' ht4 (Nat.lt_of_lt_of_le (Nat.lt_of_lt_of_le hz s3.x.next) x4.next)
    refine ⟨h5, ?_⟩
    have ex0 : A.extract 0 (.tuple ⟨[w, .bool true]⟩) = some w := rfl
    have ex1 : A.extract 1 (.tuple ⟨[w, .bool true]⟩) = some (.bool true) := rfl
    simp only [F4, p4a, p4al, p4ar, p4arl, hlen, bnd_some, bin_gtr, hd, toBK_bool, cond_false, p4arr, p4arrl, e8, bnd2_some, e16, p4arrr, p4arrrl, p4arrrll, p4arrrlr, p4arrrlrb]
    rw [show (Value.int .i64 0) = Value.int .i64 ((0 : Nat) : Int) from rfl]
    refine Eq.trans e ?_
    simp only [p4arrrr, e14, bnd2_some, ex0, ex1, bnd_some, toBK_bool, cond_true, nilCheck_eq, fieldAddr_eq, Nat.zero_add, f4.load, e20, e15]
end Go.Proofs.YtlhppeikbgolbaaDoor.IdsD
