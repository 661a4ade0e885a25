/-
  IdsAgain: the law, awake taken as told.
-/
import Derived.Test.YtlhppeikbgolbaaDoorIdsA2
namespace Go.Proofs.YtlhppeikbgolbaaDoor.IdsD
open Go Go.AM Go.IdsN Go.Proofs.YtlhppeikbgolbaaDoor.IdsF7

theorem law7 (k : Nat) {h0 : H} {x1 : Value} {l : List Nat} {many : Nat} (hmany : many < 65536) (s : InL h0 x1 l) (ht : TabAt h0) (hz : 0 < h0.next)
    (awake : ∀ h, TabAt h → 0 < h.next → ∃ h', callB Tryd.prog 1 [] (k + 1027) 15 [] h = some (.bool true, h')) :
    ∃ h', callB Tryd.prog 1 [] (k + 1028) 7 [.int .u16 (many : Int), x1] h0 = some (.bool true, h') := by
  have hlen := s.len
  rw [F7eq [] rfl]
  by_cases h3 : 300 < many
  · obtain ⟨h', e⟩ := awake h0 ht hz
    have hd : decide ((300 : Int) < (many : Int)) = true := by rw [decide_eq_true_iff]; omega
    refine ⟨h', ?_⟩
    simp only [F7, p7a, p7al, p7ar, p7arl, bnd_some, bin_gtr, hd, toBK_bool, cond_true, e, bnd2_some]
  have hd : decide ((300 : Int) < (many : Int)) = false := by rw [decide_eq_false_iff_not]; omega
  by_cases h4 : 100 < l.length
  · obtain ⟨h', e⟩ := awake h0 ht hz
    have hd2 : decide ((100 : Int) < (l.length : Int)) = true := by rw [decide_eq_true_iff]; omega
    refine ⟨h', ?_⟩
    simp only [F7, p7a, p7al, p7ar, p7arl, bnd_some, bin_gtr, hd, toBK_bool, cond_false, hlen, hd2, cond_true, e, bnd2_some]
  have hd2 : decide ((100 : Int) < (l.length : Int)) = false := by rw [decide_eq_false_iff_not]; omega
  obtain ⟨h1, e8, r1, y1, n1⟩ := T8 (k + 1026) ht hz
  have v1 : Ag h0 h1 (h0.next + 1) h0.next [] := ⟨r1, by omega, Nat.le_refl _, y1⟩
  obtain ⟨h2, S2, q2, v2, l2, m2⟩ := one7 k (k + 1027) (fun x4 h => some (x4, h)) (fun x1 x5 x0 h => p7arrrr (callB Tryd.prog 1 [] (k + 1027)) (k + 1027) x1 x5 x0 h (fun x4 h => some (x4, h))) x1 (many := many) (by omega)
    many 0 (k + 1027) h1 [] v1 (by omega) (by omega) rfl (fun x => by simp; omega)
  obtain ⟨h3', S3, g, q3, v3, l3, m3⟩ := two7 k (k + 1027) (fun x4 h => some (x4, h)) (fun x7 x1 x5 x0 h => p7arrrrrr (callB Tryd.prog 1 [] (k + 1027)) (k + 1027) x7 x1 x5 x0 h (fun x4 h => some (x4, h))) s (by omega) (many := many) (by omega)
    l.length 0 (k + 1027) h2 S2 0 v2 (by omega) (by omega) (by omega) (fun x => by rw [m2 x]; simp)
  obtain ⟨h4', S4, q4, v4, l4, m4⟩ := three7 k (k + 1027) (fun x4 h => some (x4, h)) (fun x5 x0 h => p7arrrrrrrr (callB Tryd.prog 1 [] (k + 1027)) (k + 1027) x5 x0 h (fun x4 h => some (x4, h))) s (by omega) (many := many) (g := g) (by omega) (by omega)
    g 0 (k + 1027) h3' S3 0 v3 (by omega) (by omega) (by omega) (fun x hx => by have := (m3 x).1 hx; omega) (fun x h1 h2 => by
      by_cases h : x ∈ l
      · exact .inr h
      · exact .inl ((m3 x).2 ⟨h1, h2, h⟩)) (fun x h1 h2 => by omega)
  have all4 : ∀ x, 1 ≤ x → x < many + 1 → x ∈ S4 := fun x h1 h2 => Decidable.byContradiction fun h => by
    have := few_le many (x :: S4) (List.nodup_cons.2 ⟨h, v4.pool.nd⟩) fun y hy => by
      rcases List.mem_cons.1 hy with e | e
      · omega
      · exact m4 y e
    simp at this
    omega
  obtain ⟨h5, e9, r5, y5, n5⟩ := T9 k v4.pool (by omega) (id := many + 1) (by omega) (fun h => by have := m4 _ h; omega) all4
  have v5 := v4.step r5 y5
  obtain ⟨_, _, rp⟩ := r5.pool
  obtain ⟨h6, e15⟩ := awake h5 rp.tb (Nat.lt_of_lt_of_le hz v5.x.next)
  have e11 := T11 (k + 1025) v4.pool
  rw [l4] at e11
  have ec : A.conv Tryd.prog 25 3 (.int .u16 (many : Int)) = some (.int .i64 (many : Int)) := by
    have : A.conv Tryd.prog 25 3 (.int .u16 (many : Int)) = some (.int .i64 (IntKind.i64.wrap (many : Int))) := rfl
    rw [this, wrap_nat (by omega)]
  have hw : IntKind.u16.wrap ((many : Int) + 1) = ((many + 1 : Nat) : Int) := by rw [IntWalk.u16_in _ ⟨by omega, by omega⟩]; omega
  refine ⟨h6, ?_⟩
  simp only [F7, p7a, p7al, p7ar, p7arl, bnd_some, bin_gtr, hd, toBK_bool, cond_false, hlen, hd2, p7arr, p7arrl, e8, bnd2_some, p7arrr, p7arrrl, p7arrrll, p7arrrlr, p7arrrlrb]
  rw [show (Value.int .i64 0) = Value.int .i64 ((0 : Nat) : Int) from rfl, q2]
  simp only [p7arrrr, p7arrrrl, p7arrrrr, p7arrrrrl, p7arrrrrll, p7arrrrrlr, p7arrrrrlrb]
  rw [show (Value.int .i64 0) = Value.int .i64 ((0 : Nat) : Int) from rfl, q3]
  simp only [p7arrrrrr, p7arrrrrrl, p7arrrrrrr, p7arrrrrrrl, p7arrrrrrrll, p7arrrrrrrlr, p7arrrrrrrlrb]
  rw [show (Value.int .i64 0) = Value.int .i64 ((0 : Nat) : Int) from rfl, show (Value.int .u16 0) = Value.int .u16 ((0 : Nat) : Int) from rfl, q4]
  simp only [p7arrrrrrrr, e11, bnd2_some, ec, bnd_some, bin_eql, decide_true, toBK_bool, cond_true, bin_add, hw, e9, e15]
end Go.Proofs.YtlhppeikbgolbaaDoor.IdsD
