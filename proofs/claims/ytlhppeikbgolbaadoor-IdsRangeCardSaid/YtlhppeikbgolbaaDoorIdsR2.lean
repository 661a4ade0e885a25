/-
  IdsRange: the first loop of the law's own over the iterator: it counts, and may be left.
-/
import Derived.Test.YtlhppeikbgolbaaDoorIdsR1
import Derived.Test.YtlhppeikbgolbaaDoorIdsF6
namespace Go.Proofs.YtlhppeikbgolbaaDoor.IdsD
open Go Go.AM Go.IdsN Go.Proofs.YtlhppeikbgolbaaDoor.IdsF6

noncomputable abbrev lp6a (x60 x4 x5 x6 x10 x11 x12 x9 : Value) (st : LSt) : Blk := .loop 121 (fs [(60, x60), (4, x4), (5, x5), (6, x6), (10, x10), (11, x11), (12, x12), (9, x9)]) [61] c6arrrrrrrrrrrrrlrby c6arrrrrrrrrrrrrlrbz st

/-- The loop that counts: its record, its counter; all else is as it was. -/
structure Cn (hA : H) (id b12 : Nat) (rc : LSt → Blk) (st : LSt) (h : H) (R : List Nat) : Prop where
  lp : h.get id = some (rc st)
  n : h.get b12 = some (.cells [.int .i64 (R.length : Int)] (some 0))
  y : ExtBut (fun i => i = id ∨ i = b12) hA h

/-- One is counted. -/
theorem body6a (C : CF) (L : Nat) {β : Type} (kx kn : H → Option β) {h1 : H} {b12 b4 first n i : Nat} (g1 : h1.get b12 = some (.cells [.int .i64 (n : Int)] (some 0))) (g4 : h1.get b4 = some (.cells [.int .u8 (first : Int)] (some 0))) (ne : b4 ≠ b12) (hn : n ≤ 65536) (i0 : 0 < i) (hf : first < 256) :
    p6arrrrrrrrrrrrrlrbz C L (.int .u16 (i : Int)) (ptrV b12) (ptrV b4) h1 kx kn = (bif decide ((first : Int) ≤ ((n + 1 : Nat) : Int)) then kx (h1.put b12 (.cells [.int .i64 ((n + 1 : Nat) : Int)] (some 0))) else kn (h1.put b12 (.cells [.int .i64 ((n + 1 : Nat) : Int)] (some 0)))) := by
  have l1 : A.load false 1 (ptrV b12) h1 = some (.int .i64 (n : Int)) := by rw [load1_eq, g1]; rfl
  have hw : IntKind.i64.wrap ((n : Int) + 1) = ((n + 1 : Nat) : Int) := wrap_succ (by omega)
  obtain ⟨h2, hh2⟩ : ∃ h2, h2 = h1.put b12 (.cells [.int .i64 ((n + 1 : Nat) : Int)] (some 0)) := ⟨_, rfl⟩
  have es : A.store 1 (ptrV b12) (.int .i64 ((n + 1 : Nat) : Int)) h1 = some h2 := by rw [store_eq, g1, hh2]; rfl
  have g2 : h2.get b12 = some (.cells [.int .i64 ((n + 1 : Nat) : Int)] (some 0)) := by rw [hh2, H.get_put, if_pos rfl]
  have l2 : A.load false 1 (ptrV b12) h2 = some (.int .i64 ((n + 1 : Nat) : Int)) := by rw [load1_eq, g2]; rfl
  have g42 : h2.get b4 = some (.cells [.int .u8 (first : Int)] (some 0)) := by rw [hh2, H.get_put, if_neg ne]; exact g4
  have l4 : A.load false 1 (ptrV b4) h2 = some (.int .u8 (first : Int)) := by rw [load1_eq, g42]; rfl
  have hz : decide ((i : Int) = 0) = false := by rw [decide_eq_false_iff_not]; omega
  have hcv : A.conv Tryd.prog 5 3 (.int .u8 (first : Int)) = some (.int .i64 (first : Int)) := by
    have : A.conv Tryd.prog 5 3 (.int .u8 (first : Int)) = some (.int .i64 (IntKind.i64.wrap (first : Int))) := rfl
    rw [this, wrap_nat (by omega)]
  rw [← hh2]
  simp only [p6arrrrrrrrrrrrrlrbz, p6arrrrrrrrrrrrrlrbzb, l1, bnd_some, bin_add, hw, es, bin_eql, hz, toBK_bool, cond_false, l2, l4, hcv, bin_geq]

theorem check6a (i : Int) : (Nat.beq ([61] : List Tmp).length [Value.int .u16 i].length && ([61] : List Tmp).all (fun t => Nat.blt t 121) && noRange c6arrrrrrrrrrrrrlrby && noRange c6arrrrrrrrrrrrrlrbz) = true := by kernel_rfl
theorem live6a : live [] c6arrrrrrrrrrrrrlrbz [] [] = [13, 12, 4] := by kernel_rfl
theorem eby6a (C : CF) (L : Nat) {β : Type} (x60 x4 x5 x6 x10 x11 x12 x9 x61 : Value) (h : H) (K : Ex → T Value → H → Option β) :
    execK Tryd.prog C L 1 121 [] c6arrrrrrrrrrrrrlrby [13, 12, 4] [] (setPs (fs [(60, x60), (4, x4), (5, x5), (6, x6), (10, x10), (11, x11), (12, x12), (9, x9)]) [61] [x61]) h K =
      p6arrrrrrrrrrrrrlrby C L x60 x4 x5 x6 x10 x11 x12 x9 x61 h (fun x13 x12 x4 h => K .normal (fs [(13, x13), (12, x12), (4, x4)]) h) := by
  kernel_rfl

theorem rounds6a (k : Nat) {hA : H} {id b12 b4 wb first : Nat} {x60 x5 x6 x10 x11 x9 : Value} {W : List Nat} {tk : Nat → Bool} (hid : id < hA.next) (h12 : b12 < hA.next) (h4 : b4 < hA.next) (hwb : wb < hA.next)
    (ne : id ≠ b12) (n41 : b4 ≠ id) (n42 : b4 ≠ b12) (nw1 : wb ≠ id) (nw2 : wb ≠ b12) (n01 : 0 ≠ id) (n02 : 0 ≠ b12) (g4 : hA.get b4 = some (.cells [.int .u8 (first : Int)] (some 0)))
    (gw : hA.get wb = some (.cells (W.map fun (w : Nat) => Value.int .u64 (w : Int)) (some 1))) (ht : TabAt hA) (hf : first < 256) :
    Rounds k id wb W tk (Cn hA id b12 (lp6a x60 (ptrV b4) x5 x6 x10 x11 (ptrV b12) x9) .ready) (Cn hA id b12 (lp6a x60 (ptrV b4) x5 x6 x10 x11 (ptrV b12) x9) (.done (some 2))) := by
  refine ⟨fun h R s => ?_, fun h R s => ?_, fun h R i s hR i0 hi _ _ => ?_⟩
  · unfold TabAt
    rw [s.y.get 0 (by omega) (by rintro (e | e) <;> omega)]
    exact ht
  · rw [s.y.get wb hwb (by rintro (e | e) <;> omega)]
    exact gw
  · have hl := s.lp
    have hn := s.y.next
    obtain ⟨h1, hh1⟩ : ∃ h1, h1 = h.put id (lp6a x60 (ptrV b4) x5 x6 x10 x11 (ptrV b12) x9 .busy) := ⟨_, rfl⟩
    have g1 : h1.get b12 = some (.cells [.int .i64 (R.length : Int)] (some 0)) := by rw [hh1, H.get_put, if_neg (Ne.symm ne)]; exact s.n
    have g4' : h1.get b4 = some (.cells [.int .u8 (first : Int)] (some 0)) := by rw [hh1, H.get_put, if_neg n41, s.y.get b4 h4 (by rintro (e | e) <;> omega)]; exact g4
    obtain ⟨h2, hh2⟩ : ∃ h2, h2 = h1.put b12 (.cells [.int .i64 ((R.length + 1 : Nat) : Int)] (some 0)) := ⟨_, rfl⟩
    have g2 : h2.get b12 = some (.cells [.int .i64 ((R.length + 1 : Nat) : Int)] (some 0)) := by rw [hh2, H.get_put, if_pos rfl]
    have y2 : ExtBut (fun i => i = id ∨ i = b12) hA h2 := by
      rw [hh2, hh1]
      exact ExtBut.put (ExtBut.put s.y id _ (.inl rfl)) b12 _ (.inr rfl)
    have gi : h2.get id = some (lp6a x60 (ptrV b4) x5 x6 x10 x11 (ptrV b12) x9 .busy) := by rw [hh2, H.get_put, if_neg ne, hh1, H.get_put, if_pos rfl]
    have fin : ∀ st, Cn hA id b12 (lp6a x60 (ptrV b4) x5 x6 x10 x11 (ptrV b12) x9) st (h2.put id (lp6a x60 (ptrV b4) x5 x6 x10 x11 (ptrV b12) x9 st)) (R ++ [i]) := fun st =>
      ⟨by rw [H.get_put, if_pos rfl], by rw [H.get_put, if_neg (Ne.symm ne), g2]; simp, ExtBut.put y2 id _ (.inl rfl)⟩
    have hrun : callB Tryd.prog 1 [] (k + 2) 1099511627776 [.int .i64 (.ofNat id), .int .u16 (i : Int)] h =
        (bif decide ((first : Int) ≤ ((R.length + 1 : Nat) : Int)) then some (.bool false, h2.put id (lp6a x60 (ptrV b4) x5 x6 x10 x11 (ptrV b12) x9 (.done (some 2)))) else some (.bool true, h2.put id (lp6a x60 (ptrV b4) x5 x6 x10 x11 (ptrV b12) x9 .ready))) := by
      rw [Y_eq (k + 1)]
      unfold roundK
      rw [hl]
      simp only [check6a, cond_true]
      rw [live6a, eby6a]
      simp only [p6arrrrrrrrrrrrrlrby, hl]
      rw [← hh1, ep6arrrrrrrrrrrrrlrbz, body6a (callB Tryd.prog 1 [] (k + 1)) (k + 1) _ _ g1 g4' n42 hR i0 hf, ← hh2]
      simp only [gi, endSt]
    by_cases hff : (first : Int) ≤ ((R.length + 1 : Nat) : Int)
    · rw [decide_eq_true hff] at hrun
      exact .inr ⟨_, hrun, fin _⟩
    · rw [decide_eq_false hff] at hrun
      exact .inl ⟨_, hrun, fin _⟩
end Go.Proofs.YtlhppeikbgolbaaDoor.IdsD
