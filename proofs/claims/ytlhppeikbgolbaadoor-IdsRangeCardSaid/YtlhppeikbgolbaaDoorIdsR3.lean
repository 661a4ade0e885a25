/-
  IdsRange: the second loop of the law's own over the iterator: it gathers all.
-/
import Derived.Test.YtlhppeikbgolbaaDoorIdsR2
namespace Go.Proofs.YtlhppeikbgolbaaDoor.IdsD
open Go Go.AM Go.IdsN Go.Proofs.YtlhppeikbgolbaaDoor.IdsF6

theorem cu_len (R : List Nat) : (cu R).length = R.length := List.length_map ..
theorem cu_snoc (R : List Nat) (i : Nat) : cu (R ++ [i]) = cu R ++ [[.int .u16 (i : Int)]] := by simp [cu]

/-- It rises. -/
theorem pre6 (C : CF) (L : Nat) {β : Type} (kn : Value → Value → Value → Value → Value → Value → H → Option β) {h1 : H} {b14 i : Nat} {x6 x5 x15 v : Value} {R : List Nat} (g14 : h1.get b14 = some (.cells [v] (some 0))) (vv : Vec 1 h1 v (cu R))
    (hR : R.length ≤ 65536) (i0 : 0 < i) (hb : ∀ x ∈ R, x < i) : p6arrrrrrrrrrrrrrrrlrbzbll C L x6 x5 x15 (.int .u16 (i : Int)) (ptrV b14) h1 kn = kn (.bool false) x6 x5 x15 (.int .u16 (i : Int)) (ptrV b14) h1 := by
  have hz : decide ((i : Int) = 0) = false := by rw [decide_eq_false_iff_not]; omega
  have l14 : A.load false 1 (ptrV b14) h1 = some v := by rw [load1_eq, g14]; rfl
  have hlen := vv.slice.len.1
  rw [cu_len] at hlen
  by_cases hn : R.length = 0
  · have hd : decide ((0 : Int) < (R.length : Int)) = false := by rw [decide_eq_false_iff_not]; omega
    simp only [p6arrrrrrrrrrrrrrrrlrbzbll, bin_eql, hz, bnd_some, toBK_bool, cond_false, l14, hlen, bin_gtr, hd]
  · have hd : decide ((0 : Int) < (R.length : Int)) = true := by rw [decide_eq_true_iff]; omega
    have hlt : R.length - 1 < R.length := by omega
    have hw : IntKind.i64.wrap ((R.length : Int) - 1) = ((R.length - 1 : Nat) : Int) := by rw [wrap64 (by omega) (by omega)]; omega
    obtain ⟨t, off, cells, own, c1, _, c3, _, _, c6⟩ := vv.slice.at (cu_at hlt) .i64
    have ld : A.load false 1 (.pointer (some ⟨t, off, none⟩)) h1 = some (.int .u16 (R[R.length - 1] : Int)) := by
      rw [load1_eq, c3]
      have := c6 0 (by omega)
      simpa using this
    have hy := hb _ (List.getElem_mem hlt)
    have hge : decide ((i : Int) ≤ (R[R.length - 1] : Int)) = false := by rw [decide_eq_false_iff_not]; omega
    simp only [p6arrrrrrrrrrrrrrrrlrbzbll, bin_eql, hz, bnd_some, toBK_bool, cond_false, l14, hlen, bin_gtr, hd, cond_true, bin_sub, hw, c1, ld, bin_geq, hge]

/-- It is noted. -/
theorem post6 (C : CF) (L : Nat) {β : Type} (kn : H → Option β) {h1 : H} {b5 b14 b15 i idv : Nat} {v : Value} {R : List Nat} (g14 : h1.get b14 = some (.cells [v] (some 0))) (vv : Vec 1 h1 v (cu R)) (g5 : h1.get b5 = some (.cells [.int .u16 (idv : Int)] (some 0)))
    (g15 : h1.get b15 = some (.cells [.bool (decide (idv ∈ R))] (some 0))) (hR : R.length ≤ 65536) (ne : b14 ≠ b15) (l14 : b14 < h1.next) (l15 : b15 < h1.next) (s14 : sid v ≠ some b14) (s15 : sid v ≠ some b15) :
    ∃ h' v', p6arrrrrrrrrrrrrrrrlrbzbr C L (ptrV b5) (ptrV b15) (.int .u16 (i : Int)) (ptrV b14) h1 kn = kn h' ∧ h'.get b14 = some (.cells [v'] (some 0)) ∧ h'.get b15 = some (.cells [.bool (decide (idv ∈ R ++ [i]))] (some 0)) ∧
      Vec 1 h' v' (cu (R ++ [i])) ∧ (∀ j, sid v' = some j → h1.next ≤ j) ∧ ExtBut (fun j => j = b14 ∨ j = b15 ∨ sid v = some j) h1 h' := by
  obtain ⟨c, hc⟩ : ∃ c, c = decide (idv ∈ R ++ [i]) := ⟨_, rfl⟩
  obtain ⟨h2, hh2⟩ : ∃ h2, h2 = h1.put b15 (.cells [.bool c] (some 0)) := ⟨_, rfl⟩
  have es15 : A.store 1 (ptrV b15) (.bool c) h1 = some h2 := by rw [store_eq, g15, hh2]; rfl
  have y2 : ExtBut (fun j => j = b15) h1 h2 := hh2 ▸ ExtBut.put ⟨Nat.le_refl _, fun _ _ _ => rfl⟩ b15 _ rfl
  have n2 : h2.next = h1.next := by rw [hh2]; rfl
  have g14b : h2.get b14 = some (.cells [v] (some 0)) := by rw [hh2, H.get_put, if_neg ne]; exact g14
  have g15b : h2.get b15 = some (.cells [.bool c] (some 0)) := by rw [hh2, H.get_put, if_pos rfl]
  have ld14 : A.load false 1 (ptrV b14) h2 = some v := by rw [load1_eq, g14b]; rfl
  have v2 : Vec 1 h2 v (cu R) := vv.extBut y2 (fun j hj e => s15 (by rw [hj, e]))
  have hb1 := buildSlice_one (n := 1) (zs := IdsF6.Z25L) h2 rfl (cellsL_int .u16 (i : Int)) rfl
  have sx := slice_one (h := h2) (n := 1) (vs := [.int .u16 (i : Int)]) rfl
  obtain ⟨h3, hh3⟩ : ∃ h3, h3 = h2.push (.cells [.int .u16 (i : Int)] (some 1)) := ⟨_, rfl⟩
  rw [← hh3] at hb1 sx
  have x3 : Ext h2 h3 := hh3 ▸ Ext.push h2 _
  have n3 : h3.next = h2.next + 1 := by rw [hh3]; rfl
  obtain ⟨h4, ea, v4, n4, y4⟩ := append_vec (bs := 2) (v2.ext x3) sx (by simp) (by omega) (by rw [cu_len]; simp; omega) (by rw [cu_len]; simp; omega)
  rw [← cu_snoc] at v4
  generalize hv' : Value.slice (some ⟨h3.next, 0, none⟩) ((cu R).length + [[Value.int IntKind.u16 (i : Int)]].length) (2 * ((cu R).length + [[Value.int IntKind.u16 (i : Int)]].length)) = v' at ea v4
  have hsv' : sid v' = some h3.next := by rw [← hv']; rfl
  have g14c : h4.get b14 = some (.cells [v] (some 0)) := by rw [y4.get b14 (by omega) s14, x3.get _ (by omega)]; exact g14b
  have g15c : h4.get b15 = some (.cells [.bool c] (some 0)) := by rw [y4.get b15 (by omega) s15, x3.get _ (by omega)]; exact g15b
  obtain ⟨h5, hh5⟩ : ∃ h5, h5 = h4.put b14 (.cells [v'] (some 0)) := ⟨_, rfl⟩
  have es14 : A.store 1 (ptrV b14) v' h4 = some h5 := by rw [← hv', hh5, ← hv', store_eq, g14c]; rfl
  have y5 : ExtBut (fun j => j = b14) h4 h5 := hh5 ▸ ExtBut.put ⟨Nat.le_refl _, fun _ _ _ => rfl⟩ b14 _ rfl
  refine ⟨h5, v', ?_, by rw [hh5, H.get_put, if_pos rfl], by rw [hh5, H.get_put, if_neg (Ne.symm ne), g15c, hc], v4.extBut y5 ?_, ?_, ?_⟩
  · have l5 : A.load false 1 (ptrV b5) h1 = some (.int .u16 (idv : Int)) := by rw [load1_eq, g5]; rfl
    have ld15 : A.load false 1 (ptrV b15) h1 = some (.bool (decide (idv ∈ R))) := by rw [load1_eq, g15]; rfl
    by_cases hin : idv ∈ R
    · have hd : decide (idv ∈ R) = true := decide_eq_true hin
      obtain rfl : c = true := by rw [hc]; exact decide_eq_true (List.mem_append_left _ hin)
      simp only [p6arrrrrrrrrrrrrrrrlrbzbr, ld15, hd, bnd_some, toBK_bool, cond_true, es15, ld14, hb1, bnd2_some, ea, es14]
    · have hd : decide (idv ∈ R) = false := decide_eq_false hin
      have hq : decide ((i : Int) = (idv : Int)) = c := by
        rw [hc, Bool.eq_iff_iff, decide_eq_true_iff, decide_eq_true_iff, List.mem_append, List.mem_singleton]
        constructor
        · intro e; exact .inr (by omega)
        · rintro (e | e)
          · exact absurd e hin
          · omega
      simp only [p6arrrrrrrrrrrrrrrrlrbzbr, ld15, hd, bnd_some, toBK_bool, cond_false, l5, bin_eql, hq, es15, ld14, hb1, bnd2_some, ea, es14]
  · intro j hj e; rw [hsv'] at hj; have := Option.some.inj hj; omega
  · intro j hj; rw [hsv'] at hj; have := Option.some.inj hj; omega
  · refine ⟨by have := y5.next; omega, fun j hj hn => ?_⟩
    rw [y5.get j (by omega) (fun e => hn (.inl e)), y4.get j (by omega) (fun e => hn (.inr (.inr e))), x3.get j (by omega), y2.get j hj (fun e => hn (.inr (.inl e)))]

noncomputable abbrev lp6b (x72 x12 x11 x10 x6 x5 x15 x14 : Value) (st : LSt) : Blk := .loop 121 (fs [(72, x72), (12, x12), (11, x11), (10, x10), (6, x6), (5, x5), (15, x15), (14, x14)]) [73] c6arrrrrrrrrrrrrrrrlrby c6arrrrrrrrrrrrrrrrlrbz st

/-- The loop that gathers. -/
structure Ga (hA : H) (id b14 b15 idv : Nat) (rc : LSt → Blk) (h : H) (R : List Nat) : Prop where
  lp : h.get id = some (rc .ready)
  v : ∃ v, h.get b14 = some (.cells [v] (some 0)) ∧ Vec 1 h v (cu R) ∧ (∀ i, sid v = some i → hA.next ≤ i)
  told : h.get b15 = some (.cells [.bool (decide (idv ∈ R))] (some 0))
  y : ExtBut (fun i => i = id ∨ i = b14 ∨ i = b15) hA h

theorem check6b (i : Int) : (Nat.beq ([73] : List Tmp).length [Value.int .u16 i].length && ([73] : List Tmp).all (fun t => Nat.blt t 121) && noRange c6arrrrrrrrrrrrrrrrlrby && noRange c6arrrrrrrrrrrrrrrrlrbz) = true := by kernel_rfl
theorem live6b : live [] c6arrrrrrrrrrrrrrrrlrbz [] [] = [6, 5, 15, 16, 14] := by kernel_rfl
theorem eby6b (C : CF) (L : Nat) {β : Type} (x72 x12 x11 x10 x6 x5 x15 x14 x73 : Value) (h : H) (K : Ex → T Value → H → Option β) :
    execK Tryd.prog C L 1 121 [] c6arrrrrrrrrrrrrrrrlrby [6, 5, 15, 16, 14] [] (setPs (fs [(72, x72), (12, x12), (11, x11), (10, x10), (6, x6), (5, x5), (15, x15), (14, x14)]) [73] [x73]) h K =
      p6arrrrrrrrrrrrrrrrlrby C L x72 x12 x11 x10 x6 x5 x15 x14 x73 h (fun x6 x5 x15 x16 x14 h => K .normal (fs [(6, x6), (5, x5), (15, x15), (16, x16), (14, x14)]) h) := by
  kernel_rfl

/-- A round's body. -/
theorem body6b (C : CF) (L : Nat) {β : Type} (kn kr : H → Option β) {h1 : H} {x6 : Value} {b5 b14 b15 i idv : Nat} {v : Value} {R : List Nat} (g14 : h1.get b14 = some (.cells [v] (some 0))) (vv : Vec 1 h1 v (cu R)) (g5 : h1.get b5 = some (.cells [.int .u16 (idv : Int)] (some 0)))
    (g15 : h1.get b15 = some (.cells [.bool (decide (idv ∈ R))] (some 0))) (hR : R.length ≤ 65536) (i0 : 0 < i) (hb : ∀ x ∈ R, x < i) (ne : b14 ≠ b15) (l14 : b14 < h1.next) (l15 : b15 < h1.next) (s14 : sid v ≠ some b14) (s15 : sid v ≠ some b15) :
    ∃ h' v', p6arrrrrrrrrrrrrrrrlrbz C L x6 (ptrV b5) (ptrV b15) (.int .u16 (i : Int)) (ptrV b14) h1 kn kr = kn h' ∧ h'.get b14 = some (.cells [v'] (some 0)) ∧ h'.get b15 = some (.cells [.bool (decide (idv ∈ R ++ [i]))] (some 0)) ∧
      Vec 1 h' v' (cu (R ++ [i])) ∧ (∀ j, sid v' = some j → h1.next ≤ j) ∧ ExtBut (fun j => j = b14 ∨ j = b15 ∨ sid v = some j) h1 h' := by
  have e1 := pre6 C L (β := β) (x6 := x6) (x5 := ptrV b5) (x15 := ptrV b15) (fun x90 x6 x5 x15 x16 x14 h => p6arrrrrrrrrrrrrrrrlrbzblr C L x90 x6 x5 x15 x16 x14 h kr (fun x5 x15 x16 x14 h => p6arrrrrrrrrrrrrrrrlrbzbr C L x5 x15 x16 x14 h kn)) g14 vv hR i0 hb
  obtain ⟨h', v', e2, f⟩ := post6 C L (i := i) kn g14 vv g5 g15 hR ne l14 l15 s14 s15
  refine ⟨h', v', ?_, f⟩
  simp only [p6arrrrrrrrrrrrrrrrlrbz, p6arrrrrrrrrrrrrrrrlrbzb, p6arrrrrrrrrrrrrrrrlrbzbl]
  rw [e1]
  simp only [p6arrrrrrrrrrrrrrrrlrbzblr, condV_bool, cond_false]
  exact e2

theorem rounds6b (k : Nat) {hA : H} {id b14 b15 b5 wb idv : Nat} {x72 x12 x11 x10 x6 : Value} {W : List Nat} {tk : Nat → Bool} (hid : id < hA.next) (h14 : b14 < hA.next) (h15 : b15 < hA.next) (h5 : b5 < hA.next) (hwb : wb < hA.next)
    (n1 : id ≠ b14) (n2 : id ≠ b15) (n3 : b14 ≠ b15) (n51 : b5 ≠ id) (n52 : b5 ≠ b14) (n53 : b5 ≠ b15) (nw1 : wb ≠ id) (nw2 : wb ≠ b14) (nw3 : wb ≠ b15) (n01 : 0 ≠ id) (n02 : 0 ≠ b14) (n03 : 0 ≠ b15)
    (g5 : hA.get b5 = some (.cells [.int .u16 (idv : Int)] (some 0))) (gw : hA.get wb = some (.cells (W.map fun (w : Nat) => Value.int .u64 (w : Int)) (some 1))) (ht : TabAt hA) :
    Rounds k id wb W tk (Ga hA id b14 b15 idv (lp6b x72 x12 x11 x10 x6 (ptrV b5) (ptrV b15) (ptrV b14))) (fun _ _ => False) := by
  refine ⟨fun h R s => ?_, fun h R s => ?_, fun h R i s hR i0 hi _ hlt => ?_⟩
  · unfold TabAt
    rw [s.y.get 0 (by omega) (by rintro (e | e | e) <;> omega)]
    exact ht
  · rw [s.y.get wb hwb (by rintro (e | e | e) <;> omega)]
    exact gw
  · have hl := s.lp
    have hn := s.y.next
    obtain ⟨v, gv, vv, hv⟩ := s.v
    obtain ⟨h1, hh1⟩ : ∃ h1, h1 = h.put id (lp6b x72 x12 x11 x10 x6 (ptrV b5) (ptrV b15) (ptrV b14) .busy) := ⟨_, rfl⟩
    have y1 : ExtBut (fun i => i = id) h h1 := hh1 ▸ ExtBut.put ⟨Nat.le_refl _, fun _ _ _ => rfl⟩ id _ rfl
    have nx1 : h1.next = h.next := by rw [hh1]; rfl
    have g14 : h1.get b14 = some (.cells [v] (some 0)) := by rw [hh1, H.get_put, if_neg (Ne.symm n1)]; exact gv
    have g15 : h1.get b15 = some (.cells [.bool (decide (idv ∈ R))] (some 0)) := by rw [hh1, H.get_put, if_neg (Ne.symm n2)]; exact s.told
    have g5' : h1.get b5 = some (.cells [.int .u16 (idv : Int)] (some 0)) := by rw [hh1, H.get_put, if_neg n51, s.y.get b5 h5 (by rintro (e | e | e) <;> omega)]; exact g5
    have v1 : Vec 1 h1 v (cu R) := vv.extBut y1 (fun j hj e => by have := hv j hj; omega)
    have hbd := fun (kn kr : H → Option (Value × H)) => body6b (callB Tryd.prog 1 [] (k + 1)) (k + 1) kn kr (x6 := x6) g14 v1 g5' g15 hR i0 hlt n3 (by omega) (by omega) (fun e => by have := hv _ e; omega) (fun e => by have := hv _ e; omega)
    obtain ⟨h', v', e2, g1', g2', v2', s2', y2'⟩ := hbd (fun h => (match h.get id with | some (.loop nt4 f4 p4 a4 b4 _) => some (Value.bool (endSt .normal).1, h.put id (.loop nt4 f4 p4 a4 b4 (endSt .normal).2)) | _ => none))
      (fun h => (match h.get id with | some (.loop nt4 f4 p4 a4 b4 _) => some (Value.bool (endSt .ret).1, h.put id (.loop nt4 f4 p4 a4 b4 (endSt .ret).2)) | _ => none))
    have gi : h'.get id = some (lp6b x72 x12 x11 x10 x6 (ptrV b5) (ptrV b15) (ptrV b14) .busy) := by
      rw [y2'.get id (by omega) (by rintro (e | e | e)
                                    · omega
                                    · omega
                                    · have := hv _ e; omega), hh1, H.get_put, if_pos rfl]
    refine .inl ⟨h'.put id (lp6b x72 x12 x11 x10 x6 (ptrV b5) (ptrV b15) (ptrV b14) .ready), ?_, by rw [H.get_put, if_pos rfl], ⟨v', by rw [H.get_put, if_neg (Ne.symm n1)]; exact g1', v2'.extBut (S := fun i => i = id) (ExtBut.put ⟨Nat.le_refl _, fun _ _ _ => rfl⟩ id _ rfl) (fun j hj e => by have := s2' j hj; omega), fun j hj => by have := s2' j hj; omega⟩,
      by rw [H.get_put, if_neg (Ne.symm n2)]; exact g2', ?_⟩
    · rw [Y_eq (k + 1)]
      unfold roundK
      rw [hl]
      simp only [check6b, cond_true]
      rw [live6b, eby6b]
      simp only [p6arrrrrrrrrrrrrrrrlrby, hl]
      rw [← hh1, ep6arrrrrrrrrrrrrrrrlrbz]
      refine Eq.trans e2 ?_
      simp only [gi, endSt]
    · refine ExtBut.put ⟨by have := y2'.next; omega, fun j hj hne => ?_⟩ id _ (.inl rfl)
      rw [y2'.get j (by omega) (by rintro (e | e | e)
                                   · exact hne (.inr (.inl e))
                                   · exact hne (.inr (.inr e))
                                   · have := hv _ e; omega), y1.get j (by omega) (fun e => hne (.inl e)), s.y.get j hj hne]
end Go.Proofs.YtlhppeikbgolbaaDoor.IdsD
