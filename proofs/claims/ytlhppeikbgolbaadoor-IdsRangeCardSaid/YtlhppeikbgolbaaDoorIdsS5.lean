/-
  The ids that are told, one by one: a round of the loop over a function.
-/
import Derived.Test.YtlhppeikbgolbaaDoorIdsS4
namespace Go.Proofs.YtlhppeikbgolbaaDoor.IdsD
open Go Go.AM Go.IdsN

theorem Y_eq (k id : Nat) (vs : List Value) (h : H) : callB Tryd.prog 1 [] (k + 1) 1099511627776 (.int .i64 (.ofNat id) :: vs) h =
    roundK Tryd.prog (callB Tryd.prog 1 [] k) k 1 id vs h fun v h => some (v, h) := by
  have hf : Tryd.prog.funcs[1099511627776]? = none := by kernel_rfl
  simp only [callB, hf, List.any_nil, Bool.false_and, cond_false]
  rfl

noncomputable abbrev lp14 (x11 x3 x2 : Value) (bx : Nat) (st : LSt) : Blk := .loop 18 (fs [(11, x11), (3, x3), (2, x2), (4, ptrV bx)]) [12] c14arrrrlrby c14arrrrlrbz st

theorem Y14 (k : Nat) {h : H} {id bx : Nat} {x11 x3 x2 v : Value} {es : List (List Value)} (hl : h.get id = some (lp14 x11 x3 x2 bx .ready))
    (hb : h.get bx = some (.cells [v] (some 0))) (vv : Vec 1 h v es) (hne : id ≠ bx) (hv1 : sid v ≠ some id) (hv2 : sid v ≠ some bx) (hi : id < h.next) (hbx : bx < h.next) (hes : es.length ≤ 70000) (x : Int) :
    ∃ v' h', callB Tryd.prog 1 [] (k + 1) 1099511627776 [.int .i64 (.ofNat id), .int .u16 x] h = some (.bool true, h') ∧
      h'.get id = some (lp14 x11 x3 x2 bx .ready) ∧ h'.get bx = some (.cells [v'] (some 0)) ∧ Vec 1 h' v' (es ++ [[.int .u16 x]]) ∧ ExtBut (fun i => i = id ∨ i = bx ∨ sid v = some i) h h' ∧ (∀ i, sid v' = some i → h.next ≤ i ∧ i ≠ id ∧ i ≠ bx) := by
  rw [Y_eq]
  have hc : (Nat.beq ([12] : List Tmp).length [Value.int .u16 x].length && ([12] : List Tmp).all (fun t => Nat.blt t 18) && noRange c14arrrrlrby && noRange c14arrrrlrbz) = true := by kernel_rfl
  have hlive : live [] c14arrrrlrbz [] [] = [6, 4] := by kernel_rfl
  have hps : setPs (fs [(11, x11), (3, x3), (2, x2), (4, ptrV bx)]) [12] [.int .u16 x] = fs [(11, x11), (3, x3), (2, x2), (4, ptrV bx), (12, .int .u16 x)] := rfl
  obtain ⟨h1, hh1⟩ : ∃ h1, h1 = h.put id (lp14 x11 x3 x2 bx .busy) := ⟨_, rfl⟩
  have g1 : h1.get bx = some (.cells [v] (some 0)) := by rw [hh1, H.get_put, if_neg (Ne.symm hne)]; exact hb
  have n1 : h1.next = h.next := by rw [hh1]; rfl
  have y1 : ExtBut (fun i => i = id) h h1 := hh1 ▸ ExtBut.put ⟨Nat.le_refl _, fun _ _ _ => rfl⟩ id _ rfl
  have v1 : Vec 1 h1 v es := vv.extBut y1 (fun i hi e => hv1 (by rw [hi, e]))
  have hb1 := buildSlice_one (n := 1) (zs := Z25L) h1 rfl (cellsL_int .u16 x) rfl
  have sx := slice_one (h := h1) (n := 1) (vs := [.int .u16 x]) rfl
  obtain ⟨h2, hh2⟩ : ∃ h2, h2 = h1.push (.cells [.int .u16 x] (some 1)) := ⟨_, rfl⟩
  rw [← hh2] at hb1 sx
  have x2' : Ext h1 h2 := hh2 ▸ Ext.push h1 _
  have v2 := v1.ext x2'
  have n2 : h2.next = h.next + 1 := by rw [hh2]; show h1.next + 1 = _; rw [n1]
  obtain ⟨h3, ea, v3, n3, y3⟩ := append_vec (bs := 2) v2 sx (by simp) (by omega) (by simp; omega) (by simp; omega)
  generalize hv' : Value.slice (some ⟨h2.next, 0, none⟩) (es.length + [[Value.int IntKind.u16 x]].length) (2 * (es.length + [[Value.int IntKind.u16 x]].length)) = v' at ea v3
  have hsv' : sid v' = some h2.next := by rw [← hv']; rfl
  have g3 : h3.get bx = some (.cells [v] (some 0)) := by
    rw [y3.get bx (by omega) hv2, hh2, H.get_push, if_neg (by omega)]; exact g1
  have es' : A.store 1 (.pointer (some ⟨bx, 0, none⟩)) v' h3 = some (h3.put bx (.cells [v'] (some 0))) := by
    rw [← hv', store_eq, g3]; rfl
  obtain ⟨h4, hh4⟩ : ∃ h4, h4 = h3.put bx (.cells [v'] (some 0)) := ⟨_, rfl⟩
  rw [← hh4] at es'
  have g4 : h4.get id = some (lp14 x11 x3 x2 bx .busy) := by
    rw [hh4, H.get_put, if_neg hne, y3.get id (by omega) hv1, hh2, H.get_push, if_neg (by omega), hh1, H.get_put, if_pos rfl]
  have gl : A.load false 1 (ptrV bx) h1 = some v := by rw [load1_eq, g1]; rfl
  have y4 : ExtBut (fun i => i = id ∨ i = bx ∨ sid v = some i) h (h4.put id (lp14 x11 x3 x2 bx .ready)) := by
    refine ExtBut.put ?_ id _ (.inl rfl)
    rw [hh4]
    refine ExtBut.put ⟨by omega, fun i hi hn => ?_⟩ bx _ (.inr (.inl rfl))
    rw [y3.get i (by omega) (fun e => hn (.inr (.inr e))), x2'.get i (by omega), y1.get i hi (fun e => hn (.inl e))]
  refine ⟨v', h4.put id (lp14 x11 x3 x2 bx .ready), ?_, by rw [H.get_put, if_pos rfl], ?_, ?_, y4, fun i hi => ?_⟩
  · unfold roundK
    rw [hl]
    simp only [hc, cond_true]
    rw [hlive, hps, ep14arrrrlrby]
    simp only [p14arrrrlrby, hl]
    rw [← hh1, ep14arrrrlrbz]
    simp only [p14arrrrlrbz, gl, bnd_some, hb1, bnd2_some, ea, es', g4, endSt]
  · rw [H.get_put, if_neg (Ne.symm hne), hh4, H.get_put, if_pos rfl]
  · refine (v3.extBut (S := fun i => i = bx) (hh4 ▸ ExtBut.put ⟨Nat.le_refl _, fun _ _ _ => rfl⟩ bx _ rfl : ExtBut (fun i => i = bx) h3 h4) ?_).extBut (S := fun i => i = id) (ExtBut.put ⟨Nat.le_refl _, fun _ _ _ => rfl⟩ id _ rfl) ?_
    · intro i hi e; rw [hsv'] at hi; have := Option.some.inj hi; omega
    · intro i hi e; rw [hsv'] at hi; have := Option.some.inj hi; omega
  · rw [hsv'] at hi; have := Option.some.inj hi; omega
end Go.Proofs.YtlhppeikbgolbaaDoor.IdsD
