/-
  An abstract machine for the model: append, copy, len, texts, plain operations.
-/
import Derived.Test.YtkiagdpknegcbaaGreatDoorAdSound3
namespace Go.AM
open Go

variable (P : Program) {NG : Nat} {μ : Mu} {h : H} {w : World}

theorem lenOf_sound {size : Nat} {x cx : Value} {new : List Value} (he : A.elems size x h = some new) (rx : VR μ x cx) :
    (Builtin.lenOf cx).run P w = .ok (A.lenOf x) w := by
  unfold A.elems at he
  split at he
  · rw [rx.nilslice_inv]; rfl
  · obtain ⟨l, a', c', hl, rfl, _⟩ := rx.slice_inv; rfl
  · rw [rx.string_inv]; rfl
  · simp at he

theorem elems_sound {NG : Nat} (r : RH NG μ h w) {size : Nat} {x cx : Value} {new : List Value} (he : A.elems size x h = some new) (rx : VR μ x cx) :
    ∃ ds, (∀ w' : World, w'.heap = w.heap → (Builtin.firstCells size (A.lenOf x) cx).run P w' = .ok ⟨ds⟩ w') ∧ LR μ new ds ∧ (∀ a ∈ new, cellish a = true) ∧ new.length = A.lenOf x * size := by
  unfold A.elems at he
  split at he
  · simp only [Option.some.injEq] at he; subst he
    rw [rx.nilslice_inv]
    exact ⟨[], fun _ _ => rfl, .nil, by simp, by simp [A.lenOf]⟩
  · rename_i id off n c
    obtain ⟨l, a', c', hl, rfl, hcap, hle, ha⟩ := rx.slice_inv
    cases hn0 : Nat.beq n 0 with
    | true =>
      rw [hn0] at he
      simp only [cond_true, Option.some.injEq] at he; subst he
      have h0 := beq_iff.1 hn0
      subst h0
      refine ⟨[], fun _ _ => ?_, .nil, by simp, by simp [A.lenOf]⟩
      simp [A.lenOf, Builtin.firstCells, loadCells, loadCellsFrom]
    | false =>
      rw [hn0] at he
      simp only [cond_false] at he
      have hne : n ≠ 0 := fun e => by subst e; simp at hn0
      split at he
      · rename_i cs own hg
        obtain ⟨hc, he⟩ := cond_some he
        simp only [Option.some.injEq] at he; subst he
        have hc := ble_iff.1 hc
        obtain ⟨ccs, ty, fz, h1, h2, h3, h4, h5, _⟩ := r.cells hg hl
        have hc0 : c' ≠ 0 := by unfold CapOK at hcap; split at hcap <;> omega
        have hrun := fun (w' : World) (hw : w'.heap = w.heap) => load_row P w' l.blk (l.off + off) ccs ty fz (by rw [hw]; exact h1) (n * size) (by omega)
        refine ⟨(ccs.toList.drop (l.off + off)).take (n * size), ?_, ?_, fun a ha => h5 a (List.mem_of_mem_drop (List.mem_of_mem_take ha)), by simp [A.lenOf]; omega⟩
        · intro w' hw'; simp only [A.lenOf, Builtin.firstCells, ha hc0]; exact hrun w' hw'
        · have e : ((((ccs.toList.drop l.off).take cs.length).drop off).take (n * size)) = (ccs.toList.drop (l.off + off)).take (n * size) := by
            rw [List.drop_take, List.drop_drop, List.take_take, Nat.min_eq_left (by omega)]
          have r1 := (h4.drop off).take (n * size)
          rw [e] at r1
          exact r1
      · simp at he
  · rename_i s
    obtain ⟨hc, he⟩ := cond_some he
    simp only [Option.some.injEq] at he; subst he
    have hc := beq_iff.1 hc; subst hc
    rw [rx.string_inv]
    refine ⟨s.data.toList.map fun b => .int .u8 b.toNat, ?_, LR.of_plain_mem μ (by simp [plain]), by simp [cellish], by simp [A.lenOf]⟩
    intro w' _
    simp only [A.lenOf, Builtin.firstCells, Sem.run_pure]
    congr 1
    apply Array.ext'
    simp
  · simp at he

theorem typeInfo_bytes {e : TypeId} {bs : Nat} (hb : bytesP P e = some bs) (w : World) : ∃ i, (typeInfo e).run P w = .ok i w ∧ i.bytes = bs := by
  unfold bytesP at hb
  cases hq : P.info? e with
  | none => simp [hq] at hb
  | some i => simp [hq] at hb; exact ⟨i, by simp [typeInfo, hq], hb⟩

theorem zeroCells_eq (z : Value) (zs : List Value) (hz : cellsL z = some zs) (k : Nat) :
    (Builtin.zeroCells z.cells k).size = k * zs.length := by
  rw [cellsL_cells hz]; simp [Builtin.zeroCells]

/-- What the builtin append does where it must move. -/
theorem append_grow {t e : TypeId} {n bs : Nat} {z : Value} {zs : List Value} (hu : P.underlying t = some (.slice e)) (hn : szP P e = some n) (hb : bytesP P e = some bs) (hz : zeroP P e = some z) (hzs : cellsL z = some zs) (hzl : zs.length = n)
    {t2 : TypeId} {d : TypeDesc} (hu2 : P.underlying t2 = some d) (hd : ∀ k, d ≠ .int k) (hb0 : 0 < bs)
    {base : Option Addr} {sLen sCap lx : Nat} {cx : Value} {old new : List Value} (hlx : (Builtin.lenOf cx).run P w = .ok lx w)
    (hold : ∀ (w' : World), w'.heap = w.heap → (Builtin.firstCells n sLen (.slice base sLen sCap)).run P w' = .ok ⟨old⟩ w')
    (hnew : ∀ (w' : World), w'.heap = w.heap → (Builtin.firstCells n lx cx).run P w' = .ok ⟨new⟩ w')
    (hgrow : sCap < sLen + lx) (hfit : (sLen + lx) * bs ≤ 2 ^ 47) (ty : TypeId) :
    ∃ newCap rest, sLen + lx ≤ newCap ∧ rest.length = (newCap - (sLen + lx)) * n ∧
      (Builtin.append_ #[t, t2] ty #[.slice base sLen sCap, cx]).run P w =
        .ok (.slice (some ⟨w.heap.size, 0, none⟩) (sLen + lx) newCap) (w.drew.alloc (.cells ⟨old ++ new ++ rest⟩ e)) := by
  obtain ⟨i, hti, hib⟩ := typeInfo_bytes P hb w
  have hti' : ∀ w' : World, (typeInfo e).run P w' = .ok i w' := fun w' => by
    obtain ⟨i', h1, _⟩ := typeInfo_bytes P hb w'
    unfold bytesP at hb
    cases hq : P.info? e with
    | none => simp [hq] at hb
    | some j =>
      have : (typeInfo e).run P w = .ok j w := by simp [typeInfo, hq]
      rw [hti] at this; simp at this; subst this
      simp [typeInfo, hq]
  have hq : ∃ q, q = (Question.appendCap (sLen + lx) sCap e).cut (w.tape w.drawn (.appendCap (sLen + lx) sCap e)) := ⟨_, rfl⟩
  obtain ⟨q, hq⟩ := hq
  have hqle : sLen + lx ≤ q := by rw [hq]; simp only [Question.cut]; omega
  refine ⟨q, (Builtin.zeroCells z.cells (q - (sLen + lx))).toList, hqle, by simp [zeroCells_eq z zs hzs, hzl], ?_⟩
  have hfits : Builtin.nextslicecap (sLen + lx) sCap * bs ≤ 281474976710656 := growslice_fits hgrow (by simpa using hfit)
  simp only [Builtin.append_, List.getElem?_toArray, List.getElem?_cons_zero, List.getElem?_cons_succ, Sem.run_bind, run_underlying hu, Result.andThen_ok, run_sizeOf P hn]
  simp only [Sem.run_bind, run_underlying hu2, Result.andThen_ok, Sem.run_pure, Bool.false_eq_true, if_false, Bool.not_false, if_true]
  rw [hlx]
  simp only [Result.andThen_ok]
  rw [if_neg (by omega)]
  have c1 : ¬ (((sLen + lx : Nat) : Int) > IntKind.i64.max ∧ (False ∨ i.bytes = 0)) := by
    rintro ⟨_, h2⟩; rcases h2 with h2 | h2
    · exact h2
    · omega
  simp only [Sem.run_bind, hti', Result.andThen_ok]
  rw [if_neg (by simpa using c1)]
  simp only [Sem.run_bind, hti', Result.andThen_ok]
  rw [hib, if_neg (by omega)]
  simp only [Sem.run_bind, run_choose, Question.forced, Bool.false_eq_true, if_false, Result.andThen_ok, ← hq, run_askRoom, hti', World.drew_eq]
  rw [hold w.drew rfl]
  simp only [Result.andThen_ok]
  rw [hnew w.drew rfl]
  simp only [Result.andThen_ok, run_zero P hz, newRow, Sem.run_bind, run_newObj, Sem.run_pure]
  congr 2
  congr 1
  simp


/-- What the builtin append does where there is room. -/
theorem append_room {t e : TypeId} {n : Nat} (hu : P.underlying t = some (.slice e)) (hn : szP P e = some n) {t2 : TypeId} {d : TypeDesc} (hu2 : P.underlying t2 = some d) (hd : ∀ k, d ≠ .int k)
    {base : Option Addr} {sLen sCap lx : Nat} {cx : Value} {new : List Value} (hlx : (Builtin.lenOf cx).run P w = .ok lx w)
    (hnew : (Builtin.firstCells n lx cx).run P w = .ok ⟨new⟩ w) (hroom : sLen + lx ≤ sCap) {w' : World}
    (hst : match base with | some a => (storeCells (a.add (sLen * n)) new).run P w = .ok () w' | none => w' = w) (ty : TypeId) :
    (Builtin.append_ #[t, t2] ty #[.slice base sLen sCap, cx]).run P w = .ok (.slice base (sLen + lx) sCap) w' := by
  simp only [Builtin.append_, List.getElem?_toArray, List.getElem?_cons_zero, List.getElem?_cons_succ, Sem.run_bind, run_underlying hu, Result.andThen_ok, run_sizeOf P hn]
  simp only [Sem.run_bind, run_underlying hu2, Result.andThen_ok, Sem.run_pure, Bool.false_eq_true, if_false, Bool.not_false, if_true]
  rw [hlx]
  simp only [Result.andThen_ok]
  rw [if_pos hroom]
  simp only [Sem.run_bind, hnew, Result.andThen_ok]
  cases base with
  | none => simp only at hst; subst hst; simp
  | some a => simp only at hst; simp only [Sem.run_bind, hst, Result.andThen_ok, Sem.run_pure]

theorem append_sound {NG : Nat} (r : RH NG μ h w) {h' : H} (hf : Fresh μ h.next h'.next) {t e : TypeId} {n bs : Nat} {z : Value} {zs : List Value} (hu : P.underlying t = some (.slice e)) (hn : szP P e = some n) (hb : bytesP P e = some bs) (hz : zeroP P e = some z) (hzs : cellsL z = some zs) (hzl : zs.length = n)
    {t2 : TypeId} {d : TypeDesc} (hu2 : P.underlying t2 = some d) (hd : ∀ k, d ≠ .int k) (hb0 : 0 < bs) {s x v cs_ cx : Value}
    (hn0 : 0 < n) (hK : n < KB) (hv : A.append (enc e n) n bs s x h = some (v, h')) (rs : VR μ s cs_) (rx : VR μ x cx) (ty : TypeId) :
    ∃ cv w' μ', (Builtin.append_ #[t, t2] ty #[cs_, cx]).run P w = .ok cv w' ∧ Step NG μ h w μ' h' w' ∧ VR μ' v cv := by
  unfold A.append at hv
  split at hv
  · simp at hv
  · rename_i new hnew
    obtain ⟨ds, hds, hlr, hcl, hnl⟩ := elems_sound P r hnew rx
    have hdl : ds.length = A.lenOf x * n := by rw [← hlr.1]; exact hnl
    have hlx := lenOf_sound P (w := w) hnew rx
    split at hv
    · rw [rs.nilslice_inv]
      cases h0 : Nat.beq (A.lenOf x) 0 with
      | true =>
        rw [h0] at hv
        simp only [cond_true, Option.some.injEq, Prod.mk.injEq] at hv
        obtain ⟨rfl, rfl⟩ := hv
        have h0 := beq_iff.1 h0
        have := append_room P hu hn hu2 hd (base := none) (sLen := 0) (sCap := 0) hlx (hds w rfl) (by omega) (w' := w) rfl ty
        rw [h0] at this
        exact ⟨_, w, μ, this, Step.refl r, .sliceNil⟩
      | false =>
        rw [h0] at hv
        simp only [cond_false] at hv
        obtain ⟨hc, hv⟩ := cond_some hv
        simp only [Option.some.injEq, Prod.mk.injEq] at hv
        obtain ⟨rfl, rfl⟩ := hv
        simp only [Bool.and_eq_true, ble_iff] at hc
        have hne : A.lenOf x ≠ 0 := fun e => by rw [e] at h0; simp at h0
        obtain ⟨newCap, rest, hq, hr1, hrun⟩ := append_grow P (base := none) (sLen := 0) (sCap := 0) (old := []) hu hn hb hz hzs hzl hu2 hd hb0 hlx (fun w' _ => rfl) hds (by omega) (by simpa using hc.1) ty
        simp only [Nat.zero_add] at hq hr1 hrun
        have hrl : ds.length + rest.length = newCap * n := by
          rw [hdl, hr1, ← Nat.add_mul, Nat.add_sub_cancel' hq]
        refine ⟨_, _, _, hrun, Step.new_cells (es := enc e n) (cs := new) (ds := [] ++ ds ++ rest) r (hf _ (Nat.le_refl _) (by simp)) rfl rfl rfl rfl (by simp; omega) ?_ hcl ⟨(enc_div hK).symm, fun h0 => by rw [enc_mod hK] at h0; omega⟩, ?_⟩
        · rw [List.nil_append, List.take_append_of_le_length (by omega), hlr.1, List.take_length]; exact hlr
        · refine .slice (Mu.set_same _ _ _) ?_ (by omega) (fun _ => rfl)
          unfold CapOK
          rw [if_neg (by omega)]
          simp only [enc_mod hK]
          simp only [List.nil_append, List.length_append]
          exact ⟨by omega, by omega⟩
    · rename_i id off len c
      obtain ⟨l, a', c', hl, rfl, hcap, hle, ha⟩ := rs.slice_inv
      have hcc : c / 2 ≤ c' := by unfold CapOK at hcap; split at hcap <;> omega
      cases h0 : Nat.beq (A.lenOf x) 0 with
      | true =>
        rw [h0] at hv
        simp only [cond_true, Option.some.injEq, Prod.mk.injEq] at hv
        obtain ⟨rfl, rfl⟩ := hv
        have h0 := beq_iff.1 h0
        have hd0 : ds = [] := List.length_eq_zero_iff.1 (by rw [hdl, h0]; simp)
        subst hd0
        have := append_room P hu hn hu2 hd (base := some a') (sLen := len) (sCap := c') hlx (hds w rfl) (by omega) (w' := w) (by simp [storeCells]) ty
        rw [h0] at this
        exact ⟨_, w, μ, this, Step.refl r, rs⟩
      | false =>
        rw [h0] at hv
        simp only [cond_false] at hv
        have hne : A.lenOf x ≠ 0 := fun e => by rw [e] at h0; simp at h0
        have hmul : (len + A.lenOf x) * n = len * n + A.lenOf x * n := Nat.add_mul _ _ _
        split at hv
        · rename_i cs es hg
          obtain ⟨ccs, cty, fz, h1, h2, h3, h4, h5, h6, h7⟩ := r.cells hg hl
          have hfz := h6 rfl
          -- the old cells
          have hold : Nat.ble (off + len * n) cs.length = true → ∀ (w' : World), w'.heap = w.heap → (Builtin.firstCells n len (.slice (some a') len c')).run P w' = .ok ⟨(ccs.toList.drop (l.off + off)).take (len * n)⟩ w' := by
            intro hb w' hw'
            have hb := ble_iff.1 hb
            by_cases hl0 : len = 0
            · subst hl0; simp [Builtin.firstCells, loadCells, loadCellsFrom]
            · simp only [Builtin.firstCells, ha (by omega)]
              exact load_row P w' l.blk (l.off + off) ccs cty fz (by rw [hw']; exact h1) (len * n) (by omega)
          have holdr : off + len * n ≤ cs.length → LR μ ((cs.drop off).take (len * n)) ((ccs.toList.drop (l.off + off)).take (len * n)) := by
            intro hb
            have r1 := (h4.drop off).take (len * n)
            rw [List.drop_take, List.drop_drop, List.take_take, Nat.min_eq_left (by omega)] at r1
            exact r1
          cases hin : (Nat.ble (len + A.lenOf x) (c / 2) && (Nat.beq (c % 2) 1 || Nat.ble (off + (len + A.lenOf x) * n) cs.length)) with
          | true =>
            rw [hin] at hv
            simp only [cond_true] at hv
            obtain ⟨hfit, hv⟩ := cond_some hv
            simp only [Option.some.injEq, Prod.mk.injEq] at hv
            obtain ⟨rfl, rfl⟩ := hv
            have hin := ble_iff.1 (Bool.and_eq_true_iff.1 hin).1
            have hfit := ble_iff.1 hfit
            have hst := store_row P ds w l.blk (l.off + (off + len * n)) 0 ccs cty fz h1 (by omega) (by rw [h2]; exact hfz) (hlr.cell_all hcl)
            have hrun := append_room P hu hn hu2 hd (base := some a') (sLen := len) (sCap := c') hlx (hds w rfl) (by omega) (w' := setObj w l.blk (.cells ⟨splice ccs.toList (l.off + (off + len * n)) ds⟩ cty fz))
              (by simp only; rw [ha (by omega), add_plain, show l.off + off + len * n = l.off + (off + len * n) by omega]; simpa using hst) ty
            refine ⟨_, _, μ, hrun, Step.write r hg rfl rfl hl ?_, .slice hl hcap (by omega) ha⟩
            have hsl : (splice ccs.toList (l.off + (off + len * n)) ds).length = ccs.size := by rw [splice_length _ _ _ (by simp; omega)]; simp
            have hsl2 : (splice cs (off + len * n) new).length = cs.length := splice_length _ _ _ (by omega)
            refine BR.mk_cells (setObj_same (BR.lt (r.br _ _ _ hg hl))) (by omega) (by omega) ?_ ?_ h6 (by rw [hsl2]; exact h7)
            · have e : ((splice ccs.toList (l.off + (off + len * n)) ds).drop l.off).take cs.length = splice ((ccs.toList.drop l.off).take cs.length) (off + len * n) ds := by
                apply List.ext_getElem?
                intro i
                rw [List.getElem?_take]
                by_cases hi : i < cs.length
                · rw [if_pos hi, List.getElem?_drop, splice_get _ _ _ (by simp; omega), splice_get _ _ _ (by simp; omega)]
                  by_cases h8 : i < off + len * n
                  · rw [if_pos (by omega), if_pos h8, List.getElem?_take, if_pos hi, List.getElem?_drop]
                  · rw [if_neg (by omega), if_neg h8]
                    by_cases h9 : i < off + len * n + ds.length
                    · rw [if_pos (by omega), if_pos h9]; congr 1; omega
                    · rw [if_neg (by omega), if_neg h9, List.getElem?_take, if_pos hi, List.getElem?_drop]
                · rw [if_neg hi, List.getElem?_eq_none]
                  rw [splice_length _ _ _ (by simp; omega)]; simp; omega
              rw [hsl2, e]
              exact h4.splice hlr _
            · intro a ha
              unfold splice at ha
              simp only [List.mem_append] at ha
              rcases ha with (ha | ha) | ha
              · exact h5 a (List.mem_of_mem_take ha)
              · exact hcl a ha
              · exact h5 a (List.mem_of_mem_drop ha)
          | false =>
            rw [hin] at hv
            simp only [cond_false] at hv
            have hin : c % 2 = 1 → c / 2 < len + A.lenOf x := by
              intro hp
              rcases Nat.lt_or_ge (c / 2) (len + A.lenOf x) with h | h
              · exact h
              · rw [ble_iff.2 h, beq_iff.2 hp] at hin; simp at hin
            obtain ⟨hc, hv⟩ := cond_some hv
            simp only [Bool.and_eq_true] at hc
            obtain ⟨⟨hc1, hc2⟩, hc3⟩ := hc
            have hc3' := ble_iff.1 hc3
            have hfr : μ h.next = none := by
              refine hf _ (Nat.le_refl _) ?_
              cases hp : Nat.beq (c % 2) 1 with
              | true => rw [hp] at hv; simp only [cond_true, Option.some.injEq, Prod.mk.injEq] at hv; rw [← hv.2]; simp
              | false =>
                rw [hp] at hv; simp only [cond_false] at hv
                obtain ⟨_, hv⟩ := cond_some hv
                simp only [Option.some.injEq, Prod.mk.injEq] at hv; rw [← hv.2]; simp
            -- moved
            have moved : c' < len + A.lenOf x → ∀ (h0 : H), RH NG μ h0 w → μ h0.next = none → ∃ cv w' μ', (Builtin.append_ #[t, t2] ty #[.slice (some a') len c', cx]).run P w = .ok cv w' ∧
                Step NG μ h0 w μ' (h0.push (.cells ((cs.drop off).take (len * n) ++ new) (some (enc e n)))) w' ∧ VR μ' (.slice (some ⟨h0.next, 0, none⟩) (len + A.lenOf x) (2 * (len + A.lenOf x))) cv := by
              intro hlt h0 r0 hf0
              obtain ⟨newCap, rest, hq, hr1, hrun⟩ := append_grow P (base := some a') (sLen := len) (sCap := c') hu hn hb hz hzs hzl hu2 hd hb0 hlx (hold hc3) hds hlt (ble_iff.1 hc1) ty
              have hor := holdr hc3'
              have hol : ((ccs.toList.drop (l.off + off)).take (len * n)).length = len * n := by simp; omega
              have hol2 : ((cs.drop off).take (len * n)).length = len * n := by simp; omega
              have hrl : len * n + ds.length + rest.length = newCap * n := by
                rw [hdl, hr1, ← Nat.add_mul, ← Nat.add_mul, Nat.add_sub_cancel' hq]
              refine ⟨_, _, _, hrun, Step.new_cells (es := enc e n) (cs := (cs.drop off).take (len * n) ++ new) (ds := (ccs.toList.drop (l.off + off)).take (len * n) ++ ds ++ rest) r0 hf0 rfl rfl rfl rfl ?_ ?_ ?_ ⟨(enc_div hK).symm, fun h0 => by rw [enc_mod hK] at h0; omega⟩, ?_⟩
              · simp only [List.length_append, hol, hol2]; omega
              · have e : ((cs.drop off).take (len * n) ++ new).length = ((ccs.toList.drop (l.off + off)).take (len * n) ++ ds).length := by
                  simp only [List.length_append, hol, hol2, hlr.1]
                rw [e, List.take_append_of_le_length (Nat.le_refl _), List.take_length]
                exact hor.append hlr
              · intro a ha
                simp only [List.mem_append] at ha
                rcases ha with ha | ha
                · exact h5 a (List.mem_of_mem_drop (List.mem_of_mem_take ha))
                · exact hcl a ha
              · refine .slice (Mu.set_same _ _ _) ?_ (by omega) (fun _ => rfl)
                unfold CapOK
                rw [if_neg (by omega)]
                simp only [enc_mod hK]
                simp only [List.length_append, hol]
                exact ⟨by omega, by omega⟩
            cases hp : Nat.beq (c % 2) 1 with
            | true =>
              rw [hp] at hv
              simp only [cond_true, Option.some.injEq, Prod.mk.injEq] at hv
              obtain ⟨rfl, rfl⟩ := hv
              have hp := beq_iff.1 hp
              refine moved ?_ h r hfr
              unfold CapOK at hcap
              rw [if_pos hp] at hcap; have := hin hp; omega
            | false =>
              rw [hp] at hv
              simp only [cond_false] at hv
              have hp : ¬ c % 2 = 1 := fun e => by rw [beq_iff.2 e] at hp; simp at hp
              obtain ⟨hc4, hv⟩ := cond_some hv
              simp only [Option.some.injEq, Prod.mk.injEq] at hv
              obtain ⟨rfl, rfl⟩ := hv
              simp only [Bool.and_eq_true, beq_iff] at hc4
              obtain ⟨hend, hes⟩ := hc4
              have hles : l.es % KB = n := by rw [(h7 _ rfl).1, hes]; exact enc_mod hK
              unfold CapOK at hcap
              rw [if_neg hp, hles] at hcap
              have hdt : cs.drop off = (cs.drop off).take (len * n) := by rw [List.take_of_length_le]; simp; omega
              by_cases hroom : len + A.lenOf x ≤ c'
              · have hmulc : (len + A.lenOf x) * n ≤ c' * n := Nat.mul_le_mul_right n hroom
                have hst := store_row P ds w l.blk (l.off + off + len * n) 0 ccs cty fz h1 (by omega) (by rw [h2]; exact hfz) (hlr.cell_all hcl)
                have hrun := append_room P hu hn hu2 hd (base := some a') (sLen := len) (sCap := c') hlx (hds w rfl) hroom (w' := setObj w l.blk (.cells ⟨splice ccs.toList (l.off + off + len * n) ds⟩ cty fz))
                  (by simp only; rw [ha (by omega), add_plain]; simpa using hst) ty
                have hsl : (splice ccs.toList (l.off + off + len * n) ds).length = ccs.size := by rw [splice_length _ _ _ (by simp; omega)]; simp
                refine ⟨_, _, _, hrun, Step.grow (l' := ⟨l.blk, l.off + off, enc e n, l.size⟩) r hfr hg rfl rfl hl rfl ?_, ?_⟩
                · refine BR.mk_cells (ds := splice ccs.toList (l.off + off + len * n) ds) (setObj_same (BR.lt (r.br _ _ _ hg hl))) (by simp only; omega) (by simp; omega) ?_ ?_ (fun _ => hfz) (fun es' e' => by have e' := Option.some.inj e'; subst e'; exact ⟨rfl, by rw [← hes]; exact (h7 _ rfl).2.1, fun h0 => by rw [enc_mod hK] at h0; omega⟩)
                  · have e : ((splice ccs.toList (l.off + off + len * n) ds).drop (l.off + off)).take ((cs.drop off ++ new).length) = (ccs.toList.drop (l.off + off)).take (len * n) ++ ds := by
                      apply List.ext_getElem?
                      intro i
                      have hll : (cs.drop off ++ new).length = len * n + ds.length := by simp; omega
                      rw [hll, List.getElem?_take]
                      by_cases hi : i < len * n + ds.length
                      · rw [if_pos hi, List.getElem?_drop, splice_get _ _ _ (by simp; omega)]
                        by_cases h8 : i < len * n
                        · rw [if_pos (by omega), List.getElem?_append_left (by simp; omega), List.getElem?_take, if_pos h8, List.getElem?_drop]
                        · rw [if_neg (by omega), if_pos (by omega), List.getElem?_append_right (by simp; omega)]
                          congr 1
                          simp; omega
                      · rw [if_neg hi, List.getElem?_eq_none]; simp; omega
                    rw [e]
                    have hor := holdr hc3'
                    rw [← hdt] at hor
                    exact (hor.append hlr).mono (Mu.le_set hfr)
                  · intro a ha
                    simp only [List.mem_append] at ha
                    rcases ha with ha | ha
                    · exact h5 a (List.mem_of_mem_drop ha)
                    · exact hcl a ha
                · refine .slice (l := ⟨l.blk, l.off + off, enc e n, l.size⟩) (Mu.set_same _ _ _) ?_ (by omega) (fun hc0 => ha hc0)
                  unfold CapOK
                  rw [if_neg (by omega)]
                  simp only [enc_mod hK]
                  exact ⟨by omega, by omega⟩
              · have hk := Step.kill r id _ l hg hl
                obtain ⟨cv, w', μ', e1, e2, e3⟩ := moved (by omega) (h.kill id) hk.rh (by simpa using hfr)
                rw [← hdt] at e2
                exact ⟨cv, w', μ', e1, hk.trans e2, e3⟩
        · rename_i cs hg
          obtain ⟨ccs, cty, fz, h1, h2, h3, h4, h5, _, _⟩ := r.cells hg hl
          obtain ⟨hc, hv⟩ := cond_some hv
          simp only [Option.some.injEq, Prod.mk.injEq] at hv
          obtain ⟨rfl, rfl⟩ := hv
          simp only [Bool.and_eq_true, ble_iff, beq_iff, blt_iff] at hc
          obtain ⟨⟨⟨⟨hc1, hc2⟩, hc3⟩, hp⟩, hlt⟩ := hc
          unfold CapOK at hcap
          rw [if_pos hp] at hcap
          have hold : ∀ (w' : World), w'.heap = w.heap → (Builtin.firstCells n len (.slice (some a') len c')).run P w' = .ok ⟨(ccs.toList.drop (l.off + off)).take (len * n)⟩ w' := by
            intro w' hw'
            by_cases hl0 : len = 0
            · subst hl0; simp [Builtin.firstCells, loadCells, loadCellsFrom]
            · simp only [Builtin.firstCells, ha (by omega)]
              exact load_row P w' l.blk (l.off + off) ccs cty fz (by rw [hw']; exact h1) (len * n) (by omega)
          have hor : LR μ ((cs.drop off).take (len * n)) ((ccs.toList.drop (l.off + off)).take (len * n)) := by
            have r1 := (h4.drop off).take (len * n)
            rw [List.drop_take, List.drop_drop, List.take_take, Nat.min_eq_left (by omega)] at r1
            exact r1
          obtain ⟨newCap, rest, hq, hr1, hrun⟩ := append_grow P (base := some a') (sLen := len) (sCap := c') hu hn hb hz hzs hzl hu2 hd hb0 hlx hold hds (by omega) hc1 ty
          have hol : ((ccs.toList.drop (l.off + off)).take (len * n)).length = len * n := by simp; omega
          have hol2 : ((cs.drop off).take (len * n)).length = len * n := by simp; omega
          have hrl : len * n + ds.length + rest.length = newCap * n := by
            rw [hdl, hr1, ← Nat.add_mul, ← Nat.add_mul, Nat.add_sub_cancel' hq]
          refine ⟨_, _, _, hrun, Step.new_cells (es := enc e n) (cs := (cs.drop off).take (len * n) ++ new) (ds := (ccs.toList.drop (l.off + off)).take (len * n) ++ ds ++ rest) r (hf _ (Nat.le_refl _) (by simp)) rfl rfl rfl rfl ?_ ?_ ?_ ⟨(enc_div hK).symm, fun h0 => by rw [enc_mod hK] at h0; omega⟩, ?_⟩
          · simp only [List.length_append, hol, hol2]; omega
          · have e : ((cs.drop off).take (len * n) ++ new).length = ((ccs.toList.drop (l.off + off)).take (len * n) ++ ds).length := by
              simp only [List.length_append, hol, hol2, hlr.1]
            rw [e, List.take_append_of_le_length (Nat.le_refl _), List.take_length]
            exact hor.append hlr
          · intro a ha
            simp only [List.mem_append] at ha
            rcases ha with ha | ha
            · exact h5 a (List.mem_of_mem_drop (List.mem_of_mem_take ha))
            · exact hcl a ha
          · refine .slice (Mu.set_same _ _ _) ?_ (by omega) (fun _ => rfl)
            unfold CapOK
            rw [if_neg (by omega)]
            simp only [enc_mod hK]
            simp only [List.length_append, hol]
            exact ⟨by omega, by omega⟩
        · simp at hv
    · simp at hv

end Go.AM
