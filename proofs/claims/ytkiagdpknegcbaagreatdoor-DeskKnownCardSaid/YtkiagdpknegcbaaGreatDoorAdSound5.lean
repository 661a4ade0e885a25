/-
  An abstract machine for the model: copy, len, texts, plain operations.
-/
import Derived.Test.YtkiagdpknegcbaaGreatDoorAdSound4
namespace Go.AM
open Go

variable (P : Program) {NG : Nat} {μ : Mu} {h : H} {w : World}

theorem copy_sound {NG : Nat} (r : RH NG μ h w) {h' : H} {t t2 e : TypeId} {n : Nat} (hu : P.underlying t = some (.slice e)) (hn : szP P e = some n)
    {d x v cd cx : Value} (hv : A.copy n d x h = some (v, h')) (rd : VR μ d cd) (rx : VR μ x cx) (ty : TypeId) :
    ∃ cv w', (Builtin.copy_ #[t, t2] ty #[cd, cx]).run P w = .ok cv w' ∧ Step NG μ h w μ h' w' ∧ VR μ v cv := by
  unfold A.copy at hv
  split at hv
  · simp at hv
  · rename_i new hnew
    obtain ⟨ds, hds, hlr, hcl, hnl⟩ := elems_sound P r hnew rx
    have hdl : ds.length = A.lenOf x * n := by rw [← hlr.1]; exact hnl
    have hlx := lenOf_sound P (w := w) hnew rx
    -- at most k elements of the source
    have htake : ∀ k, k ≤ A.lenOf x → (Builtin.firstCells n k cx).run P w = .ok ⟨ds.take (k * n)⟩ w := by
      intro k hk
      have hkn : k * n ≤ A.lenOf x * n := Nat.mul_le_mul_right n hk
      unfold A.elems at hnew
      split at hnew
      · have := rx.nilslice_inv; subst this
        simp only [A.lenOf, Nat.zero_mul] at hdl
        have := List.length_eq_zero_iff.1 hdl; subst this
        simp [Builtin.firstCells]
      · rename_i id off m c
        obtain ⟨l, a', c', hl, rfl, hcap, hle, ha⟩ := rx.slice_inv
        by_cases hk0 : k = 0
        · subst hk0; simp [Builtin.firstCells, loadCells, loadCellsFrom]
        · simp only [A.lenOf] at hk hkn hdl
          have hm0 : Nat.beq m 0 = false := by
            cases hb : Nat.beq m 0 with
            | false => rfl
            | true => have := beq_iff.1 hb; omega
          rw [hm0] at hnew
          simp only [cond_false] at hnew
          have hc0 : c' ≠ 0 := by unfold CapOK at hcap; split at hcap <;> omega
          split at hnew
          · rename_i cs own hg
            obtain ⟨hc, hnew⟩ := cond_some hnew
            have hc := ble_iff.1 hc
            obtain ⟨ccs, cty, fz, h1, h2, h3, h4, h5, _⟩ := r.cells hg hl
            have e0 := hds w rfl
            simp only [A.lenOf, Builtin.firstCells, ha hc0] at e0 ⊢
            rw [load_row P w l.blk (l.off + off) ccs cty fz h1 (m * n) (by omega)] at e0
            rw [load_row P w l.blk (l.off + off) ccs cty fz h1 (k * n) (by omega)]
            simp only [Result.ok.injEq, Array.mk.injEq, and_true] at e0
            rw [← e0, List.take_take, Nat.min_eq_left hkn]
          · simp at hnew
      · rename_i s
        obtain ⟨hc, hnew⟩ := cond_some hnew
        have hc := beq_iff.1 hc; subst hc
        rw [rx.string_inv] at hds ⊢
        have e0 := hds w rfl
        simp only [A.lenOf, Builtin.firstCells, Sem.run_pure, Result.ok.injEq, and_true] at e0 ⊢
        simp only [A.lenOf] at hk
        apply Array.ext'
        have e1 := congrArg Array.toList e0
        simp at e1 ⊢
        rw [← e1, ← List.map_take]
      · simp at hnew
    split at hv
    · simp only [Option.some.injEq, Prod.mk.injEq] at hv
      obtain ⟨rfl, rfl⟩ := hv
      rw [rd.nilslice_inv]
      refine ⟨.int .i64 0, w, ?_, Step.refl r, .int .i64 0⟩
      have := htake 0 (Nat.zero_le _)
      simp only [Builtin.copy_, List.getElem?_toArray, List.getElem?_cons_zero, List.getElem?_cons_succ, Sem.run_bind, run_underlying hu, Result.andThen_ok, run_sizeOf P hn, hlx, Nat.min_def, Nat.le_zero_eq]
      rw [show (if A.lenOf x = 0 then A.lenOf x else 0) = 0 by split <;> omega, this]
      simp [goInt]
    · rename_i id off len c
      obtain ⟨l, a', c', hl, rfl, hcap, hle, ha⟩ := rd.slice_inv
      have hmin : Nat.min (A.lenOf x) len ≤ A.lenOf x := Nat.min_le_left _ _
      have hmin2 : Nat.min (A.lenOf x) len ≤ len := Nat.min_le_right _ _
      have htk := htake _ hmin
      have hrun : ∀ w', (storeCells a' (ds.take (Nat.min (A.lenOf x) len * n))).run P w = .ok () w' → (Builtin.copy_ #[t, t2] ty #[.slice (some a') len c', cx]).run P w = .ok (goInt (Nat.min (A.lenOf x) len : Nat)) w' := by
        intro w' hst
        simp only [Builtin.copy_, List.getElem?_toArray, List.getElem?_cons_zero, List.getElem?_cons_succ, Sem.run_bind, run_underlying hu, Result.andThen_ok, run_sizeOf P hn, hlx, htk, hst, Sem.run_pure]
      cases h0 : Nat.beq (Nat.min (A.lenOf x) len) 0 with
      | true =>
        rw [h0] at hv
        simp only [cond_true, Option.some.injEq, Prod.mk.injEq] at hv
        obtain ⟨rfl, rfl⟩ := hv
        have h0 := beq_iff.1 h0
        refine ⟨_, w, hrun w (by rw [h0]; simp [storeCells]), Step.refl r, ?_⟩
        rw [h0]; exact .int .i64 0
      | false =>
        rw [h0] at hv
        simp only [cond_false] at hv
        have h0 : Nat.min (A.lenOf x) len ≠ 0 := fun e => by rw [e] at h0; simp at h0
        have hc0 : c' ≠ 0 := by unfold CapOK at hcap; split at hcap <;> omega
        split at hv
        · rename_i cs es hg
          obtain ⟨hfit, hv⟩ := cond_some hv
          simp only [Option.some.injEq, Prod.mk.injEq] at hv
          obtain ⟨rfl, rfl⟩ := hv
          have hfit := ble_iff.1 hfit
          obtain ⟨ccs, cty, fz, h1, h2, h3, h4, h5, h6, h7⟩ := r.cells hg hl
          have hkn : Nat.min (A.lenOf x) len * n ≤ A.lenOf x * n := Nat.mul_le_mul_right n hmin
          have htl : (ds.take (Nat.min (A.lenOf x) len * n)).length = Nat.min (A.lenOf x) len * n := by simp [hdl]
          have htl2 : (new.take (Nat.min (A.lenOf x) len * n)).length = Nat.min (A.lenOf x) len * n := by simp [hnl]
          have hlr' := hlr.take (Nat.min (A.lenOf x) len * n)
          have hcl' : ∀ a ∈ new.take (Nat.min (A.lenOf x) len * n), cellish a = true := fun a ha => hcl a (List.mem_of_mem_take ha)
          generalize hT : ds.take (Nat.min (A.lenOf x) len * n) = T at *
          generalize hN : new.take (Nat.min (A.lenOf x) len * n) = N at *
          have hst := store_row P T w l.blk (l.off + off) 0 ccs cty fz h1 (by omega) (by rw [h2]; exact h6 rfl) (hlr'.cell_all hcl')
          refine ⟨_, _, hrun _ (by rw [ha hc0]; simpa using hst), Step.write r hg rfl rfl hl ?_, .int .i64 _⟩
          have hsl : (splice ccs.toList (l.off + off) T).length = ccs.size := by rw [splice_length _ _ _ (by simp; omega)]; simp
          have hsl2 : (splice cs off N).length = cs.length := splice_length _ _ _ (by omega)
          refine BR.mk_cells (setObj_same (BR.lt (r.br _ _ _ hg hl))) (by omega) (by omega) ?_ ?_ h6 (by rw [hsl2]; exact h7)
          · have e : ((splice ccs.toList (l.off + off) T).drop l.off).take cs.length = splice ((ccs.toList.drop l.off).take cs.length) off T := by
              apply List.ext_getElem?
              intro i
              rw [List.getElem?_take]
              by_cases hi : i < cs.length
              · rw [if_pos hi, List.getElem?_drop, splice_get _ _ _ (by simp; omega), splice_get _ _ _ (by simp; omega)]
                by_cases h8 : i < off
                · rw [if_pos (by omega), if_pos h8, List.getElem?_take, if_pos hi, List.getElem?_drop]
                · rw [if_neg (by omega), if_neg h8]
                  by_cases h9 : i < off + T.length
                  · rw [if_pos (by omega), if_pos h9]; congr 1; omega
                  · rw [if_neg (by omega), if_neg h9, List.getElem?_take, if_pos hi, List.getElem?_drop]
              · rw [if_neg hi, List.getElem?_eq_none]
                rw [splice_length _ _ _ (by simp; omega)]; simp; omega
            rw [hsl2, e]
            exact h4.splice hlr' off
          · intro a ha
            unfold splice at ha
            simp only [List.mem_append] at ha
            rcases ha with (ha | ha) | ha
            · exact h5 a (List.mem_of_mem_take ha)
            · exact hcl' a ha
            · exact h5 a (List.mem_of_mem_drop ha)
        · simp at hv
    · simp at hv

theorem clear_sound {NG : Nat} (r : RH NG μ h w) {h' : H} {t e : TypeId} {n : Nat} {z : Value} {zs : List Value} (hu : P.underlying t = some (.slice e)) (hz : zeroP P e = some z) (hzs : cellsL z = some zs)
    (hzp : plainCL zs = true) (hzl : zs.length = n) (hn0 : 0 < n) {x cx : Value} (hv : A.clear n zs x h = some h') (rx : VR μ x cx) (ty : TypeId) :
    ∃ w', (Builtin.clear_ #[t] ty #[cx]).run P w = .ok (.tuple #[]) w' ∧ Step NG μ h w μ h' w' := by
  unfold A.clear at hv
  split at hv
  · simp only [Option.some.injEq] at hv; subst hv
    rw [rx.nilslice_inv]
    refine ⟨w, ?_, Step.refl r⟩
    simp [Builtin.clear_, run_underlying hu]
  · rename_i id off len c
    obtain ⟨l, a', c', hl, rfl, hcap, hle, ha⟩ := rx.slice_inv
    cases h0 : Nat.beq len 0 with
    | true =>
      rw [h0] at hv
      simp only [cond_true, Option.some.injEq] at hv; subst hv
      have h0 := beq_iff.1 h0; subst h0
      refine ⟨w, ?_, Step.refl r⟩
      simp [Builtin.clear_, run_underlying hu]
    | false =>
      rw [h0] at hv
      simp only [cond_false] at hv
      have hne : len ≠ 0 := fun e => by rw [e] at h0; simp at h0
      have hc0 : c' ≠ 0 := by unfold CapOK at hcap; split at hcap <;> omega
      split at hv
      · rename_i cs es hg
        obtain ⟨hfit, hv⟩ := cond_some hv
        simp only [Option.some.injEq] at hv; subst hv
        have hfit := ble_iff.1 hfit
        obtain ⟨ccs, cty, fz, h1, h2, h3, h4, h5, h6, h7⟩ := r.cells hg hl
        have hzm := plainCL_mem hzp
        have hcells := cellsL_cells hzs
        have e1 : (Builtin.zeroCells z.cells len).toList = A.zeros zs len := by
          rw [hcells]
          have e2 := zeros_eq zs (by omega) len
          simp only [Builtin.zeroCells, Array.toList_map, Array.toList_range]
          exact e2
        have hzlen : (A.zeros zs len).length = len * n := by rw [zeros_length, hzl]
        have hcl : ∀ a ∈ A.zeros zs len, cellish a = true := fun a ha => (hzm a (mem_zeros zs len a ha)).2
        have hlr : LR μ (A.zeros zs len) (A.zeros zs len) := LR.of_plain_mem μ (fun a ha => (hzm a (mem_zeros zs len a ha)).1)
        generalize hT : A.zeros zs len = T at *
        have hst := store_row P T w l.blk (l.off + off) 0 ccs cty fz h1 (by omega) (by rw [h2]; exact h6 rfl) hcl
        refine ⟨_, ?_, Step.write r hg rfl rfl hl (o := .cells ⟨splice ccs.toList (l.off + off) T⟩ cty fz) ?_⟩
        · simp only [Builtin.clear_, List.getElem?_toArray, List.getElem?_cons_zero, Sem.run_bind, run_underlying hu, Result.andThen_ok]
          rw [ha hc0]
          have hst' : (storeCells ⟨l.blk, l.off + off, none⟩ T).run P w = .ok () (setObj w l.blk (.cells ⟨splice ccs.toList (l.off + off) T⟩ cty fz)) := by simpa using hst
          cases len with
          | zero => exact absurd rfl hne
          | succ m => simp only [Sem.run_bind, run_zero P hz, Result.andThen_ok, e1, hst', Sem.run_pure]
        · have hsl : (splice ccs.toList (l.off + off) T).length = ccs.size := by rw [splice_length _ _ _ (by simp; omega)]; simp
          have hsl2 : (splice cs off T).length = cs.length := splice_length _ _ _ (by omega)
          refine BR.mk_cells (setObj_same (BR.lt (r.br _ _ _ hg hl))) (by omega) (by omega) ?_ ?_ h6 (by rw [hsl2]; exact h7)
          · have e : ((splice ccs.toList (l.off + off) T).drop l.off).take cs.length = splice ((ccs.toList.drop l.off).take cs.length) off T := by
              apply List.ext_getElem?
              intro i
              rw [List.getElem?_take]
              by_cases hi : i < cs.length
              · rw [if_pos hi, List.getElem?_drop, splice_get _ _ _ (by simp; omega), splice_get _ _ _ (by simp; omega)]
                by_cases h8 : i < off
                · rw [if_pos (by omega), if_pos h8, List.getElem?_take, if_pos hi, List.getElem?_drop]
                · rw [if_neg (by omega), if_neg h8]
                  by_cases h9 : i < off + T.length
                  · rw [if_pos (by omega), if_pos h9]; congr 1; omega
                  · rw [if_neg (by omega), if_neg h9, List.getElem?_take, if_pos hi, List.getElem?_drop]
              · rw [if_neg hi, List.getElem?_eq_none]
                rw [splice_length _ _ _ (by simp; omega)]; simp; omega
            rw [hsl2, e]
            exact h4.splice hlr off
          · intro a ha
            unfold splice at ha
            simp only [List.mem_append] at ha
            rcases ha with (ha | ha) | ha
            · exact h5 a (List.mem_of_mem_take ha)
            · exact hcl a ha
            · exact h5 a (List.mem_of_mem_drop ha)
      · simp at hv
  · simp at hv

theorem lenS_sound {t e : TypeId} (hu : P.underlying t = some (.slice e)) {x v cx : Value} (hv : A.lenS x = some v) (rx : VR μ x cx) (ty : TypeId) :
    (Builtin.len_ #[t] ty #[cx]).run P w = .ok v w ∧ VR μ v v := by
  unfold A.lenS at hv
  split at hv
  · rename_i a n c
    simp only [Option.some.injEq] at hv; subst hv
    refine ⟨?_, .int .i64 n⟩
    have : ∃ a' c', cx = .slice a' n c' := by
      cases rx with
      | sliceNil => exact ⟨_, _, rfl⟩
      | slice => exact ⟨_, _, rfl⟩
    obtain ⟨a', c', rfl⟩ := this
    simp [Builtin.len_, run_underlying hu, goInt]
  · simp at hv

theorem lenStr_sound {t : TypeId} (hu : P.underlying t = some .string) {x v cx : Value} (hv : A.lenStr x = some v) (rx : VR μ x cx) (ty : TypeId) :
    (Builtin.len_ #[t] ty #[cx]).run P w = .ok v w ∧ VR μ v v := by
  unfold A.lenStr at hv
  split at hv
  · rename_i s
    simp only [Option.some.injEq] at hv; subst hv
    rw [rx.string_inv]
    exact ⟨by simp [Builtin.len_, run_underlying hu, goInt], .int .i64 s.size⟩
  · simp at hv

theorem lenM_sound {NG : Nat} (r : RH NG μ h w) {t k e : TypeId} (hu : P.underlying t = some (.map k e)) {x v cx : Value} (hv : A.lenM x h = some v) (rx : VR μ x cx) (ty : TypeId) :
    (Builtin.len_ #[t] ty #[cx]).run P w = .ok v w ∧ VR μ v v := by
  unfold A.lenM at hv
  split at hv
  · simp only [Option.some.injEq] at hv; subst hv
    have : cx = .map none := by cases rx; rfl
    subst this
    exact ⟨by simp [Builtin.len_, run_underlying hu, goInt], .int .i64 0⟩
  · rename_i id
    have : ∃ l, μ id = some l ∧ cx = .map (some l.blk) := by cases rx with | map hl => exact ⟨_, hl, rfl⟩
    obtain ⟨l, hl, rfl⟩ := this
    split at hv
    · rename_i es clock hg
      simp only [Option.some.injEq] at hv; subst hv
      obtain ⟨ces, h1, h2, _⟩ := r.br _ _ _ hg hl
      refine ⟨?_, .int .i64 _⟩
      have hgo : (getObj l.blk).run P w = .ok (.map ces clock) w := by simp only [getObj, Sem.run, h1]
      simp only [Builtin.len_, List.getElem?_toArray, List.getElem?_cons_zero, Sem.run_bind, run_underlying hu, Result.andThen_ok, hgo, Sem.run_pure, goInt, h2]
    · simp at hv
  · simp at hv

/-! Texts. -/
theorem toBytes_run (f : Value → ByteArray → Sem (ForInStep ByteArray)) (hf : ∀ n s, f (.int .u8 n) s = pure (.yield (s.push (UInt8.ofNat n.toNat)))) :
    ∀ (vs : List Value) (l : List UInt8) (acc : ByteArray) (w : World), A.toBytes vs = some l →
    (forIn (m := Sem) vs acc f).run P w = .ok (⟨⟨acc.data.toList ++ l⟩⟩ : ByteArray) w
  | [], l, acc, w, h => by
    simp only [A.toBytes, Option.some.injEq] at h; subst h
    simp [forIn, Sem.run_pure]
  | v :: vs, l, acc, w, h => by
    cases v with
    | int k n =>
      cases k with
      | u8 =>
        simp only [A.toBytes] at h
        obtain ⟨l', hl', rfl⟩ := Option.map_eq_some_iff.1 h
        have ih := toBytes_run f hf vs l' (acc.push (UInt8.ofNat n.toNat)) w hl'
        simp only [List.forIn_cons, hf, Sem.run_bind, Sem.run_pure, Result.andThen_ok]
        rw [ih]
        congr 3
        simp [ByteArray.push]
      | _ => simp [A.toBytes] at h
    | _ => simp [A.toBytes] at h

theorem b2s_sound {NG : Nat} (r : RH NG μ h w) {src dst e : TypeId} (hu : P.underlying src = some (.slice e)) (hd : P.underlying dst = some .string) (he : P.underlying e = some (.int .u8))
    {x v cx : Value} (hv : A.b2s x h = some v) (rx : VR μ x cx) : ∃ cv, (convert src dst cx).run P w = .ok cv w ∧ VR μ v cv := by
  unfold A.b2s at hv
  split at hv
  · simp only [Option.some.injEq] at hv; subst hv
    rw [rx.nilslice_inv]
    refine ⟨.string .empty, ?_, .string _⟩
    simp only [convert, Sem.run_bind, run_underlying hu, run_underlying hd, Result.andThen_ok, run_underlying he, Conv.bytesToString, Sem.run_pure]
  · rename_i a n c
    split at hv
    · rename_i vs hvs
      obtain ⟨l, hl, rfl⟩ := Option.map_eq_some_iff.1 hv
      obtain ⟨ds, hds, hlr, hcl, hnl⟩ := elems_sound P r hvs rx
      have : ∃ a' c', cx = .slice (some a') n c' := by cases rx with | slice => exact ⟨_, _, rfl⟩
      obtain ⟨a', c', rfl⟩ := this
      have hpl : plainL vs = true := by
        clear hds hlr hcl hnl hvs hv
        induction vs generalizing l with
        | nil => rfl
        | cons v vs ih =>
          cases v with
          | int k m =>
            cases k with
            | u8 =>
              simp only [A.toBytes] at hl
              obtain ⟨l', hl', _⟩ := Option.map_eq_some_iff.1 hl
              simp only [plainL, plain, Bool.true_and]
              exact ih l' hl'
            | _ => simp [A.toBytes] at hl
          | _ => simp [A.toBytes] at hl
      have hdv : ds = vs := by
        apply List.ext_getElem?
        intro i
        cases hi : vs[i]? with
        | none => rw [List.getElem?_eq_none_iff] at hi ⊢; rw [← hlr.1]; exact hi
        | some b =>
          obtain ⟨b', hb', hr'⟩ := hlr.get hi
          rw [hb', hr'.eq_of_plain (plainL_get vs hpl i b hi)]
      subst hdv
      have hload := hds w rfl
      simp only [A.lenOf, Builtin.firstCells, Nat.mul_one] at hload
      refine ⟨_, ?_, .string _⟩
      simp only [convert, Sem.run_bind, run_underlying hu, run_underlying hd, Result.andThen_ok, run_underlying he, Conv.bytesToString, hload]
      rw [← Array.forIn_toList, toBytes_run P _ (fun n s => rfl) ds l .empty w hl]
      simp
    · simp at hv
  · simp at hv


theorem s2b_sound {NG : Nat} (r : RH NG μ h w) (hfr : μ h.next = none) {src dst e : TypeId} (hu : P.underlying src = some .string) (hd : P.underlying dst = some (.slice e)) (he : P.underlying e = some (.int .u8))
    {x v cx : Value} {h' : H} (hv : A.s2b (enc e 1) x h = some (v, h')) (rx : VR μ x cx) : ∃ cv w' μ', (convert src dst cx).run P w = .ok cv w' ∧ Step NG μ h w μ' h' w' ∧ VR μ' v cv := by
  unfold A.s2b at hv
  split at hv
  · rename_i s
    obtain ⟨hc, hv⟩ := cond_some hv
    simp only [Option.some.injEq, Prod.mk.injEq] at hv
    obtain ⟨rfl, rfl⟩ := hv
    have hc := ble_iff.1 hc
    rw [rx.string_inv]
    have hq : ∃ q, q = (Question.appendCap s.size 0 e).cut (w.tape w.drawn (.appendCap s.size 0 e)) := ⟨_, rfl⟩
    obtain ⟨q, hq⟩ := hq
    have hqle : s.size ≤ q := by rw [hq]; simp only [Question.cut]; omega
    have hsz : s.data.size = s.size := rfl
    let ds : List Value := (s.data.toList.map fun b => Value.int .u8 b.toNat) ++ List.replicate (q - s.size) (.int .u8 0)
    have hdl : ds.length = q := by simp [ds, hsz]; omega
    let w' : World := (w.drew.alloc (.cells ⟨ds⟩ e)).freeze ⟨w.heap.size, q, none⟩ 1
    have hw' : w'.heap = w.heap.push (.cells ⟨ds⟩ e (q, q + 1)) := by
      simp only [w', World.freeze, World.alloc, World.drew]
      rw [if_neg (by omega)]
      apply Array.ext_getElem?
      intro i
      rw [Array.getElem?_modify, Array.getElem?_push, Array.getElem?_push]
      by_cases hi : w.heap.size = i
      · subst hi; simp
      · rw [if_neg hi, if_neg (Ne.symm hi), if_neg (Ne.symm hi)]
    refine ⟨.slice (some ⟨w.heap.size, 0, none⟩) s.size q, w', _, ?_, Step.push (l := ⟨w.heap.size, 0, enc e 1, q⟩) (o := .cells ⟨ds⟩ e (q, q + 1)) r hfr rfl hw' ?_ ?_ ?_ rfl ?_, ?_⟩
    · have hcells : (s.data.map (fun b => Value.int .u8 b.toNat) ++ Array.replicate (q - s.size) (.int .u8 0)) = (⟨ds⟩ : Array Value) := by
        apply Array.ext'; simp [ds]
      simp only [convert, Sem.run_bind, run_underlying hu, run_underlying hd, Result.andThen_ok, run_underlying he, Conv.stringToBytes, run_choose, Question.forced, Bool.false_eq_true, if_false, ← hq, World.drew_eq, newRow, run_newObj, Sem.run_pure, hcells, markStringish, run_shape]
      have hsh : ({ w.drew with heap := w.drew.heap.push (.cells ⟨ds⟩ e) } : World).shape? w.drew.heap.size = some (e, q) := by
        show (match (w.heap.push (.cells ⟨ds⟩ e))[w.heap.size]? with | some (.cells c elem _) => some (elem, c.size) | _ => none) = _
        rw [show (w.heap.push (.cells ⟨ds⟩ e))[w.heap.size]? = some (.cells ⟨ds⟩ e) from by simp]
        simp [hdl]
      rw [hsh]
      simp only [run_freeze, Result.andThen_ok]
      rfl
    · simp only [w', World.freeze]; rfl
    · simp only [w', World.freeze]; rfl
    · simp only [w', World.freeze]; rfl
    · refine BR.mk_cells (ds := ds) (ty := e) (fz := (q, q + 1)) (by rw [hw']; simp) hdl (by simp [hsz]; omega) ?_ (by simp [cellish]) (fun _ i hi => by simp only at hi ⊢; omega) (fun es' e' => by have e' := Option.some.inj e'; subst e'; exact ⟨rfl, (enc_div (by decide)).symm, fun h0 => by rw [enc_mod (by decide)] at h0; omega⟩)
      have : (ds.drop 0).take (s.data.toList.map fun b => Value.int .u8 b.toNat).length = s.data.toList.map fun b => Value.int .u8 b.toNat := by
        simp [ds]
      rw [this]
      exact LR.of_plain_mem _ (by simp [plain])
    · refine .slice (l := ⟨w.heap.size, 0, enc e 1, q⟩) (Mu.set_same _ _ _) ?_ (by omega) (fun _ => rfl)
      unfold CapOK
      rw [if_neg (by omega)]
      simp only [enc_mod (show 1 < KB by decide)]
      exact ⟨by omega, by omega⟩
  · simp at hv

/-! Held against nil. -/
theorem eqNil_in {t : TypeId} {a b ca cb : Value} {x : Bool} (he : A.eqNil P t a b = some x) (ra : VR μ a ca) (rb : VR μ b cb) (w : World) (d : Nat) :
    (Op.equalIn (d + 1) t ca cb).run P w = .ok x w := by
  unfold A.eqNil at he
  split at he
  · rename_i e p q hu
    cases ra with
    | ptrNil =>
      simp only [Option.isNone_none, cond_true, Option.some.injEq] at he
      cases rb with
      | ptrNil => subst he; simp [Op.equalIn, run_underlying hu]
      | ptr hl => subst he; simp [Op.equalIn, run_underlying hu]
    | ptr hl =>
      simp only [Option.isNone_some, cond_false] at he
      cases rb with
      | ptrNil => simp only [Option.isNone_none, cond_true, Option.some.injEq] at he; subst he; simp [Op.equalIn, run_underlying hu]
      | ptr hl' =>
        simp only [Option.isNone_some, cond_false] at he
        obtain ⟨hc, he⟩ := cond_some he
        simp only [Option.some.injEq] at he; subst he
        simp only [Bool.and_eq_true, A.sameA] at hc
        obtain ⟨⟨h1, h2⟩, h3⟩ := hc
        have h1 := beq_iff.1 h1
        have h2 := beq_iff.1 h2
        subst h1; subst h2
        rw [hl] at hl'
        obtain rfl := Option.some.inj hl'
        obtain ⟨n, hn⟩ := Option.isSome_iff_exists.1 h3
        by_cases h0 : n = 0
        · simp [Op.equalIn, run_underlying hu, run_sizeOf P hn, h0]
        · simp [Op.equalIn, run_underlying hu, run_sizeOf P hn, h0, sameAddr]
  · rename_i e p l1 c1 q l2 c2 hu
    cases ra with
    | sliceNil =>
      simp only [Option.isNone_none, cond_true, Option.some.injEq] at he
      cases rb with
      | sliceNil => subst he; simp [Op.equalIn, run_underlying hu]
      | slice hl => subst he; simp [Op.equalIn, run_underlying hu]
    | slice hl =>
      simp only [Option.isNone_some, cond_false] at he
      cases rb with
      | sliceNil => simp only [Option.isNone_none, cond_true, Option.some.injEq] at he; subst he; simp [Op.equalIn, run_underlying hu]
      | slice hl => simp at he
  · rename_i k e p q hu
    cases ra with
    | mapNil =>
      simp only [Option.isNone_none, cond_true, Option.some.injEq] at he
      cases rb with
      | mapNil => subst he; simp [Op.equalIn, run_underlying hu]
      | map hl => subst he; simp [Op.equalIn, run_underlying hu]
    | map hl =>
      simp only [Option.isNone_some, cond_false] at he
      cases rb with
      | mapNil => simp only [Option.isNone_none, cond_true, Option.some.injEq] at he; subst he; simp [Op.equalIn, run_underlying hu]
      | map hl => simp at he
  · rename_i hu
    simp only [Option.some.injEq] at he; subst he
    cases rb
    cases ra with
    | func => simp [Op.equalIn, run_underlying hu]
    | yield => simp [Op.equalIn, run_underlying hu]
    | methOf => simp [Op.equalIn, run_underlying hu]
  · rename_i hu
    simp only [Option.some.injEq] at he; subst he
    cases ra
    cases rb with
    | func => simp [Op.equalIn, run_underlying hu]
    | yield => simp [Op.equalIn, run_underlying hu]
    | methOf => simp [Op.equalIn, run_underlying hu]
  · simp at he
theorem eqNil_sound {t : TypeId} {a b ca cb : Value} {x : Bool} (he : A.eqNil P t a b = some x) (ra : VR μ a ca) (rb : VR μ b cb) (w : World) :
    (Op.equal t ca cb).run P w = .ok x w := eqNil_in P he ra rb w 9999

end Go.AM
