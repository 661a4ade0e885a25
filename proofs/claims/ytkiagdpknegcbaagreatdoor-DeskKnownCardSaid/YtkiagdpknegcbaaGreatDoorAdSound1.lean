/-
  An abstract machine for the model: each primitive is what the model does.
-/
import Derived.Test.YtkiagdpknegcbaaGreatDoorAdOps
import Derived.Laws.Append
namespace Go.AM
open Go

variable (P : Program) {NG : Nat} {μ : Mu} {h : H} {w : World}

theorem VR.ptr_inv {id off : Nat} {c : Value} (r : VR μ (.pointer (some ⟨id, off, none⟩)) c) :
    ∃ l, μ id = some l ∧ c = .pointer (some ⟨l.blk, l.off + off, none⟩) := by
  cases r with
  | ptr hl => exact ⟨_, hl, rfl⟩

theorem VR.slice_inv {id off len cap : Nat} {c : Value} (r : VR μ (.slice (some ⟨id, off, none⟩) len cap) c) :
    ∃ l a' c', μ id = some l ∧ c = .slice (some a') len c' ∧ CapOK l off cap c' ∧ len ≤ cap / 2 ∧ (c' ≠ 0 → a' = ⟨l.blk, l.off + off, none⟩) := by
  cases r with
  | slice hl hc hn ha => exact ⟨_, _, _, hl, rfl, hc, hn, ha⟩

theorem VR.nilslice_inv {c : Value} (r : VR μ (.slice none 0 0) c) : c = .slice none 0 0 := by cases r; rfl
theorem VR.int_inv {k : IntKind} {n : Int} {c : Value} (r : VR μ (.int k n) c) : c = .int k n := by cases r; rfl
theorem VR.bool_inv {b : Bool} {c : Value} (r : VR μ (.bool b) c) : c = .bool b := by cases r; rfl
theorem VR.string_inv {b : ByteArray} {c : Value} (r : VR μ (.string b) c) : c = .string b := by cases r; rfl

theorem VR.agg_inv {cs : List Value} {c : Value} (r : VR μ (.agg ⟨cs⟩) c) : ∃ ds, c = .agg ⟨ds⟩ ∧ LR μ cs ds ∧ ∀ a ∈ cs, cellish a = true := by
  cases r with
  | agg _ ds hl g hc => exact ⟨ds, rfl, ⟨hl, g⟩, hc⟩

theorem LR.cell_all {cs ds : List Value} (r : LR μ cs ds) (hc : ∀ a ∈ cs, cellish a = true) : ∀ a ∈ ds, AM.cellish a = true := by
  intro b hb
  obtain ⟨i, hi⟩ := List.mem_iff_getElem?.1 hb
  have hlt : i < cs.length := by rw [r.1]; exact (List.getElem?_eq_some_iff.1 hi).1
  have ha := List.getElem?_eq_getElem hlt
  rw [← (r.2 i _ b ha hi).cell_eq]
  exact hc _ (List.mem_of_getElem? ha)

theorem LR.mk_agg {cs ds : List Value} (r : LR μ cs ds) (hc : ∀ a ∈ cs, cellish a = true) : VR μ (.agg ⟨cs⟩) (.agg ⟨ds⟩) := .agg _ _ r.1 r.2 hc

theorem LR.single {v c : Value} (r : VR μ v c) : LR μ [v] [c] :=
  ⟨rfl, fun i a b ha hb => by cases i with
    | zero => simp at ha hb; subst ha; subst hb; exact r
    | succ i => simp at ha⟩

theorem LR.nil : LR μ [] [] := ⟨rfl, fun i a b ha _ => by simp at ha⟩

theorem LR.drop {cs ds : List Value} (r : LR μ cs ds) (n : Nat) : LR μ (cs.drop n) (ds.drop n) :=
  ⟨by simp [r.1], fun i a b ha hb => r.2 (n + i) a b (by simpa using ha) (by simpa using hb)⟩
theorem LR.take {cs ds : List Value} (r : LR μ cs ds) (n : Nat) : LR μ (cs.take n) (ds.take n) :=
  ⟨by simp [r.1], fun i a b ha hb => by
    rw [List.getElem?_take] at ha hb
    split at ha
    · rename_i hi; rw [if_pos hi] at hb; exact r.2 i a b ha hb
    · simp at ha⟩
theorem LR.append {cs ds cs' ds' : List Value} (r : LR μ cs ds) (r' : LR μ cs' ds') : LR μ (cs ++ cs') (ds ++ ds') :=
  ⟨by simp [r.1, r'.1], fun i a b ha hb => by
    by_cases hi : i < cs.length
    · rw [List.getElem?_append_left hi] at ha
      rw [List.getElem?_append_left (by rw [← r.1]; exact hi)] at hb
      exact r.2 i a b ha hb
    · rw [List.getElem?_append_right (by omega)] at ha
      rw [List.getElem?_append_right (by rw [← r.1]; omega)] at hb
      rw [← r.1] at hb
      exact r'.2 _ a b ha hb⟩
theorem LR.splice {cs ds cs' ds' : List Value} (r : LR μ cs ds) (r' : LR μ cs' ds') (o : Nat) : LR μ (AM.splice cs o cs') (AM.splice ds o ds') := by
  unfold AM.splice
  rw [← r'.1]
  exact ((r.take o).append r').append (r.drop _)
theorem LR.get {cs ds : List Value} (r : LR μ cs ds) {i : Nat} {a : Value} (ha : cs[i]? = some a) : ∃ b, ds[i]? = some b ∧ VR μ a b := by
  have hlt : i < ds.length := by rw [← r.1]; exact (List.getElem?_eq_some_iff.1 ha).1
  exact ⟨_, List.getElem?_eq_getElem hlt, r.2 i a _ ha (List.getElem?_eq_getElem hlt)⟩
theorem LR.cons {v c : Value} {cs ds : List Value} (r : VR μ v c) (r' : LR μ cs ds) : LR μ (v :: cs) (c :: ds) := (LR.single r).append r'

theorem cellsL_rel {v c : Value} {vs : List Value} (r : VR μ v c) (hv : cellsL v = some vs) :
    ∃ ds, c.cells = ⟨ds⟩ ∧ LR μ vs ds ∧ (∀ a ∈ vs, cellish a = true) := by
  cases r with
  | agg cs ds hl g hc => simp only [cellsL, Option.some.injEq] at hv; subst hv; exact ⟨ds, rfl, ⟨hl, g⟩, hc⟩
  | tuple => simp [cellsL] at hv
  | bool b => simp only [cellsL, Option.some.injEq] at hv; subst hv; exact ⟨[.bool b], rfl, .single (.bool b), by simp [cellish]⟩
  | int k n => simp only [cellsL, Option.some.injEq] at hv; subst hv; exact ⟨_, rfl, .single (.int k n), by simp [cellish]⟩
  | float k n => simp only [cellsL, Option.some.injEq] at hv; subst hv; exact ⟨_, rfl, .single (.float k n), by simp [cellish]⟩
  | string s => simp only [cellsL, Option.some.injEq] at hv; subst hv; exact ⟨_, rfl, .single (.string s), by simp [cellish]⟩
  | ptrNil => simp only [cellsL, Option.some.injEq] at hv; subst hv; exact ⟨_, rfl, .single .ptrNil, by simp [cellish]⟩
  | ptr hl => simp only [cellsL, Option.some.injEq] at hv; subst hv; exact ⟨_, rfl, .single (.ptr hl), by simp [cellish]⟩
  | sliceNil => simp only [cellsL, Option.some.injEq] at hv; subst hv; exact ⟨_, rfl, .single .sliceNil, by simp [cellish]⟩
  | slice hl hc hn ha => simp only [cellsL, Option.some.injEq] at hv; subst hv; exact ⟨_, rfl, .single (.slice hl hc hn ha), by simp [cellish]⟩
  | mapNil => simp only [cellsL, Option.some.injEq] at hv; subst hv; exact ⟨_, rfl, .single .mapNil, by simp [cellish]⟩
  | map hl => simp only [cellsL, Option.some.injEq] at hv; subst hv; exact ⟨_, rfl, .single (.map hl), by simp [cellish]⟩
  | nilFunc => simp only [cellsL, Option.some.injEq] at hv; subst hv; exact ⟨_, rfl, .single .nilFunc, by simp [cellish]⟩
  | func f cs ds cs' ds' h1 h2 g1 g2 => simp only [cellsL, Option.some.injEq] at hv; subst hv; exact ⟨_, rfl, .single (.func f cs ds cs' ds' h1 h2 g1 g2), by simp [cellish]⟩
  | yield hl => simp only [cellsL, Option.some.injEq] at hv; subst hv; exact ⟨_, rfl, .single (.yield hl), by simp [cellish]⟩
  | methOf t m => simp only [cellsL, Option.some.injEq] at hv; subst hv; exact ⟨_, rfl, .single (.methOf t m), by simp [cellish]⟩
  | nilIface => simp only [cellsL, Option.some.injEq] at hv; subst hv; exact ⟨_, rfl, .single .nilIface, by simp [cellish]⟩
  | iface t hv' => simp only [cellsL, Option.some.injEq] at hv; subst hv; exact ⟨_, rfl, .single (.iface t hv'), by simp [cellish]⟩

/-- What is known of a block of cells. -/
theorem RH.cells {NG : Nat} (r : RH NG μ h w) {id : Nat} {cs : List Value} {own : Option Nat} {l : Loc} (hg : h.get id = some (.cells cs own)) (hl : μ id = some l) :
    ∃ ccs ty fz, w.heap[l.blk]? = some (.cells ccs ty fz) ∧ ccs.size = l.size ∧ l.off + cs.length ≤ l.size ∧
      LR μ cs ((ccs.toList.drop l.off).take cs.length) ∧ (∀ a ∈ cs, cellish a = true) ∧
      (own.isSome = true → ∀ (i : Nat), i < l.size → ¬ (fz.1 ≤ i ∧ i < fz.2)) ∧ (∀ es, own = some es → l.es = es ∧ ty + 1 = es / KB ∧ (es % KB = 0 → l.off = 0 ∧ l.size = cs.length)) := by
  obtain ⟨ccs, ty, fz, h1, h2, h3, h4, h5, h6⟩ := r.br _ _ _ hg hl
  refine ⟨ccs, ty, fz, h1, h2, h3, ⟨by simp; omega, fun i a b ha hb => ?_⟩, fun a ha => ?_, h5, h6⟩
  · obtain ⟨c, hc, hr, _⟩ := h4 i a ha
    rw [List.getElem?_take] at hb
    split at hb
    · rw [List.getElem?_drop] at hb
      rw [← Array.getElem?_toList] at hc
      rw [hc] at hb; simp at hb; subst hb; exact hr
    · simp at hb
  · obtain ⟨i, hi⟩ := List.mem_iff_getElem?.1 ha
    obtain ⟨c, _, _, hx⟩ := h4 i a hi
    exact hx

theorem BR.mk_cells {cs ds : List Value} {own : Option Nat} {l : Loc} {ty : TypeId} {fz : Nat × Nat} (hb : w.heap[l.blk]? = some (.cells ⟨ds⟩ ty fz))
    (hs : ds.length = l.size) (hn : l.off + cs.length ≤ l.size) (hr : LR μ cs ((ds.drop l.off).take cs.length)) (hc : ∀ a ∈ cs, cellish a = true)
    (hf : own.isSome = true → ∀ (i : Nat), i < l.size → ¬ (fz.1 ≤ i ∧ i < fz.2)) (he : ∀ es, own = some es → l.es = es ∧ ty + 1 = es / KB ∧ (es % KB = 0 → l.off = 0 ∧ l.size = cs.length)) : BR μ (.cells cs own) l w := by
  refine ⟨⟨ds⟩, ty, fz, hb, by simpa using hs, hn, fun i v hv => ?_, hf, he⟩
  obtain ⟨b, hb', hr'⟩ := hr.get hv
  rw [List.getElem?_take] at hb'
  split at hb'
  · rw [List.getElem?_drop] at hb'
    exact ⟨b, by simpa using hb', hr', hc _ (List.mem_of_getElem? hv)⟩
  · simp at hb'

/-! Types. -/
theorem run_sizeOf {t : TypeId} {n : Nat} (hs : szP P t = some n) (w : World) : (sizeOf t).run P w = .ok n w := by
  unfold szP at hs
  cases hq : P.info? t with
  | none => simp [hq] at hs
  | some i => simp [hq] at hs; simp [sizeOf, typeInfo, hq, hs]

theorem run_isAgg {t : TypeId} {g : Bool} (hs : aggP P t = some g) (w : World) : (isAgg t).run P w = .ok g w := by
  unfold aggP at hs
  cases hq : P.underlying t with
  | none => simp [hq] at hs
  | some d => rw [hq] at hs; cases d <;> simp at hs <;> subst hs <;> simp [isAgg, run_underlying hq]

theorem run_zero {t : TypeId} {z : Value} (hz : zeroP P t = some z) (w : World) : (zeroValue t).run P w = .ok z w := by
  unfold zeroP at hz
  cases hq : P.types[t]? with
  | none => simp [hq] at hz
  | some i =>
    simp only [hq, Option.bind_some] at hz
    have hlt : t < P.types.size := (Array.getElem?_eq_some_iff.1 hq).1
    have hi : P.info? t = some i := by simp only [Tables.info?, if_pos hlt, hq]
    simp [zeroValue, typeInfo, hi, hz]

theorem zeroP_plain (hz : zerosPlain P = true) {t : TypeId} {z : Value} (h : zeroP P t = some z) : plain z = true := by
  unfold zeroP at h
  cases hq : P.types[t]? with
  | none => simp [hq] at h
  | some i =>
    simp only [hq, Option.bind_some] at h
    have hm : i ∈ P.types.toList := by rw [Array.mem_toList_iff]; exact Array.mem_of_getElem? hq
    have := List.all_eq_true.1 hz i hm
    simpa [h] using this

theorem cellsL_plain {z : Value} {zs : List Value} (hp : plain z = true) (hz : cellsL z = some zs) : plainCL zs = true := by
  cases z with
  | agg cs => obtain ⟨l⟩ := cs; simp only [cellsL, Option.some.injEq] at hz; subst hz; simpa [plain, plainC] using hp
  | tuple vs => simp [cellsL] at hz
  | _ => simp only [cellsL, Option.some.injEq] at hz; subst hz; simp [plainCL, hp, cellish]

/-! Loads. -/
theorem load_sound {NG : Nat} (r : RH NG μ h w) {t : TypeId} {g : Bool} {n : Nat} (hg : aggP P t = some g) (hn : szP P t = some n) {p v cp : Value}
    (hv : A.load g n p h = some v) (rp : VR μ p cp) : ∃ cv, (Instr.loadAt t cp).run P w = .ok cv w ∧ VR μ v cv := by
  cases g with
  | false =>
    simp only [A.load, cond_false] at hv
    unfold A.load1 at hv
    split at hv
    · rename_i id off
      obtain ⟨l, hl, rfl⟩ := rp.ptr_inv
      split at hv
      · rename_i cs own hget
        obtain ⟨ccs, ty, fz, h1, h2, h3, h4, h5, _⟩ := r.cells hget hl
        obtain ⟨b, hb, hr⟩ := h4.get hv
        have hlt : off < cs.length := (List.getElem?_eq_some_iff.1 hv).1
        rw [List.getElem?_take, if_pos hlt, List.getElem?_drop] at hb
        refine ⟨b, ?_, hr⟩
        have := load_one P w l.blk (l.off + off) ccs ty fz h1 b (by simpa using hb)
        simp only [Instr.loadAt, Instr.sureAddr, loadVar, Sem.run_bind, Sem.run_pure, Result.andThen_ok, run_isAgg P hg, Bool.false_eq_true, if_false, this]
      · simp at hv
    · simp at hv
  | true =>
    simp only [A.load, cond_true] at hv
    unfold A.loadN at hv
    split at hv
    · rename_i id off
      obtain ⟨l, hl, rfl⟩ := rp.ptr_inv
      split at hv
      · rename_i cs own hget
        obtain ⟨ccs, ty, fz, h1, h2, h3, h4, h5, _⟩ := r.cells hget hl
        cases hle : Nat.ble (off + n) cs.length with
        | false => rw [hle] at hv; simp at hv
        | true =>
          rw [hle] at hv
          simp only [cond_true, Option.some.injEq] at hv
          subst hv
          have hle' := Nat.le_of_ble_eq_true hle
          have := load_row P w l.blk (l.off + off) ccs ty fz h1 n (by omega)
          refine ⟨.agg ⟨(ccs.toList.drop (l.off + off)).take n⟩, ?_, ?_⟩
          · simp only [Instr.loadAt, Instr.sureAddr, loadVar, Sem.run_bind, Sem.run_pure, Result.andThen_ok, run_isAgg P hg, if_true, run_sizeOf P hn, this]
          · have e : ((((ccs.toList.drop l.off).take cs.length).drop off).take n) = (ccs.toList.drop (l.off + off)).take n := by
              rw [List.drop_take, List.drop_drop, List.take_take, Nat.min_eq_left (by omega)]
            have r1 := (h4.drop off).take n
            rw [e] at r1
            exact r1.mk_agg (fun a ha => h5 a (List.mem_of_mem_drop (List.mem_of_mem_take ha)))
      · simp at hv
    · simp at hv

/-! Stores. -/
theorem store_sound {NG : Nat} (r : RH NG μ h w) {t : TypeId} {n : Nat} (hn : szP P t = some n) {p v cp cv : Value} {h' : H}
    (hv : A.store n p v h = some h') (rp : VR μ p cp) (rv : VR μ v cv) : ∃ w', (Instr.storeAt t cp cv).run P w = .ok () w' ∧ Step NG μ h w μ h' w' := by
  unfold A.store at hv
  split at hv
  · rename_i id off
    obtain ⟨l, hl, rfl⟩ := rp.ptr_inv
    split at hv
    · rename_i cs es vs hget hvs
      obtain ⟨ccs, ty, fz, h1, h2, h3, h4, h5, h6, h7⟩ := r.cells hget hl
      obtain ⟨ds, hds, hlr, hcl⟩ := cellsL_rel rv hvs
      cases hc : (Nat.beq vs.length n && Nat.ble (off + n) cs.length) with
      | false => rw [hc] at hv; simp at hv
      | true =>
        rw [hc] at hv
        simp only [cond_true, Option.some.injEq] at hv
        subst hv
        simp only [Bool.and_eq_true] at hc
        have hlen : vs.length = n := Nat.eq_of_beq_eq_true hc.1
        have hle : off + n ≤ cs.length := Nat.le_of_ble_eq_true hc.2
        have hdl : ds.length = n := by rw [← hlr.1]; exact hlen
        have hst := store_row P ds w l.blk (l.off + off) 0 ccs ty fz h1 (by omega) (by rw [h2]; exact h6 rfl) (hlr.cell_all hcl)
        refine ⟨_, ?_, Step.write r hget rfl rfl hl (o := .cells ⟨splice ccs.toList (l.off + off) ds⟩ ty fz) ?_⟩
        · have : ¬ (cv.cells.size ≠ n) := by rw [hds]; simpa using hdl
          simp only [Instr.storeAt, Instr.sureAddr, storeVar, Sem.run_bind, Sem.run_pure, Result.andThen_ok, run_sizeOf P hn, this, if_false]
          rw [hds]
          simpa using hst
        · have hsl : (splice ccs.toList (l.off + off) ds).length = ccs.size := by rw [splice_length _ _ _ (by simp; omega)]; simp
          have hsl2 : (splice cs off vs).length = cs.length := splice_length _ _ _ (by omega)
          refine BR.mk_cells (setObj_same (BR.lt (r.br _ _ _ hget hl))) (by omega) (by omega) ?_ ?_ h6 (by rw [hsl2]; exact h7)
          · have e : ((splice ccs.toList (l.off + off) ds).drop l.off).take cs.length = splice ((ccs.toList.drop l.off).take cs.length) off ds := by
              apply List.ext_getElem?
              intro i
              rw [List.getElem?_take]
              by_cases hi : i < cs.length
              · rw [if_pos hi, List.getElem?_drop, splice_get _ _ _ (by simp; omega), splice_get _ _ _ (by simp; omega)]
                by_cases h8 : i < off
                · rw [if_pos (by omega), if_pos h8, List.getElem?_take, if_pos hi, List.getElem?_drop]
                · rw [if_neg (by omega), if_neg h8]
                  by_cases h9 : i < off + ds.length
                  · rw [if_pos (by omega), if_pos h9]; congr 1; omega
                  · rw [if_neg (by omega), if_neg h9, List.getElem?_take, if_pos hi, List.getElem?_drop]
              · rw [if_neg hi, List.getElem?_eq_none]
                rw [splice_length _ _ _ (by simp; omega)]; simp; omega
            rw [hsl2, e]
            exact h4.splice hlr off
          · intro a ha
            unfold splice at ha
            simp only [List.mem_append] at ha
            rcases ha with (ha | ha) | ha
            · exact h5 a (List.mem_of_mem_take ha)
            · exact hcl a ha
            · exact h5 a (List.mem_of_mem_drop ha)
    · simp at hv
  · simp at hv

/-! New blocks. -/
theorem Step.new_cells {NG : Nat} (r : RH NG μ h w) (hf : μ h.next = none) {cs ds : List Value} {es : Nat} {ty : TypeId} {w' : World}
    (hw : w'.heap = w.heap.push (.cells ⟨ds⟩ ty)) (hos : w'.os = w.os) (ht : w'.tape = w.tape) (hout : w'.output = w.output)
    (hn : cs.length ≤ ds.length) (hr : LR μ cs (ds.take cs.length)) (hc : ∀ a ∈ cs, cellish a = true) (hx : ty + 1 = es / KB ∧ (es % KB = 0 → ds.length = cs.length)) :
    Step NG μ h w (μ.set h.next ⟨w.heap.size, 0, es, ds.length⟩) (h.push (.cells cs (some es))) w' := by
  refine Step.push r hf rfl (o := .cells ⟨ds⟩ ty) hw hos ht hout rfl ?_
  refine BR.mk_cells (ds := ds) (ty := ty) (fz := (0, 0)) (by rw [hw]; simp) rfl (by simpa using hn) (by simpa using hr.mono (Mu.le_set hf)) hc (fun _ i _ => by simp) (fun e he => by simp at he; subst he; exact ⟨rfl, hx.1, fun h => ⟨rfl, hx.2 h⟩⟩)

theorem box_sound {NG : Nat} (r : RH NG μ h w) (hf : μ h.next = none) {t : TypeId} {n : Nat} {v cv p : Value} {h' : H}
    (hv : A.box t n v h = some (p, h')) (rv : VR μ v cv) : ∃ a, (newVar t cv).run P w = .ok a (w.alloc (.cells cv.cells t)) ∧
      ∃ μ', Step NG μ h w μ' h' (w.alloc (.cells cv.cells t)) ∧ VR μ' p (.pointer (some a)) := by
  unfold A.box at hv
  split at hv
  · rename_i vs hvs
    obtain ⟨ds, hds, hlr, hcl⟩ := cellsL_rel rv hvs
    cases hc : Nat.beq vs.length n with
    | false => rw [hc] at hv; simp at hv
    | true =>
      rw [hc] at hv
      simp only [cond_true, Option.some.injEq, Prod.mk.injEq] at hv
      obtain ⟨rfl, rfl⟩ := hv
      refine ⟨⟨w.heap.size, 0, none⟩, rfl, _, Step.new_cells (ds := ds) r hf (by rw [hds]; rfl) rfl rfl rfl (by rw [hlr.1]; omega) (by rw [hlr.1]; simpa using hlr) hcl ⟨(enc_div (by decide)).symm, fun _ => hlr.1.symm⟩, ?_⟩
      exact VR.ptr (off := 0) (Mu.set_same μ h.next ⟨w.heap.size, 0, enc t 0, ds.length⟩)
  · simp at hv

end Go.AM
