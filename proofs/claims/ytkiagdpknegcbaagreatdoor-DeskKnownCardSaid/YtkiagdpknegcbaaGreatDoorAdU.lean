/-
  An abstract machine for the model: unsafe pointers, texts that share bytes, cap.
-/
import Derived.Test.YtkiagdpknegcbaaGreatDoorAdMap
namespace Go.AM
open Go

variable {P : Program} {NG : Nat} {μ : Mu} {h : H} {w : World}

/-- A block is written, and its name forgotten. -/
theorem Step.killSet (r : RH NG μ h w) {id : Nat} {b : Blk} {l : Loc} (hg : h.get id = some b) (ho : b.owned = true) (hl : μ id = some l) {o : Obj} : Step NG μ h w μ (h.kill id) (setObj w l.blk o) where
  wf := r.wf
  le := fun _ _ h => h
  old := fun _ _ => rfl
  out := fun _ _ => rfl
  next := Nat.le_refl _
  rh := {
    ng := r.ng
    wf := fun j c hj => by
      rw [H.get_kill] at hj
      split at hj
      · simp at hj
      · exact r.wf _ _ hj
    br := fun j c m hj hm => by
      rw [H.get_kill] at hj
      split at hj
      · simp at hj
      · rename_i e
        exact (r.br j c m hj hm).congr (setObj_ne (r.inj id b l j c m hg ho hl hj hm e))
    inj := fun j c m j' c' m' hj hc hm hj' hm' hne => by
      rw [H.get_kill] at hj hj'
      split at hj
      · simp at hj
      · split at hj'
        · simp at hj'
        · exact r.inj j c m j' c' m' hj hc hm hj' hm' hne
    bd := fun j m hm => by simpa using r.bd j m hm
    gl := r.gl }
  size := by simp
  os := rfl
  tape := rfl
  output := rfl
  frame := fun k hk hf => setObj_ne (Ne.symm (hf id b l hg ho hl))
  src := fun j c m hj hc hm => by
    rw [H.get_kill] at hj
    split at hj
    · simp at hj
    · exact .inr ⟨j, c, m, hj, hc, hm, rfl⟩
  unm := fun j c hj hm => by
    rw [H.get_kill, if_neg (fun e => by subst e; rw [hl] at hm; simp at hm)]; exact hj
  dead := fun j _ hj => by
    rw [H.get_kill]; split
    · rfl
    · exact hj
  ro := fun j c hj _ => by
    rw [H.get_kill] at hj
    split at hj
    · simp at hj
    · exact hj

theorem view_none {b : Nat} {ccs : Array Value} {ty : TypeId} {fz : Nat × Nat} (hb : w.heap[b]? = some (.cells ccs ty fz)) : (viewAt b).run P w = .ok none w := by
  have : w.shape? b = some (ty, ccs.size) := by simp [World.shape?, hb]
  simp [viewAt, this]

theorem toU_sound (r : RH NG μ h w) {src dst t : TypeId} (hs : P.underlying src = some (.pointer t)) (hd : P.underlying dst = some .unsafePointer) {a v ca : Value} (hv : A.toU P t a h = some v) (ra : VR μ a ca) :
    ∃ cv, (convert src dst ca).run P w = .ok cv w ∧ VR μ v cv := by
  have key : (convert src dst ca).run P w = (Conv.unsafePointer src dst ca).run P w := by
    simp only [convert, Sem.run_bind, run_underlying hs, run_underlying hd, Result.andThen_ok]
  rw [key]
  unfold A.toU at hv
  split at hv
  · simp only [Option.some.injEq] at hv; subst hv
    cases ra
    exact ⟨_, by simp only [Conv.unsafePointer, Sem.run_bind, run_underlying hs, run_underlying hd, Result.andThen_ok, Sem.run_pure], .ptrNil⟩
  · rename_i id off
    obtain ⟨l, hl, rfl⟩ := ra.ptr_inv
    split at hv
    · rename_i n cs own hn hg
      obtain ⟨hc, hv⟩ := cond_some hv
      simp only [Option.some.injEq] at hv; subst hv
      simp only [Bool.and_eq_true, blt_iff] at hc
      obtain ⟨ccs, ty, fz, h1, h2, h3, _⟩ := r.cells hg hl
      refine ⟨.pointer (some ⟨l.blk, l.off + off, none⟩), ?_, .ptr hl⟩
      have hci : (cellsIn l.blk).run P w = .ok (some ccs.size) w := by
        have : w.shape? l.blk = some (ty, ccs.size) := by simp [World.shape?, h1]
        simp [cellsIn, this]
      have hsz : n ≠ 0 := by omega
      have hlt : ¬ (ccs.size ≤ l.off + off) := by omega
      simp only [Conv.unsafePointer, Sem.run_bind, run_underlying hs, run_underlying hd, Result.andThen_ok, Conv.seenAt, view_none h1, Sem.run_pure, hci, run_sizeOf P hn]
      simp [hsz, hlt]
    · simp at hv
  · simp at hv

theorem ofU_sound (r : RH NG μ h w) {src dst u : TypeId} (hs : P.underlying src = some .unsafePointer) (hd : P.underlying dst = some (.pointer u)) {a v ca : Value} (hv : A.ofU P u a h = some v) (ra : VR μ a ca) :
    ∃ cv, (convert src dst ca).run P w = .ok cv w ∧ VR μ v cv := by
  have key : (convert src dst ca).run P w = (Conv.unsafePointer src dst ca).run P w := by
    simp only [convert, Sem.run_bind, run_underlying hs, run_underlying hd, Result.andThen_ok]
  rw [key]
  unfold A.ofU at hv
  split at hv
  · simp only [Option.some.injEq] at hv; subst hv
    cases ra
    exact ⟨_, by simp only [Conv.unsafePointer, Sem.run_bind, run_underlying hs, run_underlying hd, Result.andThen_ok, Sem.run_pure], .ptrNil⟩
  · rename_i id off
    obtain ⟨l, hl, rfl⟩ := ra.ptr_inv
    split at hv
    · rename_i n cs es hn hg
      obtain ⟨hc, hv⟩ := cond_some hv
      simp only [Option.some.injEq] at hv; subst hv
      simp only [Bool.and_eq_true] at hc
      obtain ⟨hc1, hc2⟩ := hc
      have hc1 : es % KB = 0 := beq_iff.1 hc1
      obtain ⟨ccs, ty, fz, h1, h2, h3, _, _, _, h7⟩ := r.cells hg hl
      obtain ⟨h8, h9, h10⟩ := h7 _ rfl
      obtain ⟨h11, h12⟩ := h10 hc1
      refine ⟨.pointer (some ⟨l.blk, l.off + off, none⟩), ?_, .ptr hl⟩
      have hty : Nat.pred (Nat.div es KB) = ty := by
        have h9 : ty + 1 = Nat.div es KB := h9
        rw [← h9]; rfl
      rw [hty] at hc2
      have hsh : w.shape? l.blk = some (ty, ccs.size) := by simp [World.shape?, h1]
      have hva : (variablesAt ⟨l.blk, l.off + off, none⟩ u 1).run P w = .ok true w := by
        simp only [variablesAt, Sem.run_bind, run_program, Result.andThen_ok, run_shape, hsh, Sem.run_pure]
        rw [h11, Nat.zero_add, h2, h12, hc2]
      simp only [Conv.unsafePointer, Sem.run_bind, run_underlying hs, run_underlying hd, Result.andThen_ok, Conv.seenAt, view_none h1, Sem.run_pure, run_sizeOf P hn, hva]
      by_cases hn0 : n = 0
      · simp [hn0]
      · simp [hn0, hva]
    · simp at hv
  · simp at hv

theorem sliceData_sound {x v cx : Value} (hv : A.sliceData x = some v) (rx : VR μ x cx) (ats : Array TypeId) (ty : TypeId) : ∃ cv, (Builtin.unsafeSliceData_ ats ty #[cx]).run P w = .ok cv w ∧ VR μ v cv := by
  unfold A.sliceData at hv
  split at hv
  · simp only [Option.some.injEq] at hv; subst hv
    rw [rx.nilslice_inv]
    exact ⟨_, rfl, .ptrNil⟩
  · rename_i id off n c
    obtain ⟨hc, hv⟩ := cond_some hv
    simp only [Option.some.injEq] at hv; subst hv
    have hc := blt_iff.1 hc
    obtain ⟨l, a', c', hl, rfl, hcap, hle, ha⟩ := rx.slice_inv
    have hcc : c / 2 ≤ c' := by unfold CapOK at hcap; split at hcap <;> omega
    have hc0 : c' ≠ 0 := by omega
    refine ⟨.pointer (some a'), ?_, by rw [ha hc0]; exact .ptr hl⟩
    have e : Builtin.unsafeSliceData_ ats ty #[.slice (some a') n c'] = (if c' ≠ 0 then pure (.pointer (some a')) else do if (← viewAt a'.block).isSome then pure (.pointer (some a')) else pure (.pointer (some ⟨← newObj (.view a' (← elemOf ty)), 0, none⟩))) := rfl
    rw [e, if_pos hc0]; rfl
  · simp at hv

theorem capS_sound {t e : TypeId} (hu : P.underlying t = some (.slice e)) {x v cx : Value} (hv : A.capS x = some v) (rx : VR μ x cx) (ty : TypeId) (r : List TypeId) : ∃ cv, (Builtin.cap_ ⟨t :: r⟩ ty #[cx]).run P w = .ok cv w ∧ VR μ v cv := by
  unfold A.capS at hv
  split at hv
  · simp only [Option.some.injEq] at hv; subst hv
    rw [rx.nilslice_inv]
    exact ⟨.int .i64 0, by simp [Builtin.cap_, run_underlying hu]; rfl, .int _ _⟩
  · rename_i a n c
    obtain ⟨hc, hv⟩ := cond_some hv
    simp only [Option.some.injEq] at hv; subst hv
    have hc := beq_iff.1 hc
    cases rx with
    | slice hl hcap hle ha =>
      unfold CapOK at hcap
      rw [if_pos hc] at hcap
      subst hcap
      exact ⟨.int .i64 ((c / 2 : Nat) : Int), by simp [Builtin.cap_, run_underlying hu]; rfl, .int _ _⟩
  · simp at hv

theorem run_loadBytes {b : Nat} {ccs : Array Value} {ty : TypeId} {fz : Nat × Nat} (hb : w.heap[b]? = some (.cells ccs ty fz)) : ∀ (l : List Value) (bs : List UInt8) (off : Nat) (acc : ByteArray), A.toBytes l = some bs → (∀ i v, l[i]? = some v → ccs[off + i]? = some v) →
    (loadBytes ⟨b, off, none⟩ acc l.length).run P w = .ok (⟨⟨acc.data.toList ++ bs⟩⟩ : ByteArray) w
  | [], bs, off, acc, ht, _ => by
    simp only [A.toBytes, Option.some.injEq] at ht; subst ht
    simp [loadBytes]
  | v :: l, bs, off, acc, ht, hl => by
    cases v with
    | int k n =>
      cases k with
      | u8 =>
        simp only [A.toBytes] at ht
        obtain ⟨bs', ht', rfl⟩ := Option.map_eq_some_iff.1 ht
        have h0 := load_one P w b off ccs ty fz hb _ (hl 0 _ rfl)
        have ih := run_loadBytes hb l bs' (off + 1) (acc.push (UInt8.ofNat n.toNat)) ht' (fun i v hv => by rw [Nat.add_assoc, Nat.add_comm 1 i]; exact hl (i + 1) v (by simpa using hv))
        simp only [List.length_cons, loadBytes, Sem.run_bind, h0, Result.andThen_ok, add_plain]
        refine Eq.trans ih ?_
        congr 3
        simp [ByteArray.push]
      | _ => simp [A.toBytes] at ht
    | _ => simp [A.toBytes] at ht

theorem toBytes_rel : ∀ {vs ds : List Value} {l : List UInt8}, LR μ vs ds → A.toBytes vs = some l → ds = vs
  | [], ds, l, r, _ => List.length_eq_zero_iff.1 r.1.symm
  | v :: vs, ds, l, r, ht => by
    cases ds with
    | nil => have := r.1; simp at this
    | cons d ds =>
      cases v with
      | int k n =>
        cases k with
        | u8 =>
          simp only [A.toBytes] at ht
          obtain ⟨bs', ht', rfl⟩ := Option.map_eq_some_iff.1 ht
          have h0 := (r.2 0 _ _ rfl rfl).int_inv
          have r' : LR μ vs ds := ⟨by have := r.1; simpa using this, fun i a b ha hb => r.2 (i + 1) a b (by simpa using ha) (by simpa using hb)⟩
          rw [h0, toBytes_rel r' ht']
        | _ => simp [A.toBytes] at ht
      | _ => simp [A.toBytes] at ht

theorem unsafeString_eq (ats : Array TypeId) (ty : TypeId) (p : Option Addr) (x : Value) : Builtin.unsafeString_ ats ty #[.pointer p, x] = (do
  let n ← asInt x
  let some pt := ats[0]? | stuck "unsafe.String: no argument types"
  if n < 0 then runtimePanic (.error "unsafe.String: len out of range")
  if n > IntKind.i64.max then unsupported (.unsafePointer "String: a length above the largest int")
  match p with
  | none =>
    if n = 0 then pure (.string .empty)
    else runtimePanic (.error "unsafe.String: ptr is nil and len is not zero")
  | some a =>
    if n = 0 then pure (.string .empty)
    else if ← variablesAt a (← elemOf pt) n.toNat then do
      let s ← loadBytes a .empty n.toNat
      freeze a n.toNat
      pure (.string s)
    else unsupported (.unsafePointer "String: not so many bytes at ptr")) := rfl
theorem unsafeStr_next {e : TypeId} {p n v : Value} {h' : H} (hv : A.unsafeStr P e p n h = some (v, h')) : h'.next = h.next := by
  unfold A.unsafeStr at hv
  split at hv
  · simp only [Option.some.injEq, Prod.mk.injEq] at hv; rw [← hv.2]
  · split at hv
    · obtain ⟨_, hv⟩ := cond_some hv
      split at hv
      · simp only [Option.some.injEq, Prod.mk.injEq] at hv; rw [← hv.2]; simp
      · simp at hv
    · simp at hv
  · simp at hv

theorem unsafeStr_sound (r : RH NG μ h w) {t e : TypeId} {rest : List TypeId} (hu : P.underlying t = some (.pointer e)) {p n v cp cn : Value} {h' : H} (hv : A.unsafeStr P e p n h = some (v, h')) (rp : VR μ p cp) (rn : VR μ n cn) (ty : TypeId) :
    ∃ cv w', (Builtin.unsafeString_ ⟨t :: rest⟩ ty #[cp, cn]).run P w = .ok cv w' ∧ Step NG μ h w μ h' w' ∧ VR μ v cv := by
  unfold A.unsafeStr at hv
  split at hv
  · rename_i k
    simp only [Option.some.injEq, Prod.mk.injEq] at hv
    obtain ⟨rfl, rfl⟩ := hv
    cases rp
    rw [rn.int_inv]
    refine ⟨.string .empty, w, ?_, Step.refl r, .string _⟩
    rw [unsafeString_eq]
    simp [asInt, asIntOf, IntKind.max]
    decide
  · rename_i id off k m
    obtain ⟨l, hl, rfl⟩ := rp.ptr_inv
    rw [rn.int_inv]
    split at hv
    · rename_i cs es hg
      obtain ⟨hc, hv⟩ := cond_some hv
      simp only [Bool.and_eq_true] at hc
      obtain ⟨⟨⟨⟨⟨hc1, hc6⟩, hc2⟩, hc3⟩, hc4⟩, hc5⟩ := hc
      have hc6 := ble_iff.1 hc6
      have hc1 := blt_iff.1 hc1
      have hc2 := ble_iff.1 hc2
      have hc3 := beq_iff.1 hc3
      have hc4 := blt_iff.1 hc4
      split at hv
      · rename_i bs hbs
        simp only [Option.some.injEq, Prod.mk.injEq] at hv
        obtain ⟨rfl, rfl⟩ := hv
        obtain ⟨ccs, ty', fz, h1, h2, h3, h4, _, _, h7⟩ := r.cells hg hl
        obtain ⟨h8, h9, h10⟩ := h7 _ rfl
        have hty : Nat.pred (Nat.div es KB) = ty' := by
          have h9 : ty' + 1 = Nat.div es KB := h9
          rw [← h9]; rfl
        rw [hty] at hc3 hc5
        have hsh : w.shape? l.blk = some (ty', ccs.size) := by simp [World.shape?, h1]
        have hva : (variablesAt ⟨l.blk, l.off + off, none⟩ e m).run P w = .ok true w := by
          simp only [variablesAt, Sem.run_bind, run_program, Result.andThen_ok, run_shape, hsh, Sem.run_pure]
          obtain ⟨d, hd⟩ : ∃ d, P.depth = d + 1 := ⟨P.depth - 1, by omega⟩
          have hrow : rowAt P (sameLayout P P.depth · e) P.depth ty' (ccs.size / P.cellsOf ty') (l.off + off) m = true := by
            rw [hd]
            unfold rowAt
            rw [← hd]
            simp only [hc3, Nat.div_one, Nat.mod_one, hc5]
            have : l.off + off + m ≤ ccs.size := by omega
            simp [this]
          have hla : liesAt P (d + 1) ty' (ccs.size / P.cellsOf ty') (l.off + off) e m = true := by
            unfold liesAt
            rw [hrow]; rfl
          rw [← hd] at hla
          rw [hla]
        have r1 : LR μ ((cs.drop off).take m) ((ccs.toList.drop (l.off + off)).take m) := by
          have r1 := (h4.drop off).take m
          rw [List.drop_take, List.drop_drop, List.take_take, Nat.min_eq_left (by omega)] at r1
          exact r1
        have hds := toBytes_rel r1 hbs
        have hlen : ((cs.drop off).take m).length = m := by simp; omega
        have hlb := run_loadBytes (P := P) h1 ((cs.drop off).take m) bs (l.off + off) .empty hbs (fun i v hv => by
          rw [← hds, List.getElem?_take] at hv
          split at hv
          · rw [List.getElem?_drop] at hv
            rw [← Array.getElem?_toList]; exact hv
          · simp at hv)
        rw [hlen] at hlb
        have hlt : l.blk < w.heap.size := (Array.getElem?_eq_some_iff.1 h1).1
        have hvv : w.heap[l.blk] = .cells ccs ty' fz := (Array.getElem?_eq_some_iff.1 h1).2
        have hfr : ∃ o, w.freeze ⟨l.blk, l.off + off, none⟩ m = setObj w l.blk o := by
          refine ⟨.cells ccs ty' (if fz.1 == fz.2 then (l.off + off, l.off + off + m) else (min fz.1 (l.off + off), max fz.2 (l.off + off + m))), ?_⟩
          unfold World.freeze setObj
          rw [if_neg (by omega)]
          congr 1
          apply Array.ext_getElem?
          intro i
          rw [Array.getElem?_modify, Array.getElem?_setIfInBounds]
          by_cases hi : l.blk = i
          · subst hi; simp [hlt, hvv]
          · simp [hi]
        obtain ⟨o, ho⟩ := hfr
        refine ⟨.string ⟨⟨bs⟩⟩, setObj w l.blk o, ?_, Step.killSet r hg rfl hl, .string _⟩
        have hm0 : ¬ ((m : Int) < 0) := by omega
        have hlen2 : off + m ≤ cs.length := hc2
        have hbig : ¬ ((m : Int) > IntKind.i64.max) := by
          have : IntKind.i64.max = 9223372036854775807 := rfl
          omega
        have hel : (elemOf t).run P w = .ok e w := by simp [elemOf, run_underlying hu]
        have hmn : ¬ ((m : Int) = 0) := by omega
        rw [unsafeString_eq]
        have hmt : Int.toNat (m : Int) = m := rfl
        simp only [asInt, asIntOf, Sem.run_bind, Sem.run_pure, Result.andThen_ok, List.getElem?_toArray, List.getElem?_cons_zero, Int.ofNat_eq_natCast, if_neg hm0, if_neg hbig, if_neg hmn, hel, hmt, hva, if_true, hlb, run_freeze, ho]
        rfl
      · simp at hv
    · simp at hv
  · simp at hv
end Go.AM
