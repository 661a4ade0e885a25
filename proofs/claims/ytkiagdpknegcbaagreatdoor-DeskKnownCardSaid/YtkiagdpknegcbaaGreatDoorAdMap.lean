/-
  An abstract machine for the model: maps, and rounds over texts and maps.
-/
import Derived.Test.YtkiagdpknegcbaaGreatDoorAdSound6
namespace Go.AM
open Go

variable {P : Program} {NG : Nat} {μ : Mu} {h : H} {w : World}

theorem str_beq (a b : ByteArray) : (a == b) = (a.data.toList == b.data.toList) := by
  cases a with | mk a => cases b with | mk b =>
  show (a == b) = _
  rw [Bool.eq_iff_iff, beq_iff_eq, beq_iff_eq]
  exact ⟨fun e => by rw [e], fun e => Array.toList_inj.1 e⟩

theorem keyK_under {kt : TypeId} {k : Value} (hk : A.keyK P kt k = true) : ∃ d, P.underlying kt = some d ∧ ((∃ j, d = .int j ∧ ∃ n i, k = .int n i) ∨ (d = .string ∧ ∃ s, k = .string s)) := by
  unfold A.keyK at hk
  split at hk
  · rename_i j a x hu; exact ⟨_, hu, .inl ⟨_, rfl, _, _, rfl⟩⟩
  · rename_i x hu; exact ⟨_, hu, .inr ⟨rfl, _, rfl⟩⟩
  · simp at hk

theorem keyS_K {kt : TypeId} {k : Value} {s : Bool} (ht : A.keyT P kt = some s) (hs : A.keyS s k = true) : A.keyK P kt k = true := by
  unfold A.keyT at ht
  unfold A.keyK
  split at ht
  · rename_i j hu
    simp only [Option.some.injEq] at ht; subst ht
    cases k <;> simp_all [A.keyS]
  · rename_i hu
    simp only [Option.some.injEq] at ht; subst ht
    cases k <;> simp_all [A.keyS]
  · simp at ht

theorem keyEq_sound {kt : TypeId} {k e : Value} (hk : A.keyK P kt k = true) {b : Bool} (he : A.keyEq k e = some b) :
    ∃ d, P.underlying kt = some d ∧ Instr.sameNow d k e = some b ∧ (b = true → k = e) := by
  obtain ⟨d, hu, h⟩ := keyK_under hk
  refine ⟨d, hu, ?_⟩
  rcases h with ⟨j, rfl, n, i, rfl⟩ | ⟨rfl, s, rfl⟩
  · cases e with
    | int m z =>
      simp only [A.keyEq] at he
      obtain ⟨hj, h2⟩ := cond_some he
      have hj : n = m := by simpa using hj
      subst hj
      have h3 := Option.some.inj h2
      subst h3
      exact ⟨by simp [Instr.sameNow], fun hb => by rw [eq_of_beq hb]⟩
    | _ => simp [A.keyEq] at he
  · cases e with
    | string z =>
      simp only [A.keyEq, Option.some.injEq] at he
      subst he
      exact ⟨by rw [Instr.sameNow, str_beq], fun hb => by rw [bytes_ext (eq_of_beq hb)]⟩
    | _ => simp [A.keyEq] at he

theorem keyK_plain {kt : TypeId} {k : Value} (hk : A.keyK P kt k = true) : plain k = true := by
  obtain ⟨d, _, h⟩ := keyK_under hk
  rcases h with ⟨_, _, _, _, rfl⟩ | ⟨_, _, rfl⟩ <;> rfl

theorem keyK_rel {kt : TypeId} {k ck : Value} (hk : A.keyK P kt k = true) (r : VR μ k ck) : ck = k := by
  obtain ⟨d, _, h⟩ := keyK_under hk
  rcases h with ⟨_, _, _, _, rfl⟩ | ⟨_, _, rfl⟩ <;> cases r <;> rfl

theorem run_checkKey' {kt : TypeId} {k : Value} (hk : A.keyK P kt k = true) (b : Bool) (n : Nat) : (Instr.checkKey b (n + 1) kt k).run P w = .ok () w := by
  obtain ⟨d, hu, h⟩ := keyK_under hk
  rcases h with ⟨_, rfl, _, _, rfl⟩ | ⟨rfl, _, rfl⟩ <;> simp [Instr.checkKey, run_underlying hu]
theorem run_checkKey {kt : TypeId} {k : Value} (hk : A.keyK P kt k = true) (b : Bool) : (Instr.checkKey b 10000 kt k).run P w = .ok () w := run_checkKey' hk b 9999

/-- Entries that are related. -/
def EsR (μ : Mu) (es : List Ent) (cl : List MapEntry) : Prop :=
  cl.length = es.length ∧ ∀ (i : Nat) (e : Ent), es[i]? = some e → plain e.key = true ∧ ∃ c, cl[i]? = some c ∧ ER μ e c

theorem EsR.tail {e : Ent} {es : List Ent} {c : MapEntry} {cl : List MapEntry} (r : EsR μ (e :: es) (c :: cl)) : EsR μ es cl :=
  ⟨by have := r.1; simpa using this, fun i e' he => by simpa using r.2 (i + 1) e' (by simpa using he)⟩

theorem findE_sound {kt : TypeId} {k : Value} (hk : A.keyK P kt k = true) {d : TypeDesc} (hd : P.underlying kt = some d) : ∀ (es : List Ent) (cl : List MapEntry) (i : Nat) (r : Option (Nat × Value)), EsR μ es cl → A.findE k es i = some r →
    (match r with
     | none => Instr.findNow d k cl i = some none
     | some (j, v) => ∃ n cv, j = i + n ∧ n < es.length ∧ Instr.findNow d k cl i = some (some (j, cv)) ∧ VR μ v cv ∧ (∃ e, es[n]? = some e ∧ e.key = k ∧ e.val = v) ∧ ∃ c, cl[n]? = some c ∧ c.key = k) := by
  intro es
  induction es with
  | nil =>
    intro cl i r hr he
    have : cl = [] := List.length_eq_zero_iff.1 hr.1
    subst this
    simp only [A.findE, Option.some.injEq] at he
    subst he
    rfl
  | cons e es ih =>
    intro cl i r hr he
    cases cl with
    | nil => have := hr.1; simp at this
    | cons c cl =>
      obtain ⟨hp, c', hc, hk1, hb1, hv1⟩ := hr.2 0 e rfl
      simp only [List.getElem?_cons_zero, Option.some.injEq] at hc
      subst hc
      simp only [A.findE] at he
      cases hq : A.keyEq k e.key with
      | none => rw [hq] at he; simp at he
      | some b =>
        rw [hq] at he
        simp only at he
        obtain ⟨d', hd', hs, hke⟩ := keyEq_sound hk hq
        rw [hd] at hd'
        simp only [Option.some.injEq] at hd'
        subst hd'
        rw [← hk1] at hs
        cases b with
        | true =>
          simp only [cond_true, Option.some.injEq] at he
          subst he
          refine ⟨0, c.val, by simp, by simp, ?_, hv1, ⟨e, rfl, (hke rfl).symm, rfl⟩, c, rfl, ?_⟩
          · simp only [Instr.findNow, hs]
          · rw [hk1, hke rfl]
        | false =>
          simp only [cond_false] at he
          have := ih cl (i + 1) r hr.tail he
          cases r with
          | none => simp only at this ⊢; simp only [Instr.findNow, hs, this]
          | some q =>
            obtain ⟨j, v⟩ := q
            simp only at this ⊢
            obtain ⟨n, cv, e1, e2, e3, e4, e5, e6⟩ := this
            exact ⟨n + 1, cv, by omega, by simp; omega, by simp only [Instr.findNow, hs, e3], e4, by simpa using e5, by simpa using e6⟩

theorem run_findKey {kt : TypeId} {k : Value} {d : TypeDesc} (hd : P.underlying kt = some d) {cl : List MapEntry} {r : Option (Nat × Value)} (hf : Instr.findNow d k cl 0 = some r) :
    (Instr.findKey kt k cl).run P w = .ok r w := by
  simp only [Instr.findKey, Sem.run_bind, run_underlying hd, Result.andThen_ok, hf, Sem.run_pure]

theorem RH.map (r : RH NG μ h w) {id : Nat} {es : List Ent} {c : Nat} {l : Loc} (hg : h.get id = some (.map es c)) (hl : μ id = some l) :
    ∃ ces, w.heap[l.blk]? = some (.map ces c) ∧ EsR μ es ces.toList := by
  obtain ⟨ces, h1, h2, h3⟩ := r.br _ _ _ hg hl
  exact ⟨ces, h1, by simpa using h2, fun i e he => let ⟨p, c, hc, hr⟩ := h3 i e he; ⟨p, c, by simpa using hc, hr⟩⟩

theorem BR.mk_map {es : List Ent} {c : Nat} {l : Loc} {cl : List MapEntry} (hb : w.heap[l.blk]? = some (.map ⟨cl⟩ c)) (hr : EsR μ es cl) : BR μ (.map es c) l w :=
  ⟨⟨cl⟩, hb, by simpa using hr.1, fun i e he => let ⟨p, c, hc, hr⟩ := hr.2 i e he; ⟨p, c, by simpa using hc, hr⟩⟩

theorem VR.map_inv {id : Nat} {c : Value} (r : VR μ (.map (some id)) c) : ∃ l, μ id = some l ∧ c = .map (some l.blk) := by
  cases r with | map hl => exact ⟨_, hl, rfl⟩

theorem out_rel {co ok : Bool} {v cv : Value} (r : VR μ v cv) : VR μ (A.outL co v ok) (if co then .tuple #[cv, .bool ok] else cv) := by
  cases co with
  | false => exact r
  | true =>
    refine .tuple [v, .bool ok] [cv, .bool ok] rfl fun i a b ha hb => ?_
    match i with
    | 0 => simp at ha hb; subst ha; subst hb; exact r
    | 1 => simp at ha hb; subst ha; subst hb; exact .bool ok
    | n + 2 => simp at ha

theorem lookup_sound (r : RH NG μ h w) {t kt et : TypeId} (hu : P.underlying t = some (.map kt et)) {z : Value} (hz : zeroP P et = some z) (hzp : plain z = true) {co : Bool} {k x v ck cx : Value}
    (hk : A.keyK P kt k = true) (hv : A.lookup z co k x h = some v) (rx : VR μ x cx) (rk : VR μ k ck) : ∃ cv, (Instr.lookup t cx ck co).run P w = .ok cv w ∧ VR μ v cv := by
  rw [keyK_rel hk rk]
  obtain ⟨d, hd, _⟩ := keyK_under hk
  unfold A.lookup at hv
  split at hv
  · simp only [Option.some.injEq] at hv; subst hv
    have : cx = .map none := by cases rx; rfl
    subst this
    refine ⟨_, ?_, out_rel (VR.of_plain μ z hzp)⟩
    have hf : Instr.findNow d k ([] : List MapEntry) 0 = some none := rfl
    simp only [Instr.lookup, Sem.run_bind, run_underlying hu, Result.andThen_ok, Sem.run_pure, run_checkKey hk, run_findKey hd hf, run_zero P hz]
  · rename_i id
    obtain ⟨l, hl, rfl⟩ := rx.map_inv
    split at hv
    · rename_i es c hg
      obtain ⟨ces, hb, hes⟩ := r.map hg hl
      have hgo : (getObj l.blk).run P w = .ok (.map ces c) w := by simp only [getObj, Sem.run, hb]
      split at hv
      · rename_i j u hf
        simp only [Option.some.injEq] at hv; subst hv
        obtain ⟨n, cv, _, _, hfn, hvr, _⟩ := findE_sound hk hd es ces.toList 0 _ hes hf
        refine ⟨_, ?_, out_rel hvr⟩
        simp only [Instr.lookup, Sem.run_bind, run_underlying hu, Result.andThen_ok, hgo, Sem.run_pure, run_checkKey hk, run_findKey hd hfn]
      · rename_i hf
        simp only [Option.some.injEq] at hv; subst hv
        have hfn := findE_sound hk hd es ces.toList 0 _ hes hf
        refine ⟨_, ?_, out_rel (VR.of_plain μ z hzp)⟩
        simp only [Instr.lookup, Sem.run_bind, run_underlying hu, Result.andThen_ok, hgo, Sem.run_pure, run_checkKey hk, run_findKey hd hfn, run_zero P hz]
      · simp at hv
    · simp at hv
  · simp at hv

theorem modV_get (v : Value) : ∀ (es : List Ent) (n i : Nat), (A.modV v es n)[i]? = if i = n then (es[i]?).map (fun e => ⟨e.key, v, e.born⟩) else es[i]?
  | [], n, i => by cases n <;> simp [A.modV]
  | e :: es, 0, 0 => by simp [A.modV]
  | e :: es, 0, i + 1 => by simp [A.modV]
  | e :: es, n + 1, 0 => by simp [A.modV]
  | e :: es, n + 1, i + 1 => by simp [A.modV, modV_get v es n i]

theorem modV_length (v : Value) : ∀ (es : List Ent) (n : Nat), (A.modV v es n).length = es.length
  | [], n => by cases n <;> rfl
  | e :: es, 0 => rfl
  | e :: es, n + 1 => by simp [A.modV, modV_length v es n]

theorem sameBits_key {kt : TypeId} {k : Value} (hk : A.keyK P kt k = true) : Instr.sameBits 10000 k k = true := by
  obtain ⟨d, _, h⟩ := keyK_under hk
  rcases h with ⟨_, _, _, _, rfl⟩ | ⟨_, _, rfl⟩
  · simp [Instr.sameBits]
  · simp [Instr.sameBits, str_beq]

theorem mapUpdate_sound (r : RH NG μ h w) {t kt et : TypeId} (hu : P.underlying t = some (.map kt et)) {k v x ck cv cx : Value} {h' : H}
    (hk : A.keyK P kt k = true) (hv : A.mapUpdate k v x h = some h') (rx : VR μ x cx) (rk : VR μ k ck) (rv : VR μ v cv) :
    ∃ w', (Instr.mapUpdate t cx ck cv).run P w = .ok () w' ∧ Step NG μ h w μ h' w' := by
  rw [keyK_rel hk rk]
  obtain ⟨d, hd, _⟩ := keyK_under hk
  unfold A.mapUpdate at hv
  split at hv
  · rename_i id
    obtain ⟨l, hl, rfl⟩ := rx.map_inv
    split at hv
    · rename_i es c hg
      obtain ⟨ces, hb, hes⟩ := r.map hg hl
      have hlt : l.blk < w.heap.size := (Array.getElem?_eq_some_iff.1 hb).1
      have hgo : (getObj l.blk).run P w = .ok (.map ces c) w := by simp only [getObj, Sem.run, hb]
      have hso : ∀ o, (Go.setObj l.blk o).run P w = .ok () (setObj w l.blk o) := fun o => by simp [Go.setObj, Sem.run, hb, setObj]
      split at hv
      · rename_i j u hf
        simp only [Option.some.injEq] at hv; subst hv
        obtain ⟨n, cu, e1, hn, hfn, hvr, ⟨e, he, hek, _⟩, c0, hc0, hck⟩ := findE_sound hk hd es ces.toList 0 _ hes hf
        have e1 : j = n := by omega
        subst e1
        have hkey : (((ces[j]?).map (·.key)).getD k) = k := by
          have : ces[j]? = some c0 := by simpa using hc0
          simp [this, hck]
        have hfin : ces.modify j (fun e => { e with key := k, val := cv }) = ⟨ces.toList.modify j (fun e => { e with key := k, val := cv })⟩ := by
          apply Array.ext'; simp
        refine ⟨setObj w l.blk (.map ⟨ces.toList.modify j (fun e => { e with key := k, val := cv })⟩ c), ?_, Step.write r hg rfl rfl hl ?_⟩
        · simp only [Instr.mapUpdate, Sem.run_bind, run_underlying hu, Result.andThen_ok, hgo, run_checkKey hk, run_findKey hd hfn, hkey, Instr.keyThatStays, sameBits_key hk, if_true, Sem.run_pure, hso, hfin]
        · refine BR.mk_map (setObj_same hlt) ⟨?_, fun i e' he' => ?_⟩
          · rw [modV_length, List.length_modify]; exact hes.1
          · rw [modV_get] at he'
            split at he'
            · rename_i hij; subst hij
              rw [he] at he'
              simp only [Option.map_some, Option.some.injEq] at he'
              subst he'
              obtain ⟨hp, c1, hc1, r1, r2, r3⟩ := hes.2 i e he
              refine ⟨hp, { c1 with key := k, val := cv }, by simp [hc1], ?_, r2, rv⟩
              exact hek.symm
            · rename_i hij
              obtain ⟨hp, c1, hc1, hr⟩ := hes.2 i e' he'
              exact ⟨hp, c1, by rw [List.getElem?_modify, hc1]; simp [Ne.symm hij], hr⟩
      · rename_i hf
        simp only [Option.some.injEq] at hv; subst hv
        have hfn := findE_sound hk hd es ces.toList 0 _ hes hf
        have hfin : ces.push { key := k, val := cv, born := c } = ⟨ces.toList ++ [{ key := k, val := cv, born := c }]⟩ := by
          apply Array.ext'; simp
        refine ⟨setObj w l.blk (.map ⟨ces.toList ++ [{ key := k, val := cv, born := c }]⟩ (c + 1)), ?_, Step.write r hg rfl rfl hl ?_⟩
        · simp only [Instr.mapUpdate, Sem.run_bind, run_underlying hu, Result.andThen_ok, hgo, run_checkKey hk, run_findKey hd hfn, hso, hfin]
        · refine BR.mk_map (setObj_same hlt) ⟨by simpa using hes.1, fun i e' he' => ?_⟩
          have hlen : ces.toList.length = es.length := hes.1
          rw [List.getElem?_append] at he'
          split at he'
          · obtain ⟨hp, c1, hc1, hr⟩ := hes.2 i e' he'
            exact ⟨hp, c1, by rw [List.getElem?_append_left (by omega)]; exact hc1, hr⟩
          · rename_i hi
            have hi0 : i = es.length := by
              have := (List.getElem?_eq_some_iff.1 he').1
              simp at this; omega
            subst hi0
            simp only [Nat.sub_self, List.getElem?_cons_zero, Option.some.injEq] at he'
            subst he'
            refine ⟨keyK_plain hk, _, by rw [List.getElem?_append_right (by omega), hlen, Nat.sub_self]; rfl, rfl, rfl, rv⟩
      · simp at hv
    · simp at hv
  · simp at hv

theorem Step.push_at (r : RH NG μ h w) (hf : μ h.next = none) {b : Blk} (ho : b.owned = true) {o : Obj} (hb : BR (μ.set h.next ⟨w.heap.size, 0, 0, 0⟩) b ⟨w.heap.size, 0, 0, 0⟩ (w.alloc o)) :
    Step NG μ h w (μ.set h.next ⟨w.heap.size, 0, 0, 0⟩) (h.push b) (w.alloc o) :=
  Step.push r hf ho (o := o) rfl rfl rfl rfl rfl hb

theorem alloc_at (w : World) (o : Obj) : (w.alloc o).heap[w.heap.size]? = some o := Array.getElem?_push_size

theorem makeMap_sound (r : RH NG μ h w) (hf : μ h.next = none) (t : TypeId) :
    ∃ cv w' μ', (Instr.makeMap t none).run P w = .ok cv w' ∧ Step NG μ h w μ' (h.push (.map [] 0)) w' ∧ VR μ' (.map (some h.next)) cv := by
  refine ⟨.map (some w.heap.size), w.alloc (.map #[] 0), _, rfl, Step.push_at r hf rfl (BR.mk_map (cl := []) (alloc_at _ _) ⟨rfl, fun i e he => by simp at he⟩), ?_⟩
  exact VR.map (Mu.set_same μ h.next ⟨w.heap.size, 0, 0, 0⟩)

theorem setObj_self {b : Nat} {o : Obj} (hb : w.heap[b]? = some o) : setObj w b o = w := by
  have : w.heap.setIfInBounds b o = w.heap := by
    apply Array.ext_getElem?
    intro i
    by_cases e : i = b
    · subst e
      have hlt := (Array.getElem?_eq_some_iff.1 hb).1
      rw [hb]; simp [hlt]
    · rw [Array.getElem?_setIfInBounds_ne (Ne.symm e)]
  unfold setObj
  rw [this]

theorem run_setMap {l : Nat} {ces : Array MapEntry} {c : Nat} (hb : w.heap[l]? = some (.map ces c)) (o : Obj) : (Go.setObj l o).run P w = .ok () (setObj w l o) := by
  simp [Go.setObj, Sem.run, hb, setObj]

theorem delete_sound (r : RH NG μ h w) {ats : Array TypeId} {t kt et : TypeId} (h0 : ats[0]? = some t) (hu : P.underlying t = some (.map kt et)) {k x ck cx : Value} {h' : H}
    (hk : A.keyK P kt k = true) (hv : A.delete k x h = some h') (rx : VR μ x cx) (rk : VR μ k ck) (ty : TypeId) :
    ∃ w', (Builtin.delete_ ats ty #[cx, ck]).run P w = .ok (.tuple #[]) w' ∧ Step NG μ h w μ h' w' := by
  rw [keyK_rel hk rk]
  obtain ⟨d, hd, _⟩ := keyK_under hk
  unfold A.delete at hv
  split at hv
  · simp only [Option.some.injEq] at hv; subst hv
    have : cx = .map none := by cases rx; rfl
    subst this
    refine ⟨w, ?_, Step.refl r⟩
    simp only [Builtin.delete_, h0, List.getElem?_toArray, List.getElem?_cons_zero, List.getElem?_cons_succ, Sem.run_bind, run_underlying hu, Result.andThen_ok, run_checkKey hk, Sem.run_pure]
  · rename_i id
    obtain ⟨l, hl, rfl⟩ := rx.map_inv
    split at hv
    · rename_i es c hg
      obtain ⟨ces, hb, hes⟩ := r.map hg hl
      have hlt : l.blk < w.heap.size := (Array.getElem?_eq_some_iff.1 hb).1
      have hgo : (getObj l.blk).run P w = .ok (.map ces c) w := by simp only [getObj, Sem.run, hb]
      split at hv
      · rename_i j u hf
        simp only [Option.some.injEq] at hv; subst hv
        obtain ⟨n, cu, e1, hn, hfn, _⟩ := findE_sound hk hd es ces.toList 0 _ hes hf
        have e1 : j = n := by omega
        subst e1
        have hfin : ces.eraseIdxIfInBounds j = ⟨ces.toList.eraseIdx j⟩ := by
          apply Array.ext'; simp
        refine ⟨setObj w l.blk (.map ⟨ces.toList.eraseIdx j⟩ c), ?_, Step.write r hg rfl rfl hl ?_⟩
        · simp only [Builtin.delete_, h0, List.getElem?_toArray, List.getElem?_cons_zero, List.getElem?_cons_succ, Sem.run_bind, run_underlying hu, Result.andThen_ok, hgo, run_checkKey hk, run_findKey hd hfn, run_setMap hb, Sem.run_pure, hfin]
        · refine BR.mk_map (setObj_same hlt) ⟨?_, fun i e' he' => ?_⟩
          · have hlen : ces.toList.length = es.length := hes.1
            rw [List.length_eraseIdx, List.length_eraseIdx, hlen]
          · rw [List.getElem?_eraseIdx] at he' ⊢
            split at he'
            · rename_i hij; rw [if_pos hij]; exact hes.2 i e' he'
            · rename_i hij; rw [if_neg hij]; exact hes.2 (i + 1) e' he'
      · rename_i hf
        simp only [Option.some.injEq] at hv; subst hv
        have hfn := findE_sound hk hd es ces.toList 0 _ hes hf
        refine ⟨w, ?_, Step.refl r⟩
        simp only [Builtin.delete_, h0, List.getElem?_toArray, List.getElem?_cons_zero, List.getElem?_cons_succ, Sem.run_bind, run_underlying hu, Result.andThen_ok, hgo, run_checkKey hk, run_findKey hd hfn, run_setMap hb, Sem.run_pure, setObj_self hb]
      · simp at hv
    · simp at hv
  · simp at hv

theorem clearM_sound (r : RH NG μ h w) {ats : Array TypeId} {t kt et : TypeId} (h0 : ats[0]? = some t) (hu : P.underlying t = some (.map kt et)) {x cx : Value} {h' : H}
    (hv : A.clearM x h = some h') (rx : VR μ x cx) (ty : TypeId) :
    ∃ w', (Builtin.clear_ ats ty #[cx]).run P w = .ok (.tuple #[]) w' ∧ Step NG μ h w μ h' w' := by
  unfold A.clearM at hv
  split at hv
  · simp only [Option.some.injEq] at hv; subst hv
    have : cx = .map none := by cases rx; rfl
    subst this
    refine ⟨w, ?_, Step.refl r⟩
    simp only [Builtin.clear_, h0, List.getElem?_toArray, List.getElem?_cons_zero, Sem.run_bind, run_underlying hu, Result.andThen_ok, Sem.run_pure]
  · rename_i id
    obtain ⟨l, hl, rfl⟩ := rx.map_inv
    split at hv
    · rename_i es c hg
      simp only [Option.some.injEq] at hv; subst hv
      obtain ⟨ces, hb, hes⟩ := r.map hg hl
      have hlt : l.blk < w.heap.size := (Array.getElem?_eq_some_iff.1 hb).1
      have hgo : (getObj l.blk).run P w = .ok (.map ces c) w := by simp only [getObj, Sem.run, hb]
      refine ⟨setObj w l.blk (.map #[] c), ?_, Step.write r hg rfl rfl hl (BR.mk_map (cl := []) (setObj_same hlt) ⟨rfl, fun i e he => by simp at he⟩)⟩
      simp only [Builtin.clear_, h0, List.getElem?_toArray, List.getElem?_cons_zero, Sem.run_bind, run_underlying hu, Result.andThen_ok, hgo, run_setMap hb, Sem.run_pure]
    · simp at hv
  · simp at hv

theorem rangeS_sound (r : RH NG μ h w) (hf : μ h.next = none) {t : TypeId} (hu : P.underlying t = some .string) {s : ByteArray} {cx v : Value} {h' : H} (hv : A.range (.string s) h = some (v, h')) (rx : VR μ (.string s) cx) :
    ∃ cv w' μ', (Instr.range t cx).run P w = .ok cv w' ∧ Step NG μ h w μ' h' w' ∧ VR μ' v cv := by
  simp only [A.range, Option.some.injEq, Prod.mk.injEq] at hv
  obtain ⟨rfl, rfl⟩ := hv
  rw [rx.string_inv]
  refine ⟨.pointer (some ⟨w.heap.size, 0, none⟩), w.alloc (.stringIter s 0), _, ?_, Step.push_at r hf rfl ⟨rfl, alloc_at _ _⟩, ?_⟩
  · simp only [Instr.range, Sem.run_bind, run_underlying hu, Result.andThen_ok, Sem.run_pure, run_newObj]
    rfl
  · exact VR.ptr (off := 0) (Mu.set_same μ h.next ⟨w.heap.size, 0, 0, 0⟩)

theorem rangeM_sound (r : RH NG μ h w) (hf : μ h.next = none) {t kt et : TypeId} (hu : P.underlying t = some (.map kt et)) {m : Option Nat} {cx v : Value} {h' : H} (hv : A.range (.map m) h = some (v, h')) (rx : VR μ (.map m) cx) :
    ∃ cv w' μ', (Instr.range t cx).run P w = .ok cv w' ∧ Step NG μ h w μ' h' w' ∧ VR μ' v cv := by
  cases m with
  | none =>
    simp only [A.range, Option.some.injEq, Prod.mk.injEq] at hv
    obtain ⟨rfl, rfl⟩ := hv
    have : cx = .map none := by cases rx; rfl
    subst this
    refine ⟨.pointer (some ⟨w.heap.size, 0, none⟩), w.alloc (.mapIter none 0 #[] 0), _, ?_, Step.push_at r hf rfl ⟨rfl, none, trivial, alloc_at _ _⟩, ?_⟩
    · simp only [Instr.range, Sem.run_bind, run_underlying hu, Result.andThen_ok, Sem.run_pure, run_newObj]
      rfl
    · exact VR.ptr (off := 0) (Mu.set_same μ h.next ⟨w.heap.size, 0, 0, 0⟩)
  | some id =>
    simp only [A.range] at hv
    obtain ⟨l, hl, rfl⟩ := rx.map_inv
    split at hv
    · rename_i es c hg
      simp only [Option.some.injEq, Prod.mk.injEq] at hv
      obtain ⟨rfl, rfl⟩ := hv
      obtain ⟨ces, hb, hes⟩ := r.map hg hl
      have hgo : (getObj l.blk).run P w = .ok (.map ces c) w := by simp only [getObj, Sem.run, hb]
      refine ⟨.pointer (some ⟨w.heap.size, 0, none⟩), w.alloc (.mapIter (some l.blk) c #[] c), _, ?_, Step.push_at r hf rfl ⟨rfl, some l.blk, ⟨l, Mu.le_set hf _ _ hl, rfl⟩, alloc_at _ _⟩, ?_⟩
      · simp only [Instr.range, Sem.run_bind, run_underlying hu, Result.andThen_ok, hgo, Sem.run_pure, run_newObj]
        rfl
      · exact VR.ptr (off := 0) (Mu.set_same μ h.next ⟨w.heap.size, 0, 0, 0⟩)
    · simp at hv

theorem charAt_some {s : ByteArray} {pos c n : Nat} (hc : A.charAt s pos = some (c, n)) : pos < s.size ∧ Utf8.decode s pos = (c, n) := by
  unfold A.charAt at hc
  split at hc
  · rename_i b hb
    have hlt : pos < s.data.toList.length := (List.getElem?_eq_some_iff.1 hb).1
    have hlt' : pos < s.size := by simpa using hlt
    refine ⟨hlt', ?_⟩
    cases hq : Nat.blt b.toNat 128 with
    | true =>
      rw [hq] at hc
      simp only [cond_true, Option.some.injEq, Prod.mk.injEq] at hc
      obtain ⟨rfl, rfl⟩ := hc
      have hb' : s.get! pos = b := by
        show s.data[pos]! = b
        have e : s.data[pos]? = some b := by simpa using hb
        rw [getElem!_def, e]
      have hlt8 : b.toNat < 0x80 := blt_iff.1 hq
      simp only [Utf8.decode, Nat.add_zero, hb', hlt8, if_true]
    | false =>
      rw [hq] at hc
      simpa using hc
  · simp at hc

theorem charAt_none {s : ByteArray} {pos : Nat} (hc : A.charAt s pos = none) : ¬ pos < s.size := by
  unfold A.charAt at hc
  split at hc
  · rename_i b hb
    cases hq : Nat.blt b.toNat 128 <;> (rw [hq] at hc; exact absurd hc (by simp))
  · rename_i hn
    have := List.getElem?_eq_none_iff.1 hn
    simp at this
    exact Nat.not_lt.2 this

theorem VR.iter_inv {id : Nat} {c : Value} {l : Loc} (r : VR μ (.pointer (some ⟨id, 0, none⟩)) c) (hl : μ id = some l) (h0 : l.off = 0) : c = .pointer (some ⟨l.blk, 0, none⟩) := by
  obtain ⟨l', hl', rfl⟩ := r.ptr_inv
  rw [hl] at hl'
  simp only [Option.some.injEq] at hl'
  subst hl'
  rw [h0]

theorem nextS_sound (r : RH NG μ h w) {x cx v : Value} {h' : H} (hv : A.nextS x h = some (v, h')) (rx : VR μ x cx) (ty : TypeId) :
    ∃ cv w', (Instr.next cx true ty).run P w = .ok cv w' ∧ Step NG μ h w μ h' w' ∧ VR μ v cv := by
  unfold A.nextS at hv
  split at hv
  · rename_i id
    obtain ⟨l, hl, _⟩ := rx.ptr_inv
    split at hv
    · rename_i s pos hg
      obtain ⟨h0, hb⟩ := r.br _ _ _ hg hl
      rw [rx.iter_inv hl h0]
      have hlt : l.blk < w.heap.size := (Array.getElem?_eq_some_iff.1 hb).1
      have hgo : (getObj l.blk).run P w = .ok (.stringIter s pos) w := by simp only [getObj, Sem.run, hb]
      have hso : ∀ o, (Go.setObj l.blk o).run P w = .ok () (setObj w l.blk o) := fun o => by simp [Go.setObj, Sem.run, hb, setObj]
      split at hv
      · rename_i c n hc
        simp only [Option.some.injEq, Prod.mk.injEq] at hv
        obtain ⟨rfl, rfl⟩ := hv
        obtain ⟨hp, hdec⟩ := charAt_some hc
        refine ⟨.tuple #[.bool true, .int .i64 pos, .int .i32 c], setObj w l.blk (.stringIter s (pos + n)), ?_, Step.write r hg rfl rfl hl ⟨h0, setObj_same hlt⟩, VR.of_plain _ _ rfl⟩
        simp only [Instr.next, Sem.run_bind, hgo, Result.andThen_ok, hp, if_true, hdec, hso, Sem.run_pure, goInt]
      · rename_i hc
        simp only [Option.some.injEq, Prod.mk.injEq] at hv
        obtain ⟨rfl, rfl⟩ := hv
        refine ⟨.tuple #[.bool false], w, ?_, Step.refl r, VR.of_plain _ _ rfl⟩
        simp only [Instr.next, Sem.run_bind, hgo, Result.andThen_ok, charAt_none hc, if_false, Sem.run_pure]
    · simp at hv
  · simp at hv

theorem EsR.cons_inv {e : Ent} {es : List Ent} {cl : List MapEntry} (r : EsR μ (e :: es) cl) : ∃ c cl', cl = c :: cl' ∧ plain e.key = true ∧ ER μ e c ∧ EsR μ es cl' := by
  cases cl with
  | nil => have := r.1; simp at this
  | cons c cl =>
    obtain ⟨hp, c', hc, hr⟩ := r.2 0 e rfl
    simp only [List.getElem?_cons_zero, Option.some.injEq] at hc
    subst hc
    exact ⟨c, cl, rfl, hp, hr, r.tail⟩

theorem EsR.nil_inv {cl : List MapEntry} (r : EsR μ [] cl) : cl = [] := List.length_eq_zero_iff.1 r.1

theorem EsR.nil : EsR μ [] [] := ⟨rfl, fun i e he => by simp at he⟩

theorem EsR.cons {e : Ent} {es : List Ent} {c : MapEntry} {cl : List MapEntry} (hp : plain e.key = true) (hr : ER μ e c) (r : EsR μ es cl) : EsR μ (e :: es) (c :: cl) :=
  ⟨by simpa using r.1, fun i e' he => by
    cases i with
    | zero => simp only [List.getElem?_cons_zero, Option.some.injEq] at he; subst he; exact ⟨hp, c, rfl, hr⟩
    | succ i => simpa using r.2 i e' (by simpa using he)⟩

theorem EsR.filter {p : Ent → Bool} {q : MapEntry → Bool} (hpq : ∀ e c, c.born = e.born → q c = p e) : ∀ {es : List Ent} {cl : List MapEntry}, EsR μ es cl → EsR μ (es.filter p) (cl.filter q)
  | [], cl, r => by rw [r.nil_inv]; exact .nil
  | e :: es, cl, r => by
    obtain ⟨c, cl', rfl, hp, hr, ht⟩ := r.cons_inv
    have := EsR.filter hpq ht
    rw [List.filter_cons, List.filter_cons, hpq e c hr.2.1]
    split
    · exact .cons hp hr this
    · exact this

theorem EsR.all {p : Ent → Bool} {q : MapEntry → Bool} (hpq : ∀ e c, c.born = e.born → q c = p e) : ∀ {es : List Ent} {cl : List MapEntry}, EsR μ es cl → cl.all q = es.all p
  | [], cl, r => by rw [r.nil_inv]; rfl
  | e :: es, cl, r => by
    obtain ⟨c, cl', rfl, hp, hr, ht⟩ := r.cons_inv
    simp only [List.all_cons, hpq e c hr.2.1, EsR.all hpq ht]

theorem EsR.isEmpty {es : List Ent} {cl : List MapEntry} (r : EsR μ es cl) : cl.isEmpty = es.isEmpty := by
  cases es with
  | nil => rw [r.nil_inv]; rfl
  | cons e es => obtain ⟨c, cl', rfl, _⟩ := r.cons_inv; rfl

theorem bornIn_eq (seen : List Nat) (e : Ent) (c : MapEntry) (hb : c.born = e.born) : (!(⟨seen⟩ : Array Nat).contains c.born) = !A.bornIn seen e := by
  congr 1
  rw [Bool.eq_iff_iff, hb]
  simp [A.bornIn, List.any_eq_true, beq_iff]

theorem nextM_sound (r : RH NG μ h w) {x cx v : Value} {h' : H} (hv : A.nextM x h = some (v, h')) (rx : VR μ x cx) (ty : TypeId) :
    ∃ cv w', (Instr.next cx false ty).run P w = .ok cv w' ∧ Step NG μ h w μ h' w' ∧ VR μ v cv := by
  unfold A.nextM at hv
  split at hv
  · rename_i id
    obtain ⟨l, hl, _⟩ := rx.ptr_inv
    split at hv
    · rename_i since seen last hg
      obtain ⟨h0, m', hm, hb⟩ := r.br _ _ _ hg hl
      have hm' : m' = none := by cases m' with
        | none => rfl
        | some _ => exact hm.elim
      subst hm'
      rw [rx.iter_inv hl h0]
      have hgo : (getObj l.blk).run P w = .ok (.mapIter none since ⟨seen⟩ last) w := by simp only [getObj, Sem.run, hb]
      simp only [Option.some.injEq, Prod.mk.injEq] at hv
      obtain ⟨rfl, rfl⟩ := hv
      refine ⟨.tuple #[.bool false], w, ?_, Step.refl r, VR.of_plain _ _ rfl⟩
      simp only [Instr.next, Sem.run_bind, hgo, Result.andThen_ok, Sem.run_pure]
    · rename_i m since seen last hg
      obtain ⟨h0, m', hm, hb⟩ := r.br _ _ _ hg hl
      obtain ⟨bm, rfl⟩ : ∃ bm, m' = some bm := by cases m' with
        | none => exact hm.elim
        | some b => exact ⟨b, rfl⟩
      obtain ⟨lm, hlm, rfl⟩ := hm
      rw [rx.iter_inv hl h0]
      have hlt : l.blk < w.heap.size := (Array.getElem?_eq_some_iff.1 hb).1
      have hgo : (getObj l.blk).run P w = .ok (.mapIter (some lm.blk) since ⟨seen⟩ last) w := by simp only [getObj, Sem.run, hb]
      have hso : ∀ o, (Go.setObj l.blk o).run P w = .ok () (setObj w l.blk o) := fun o => by simp [Go.setObj, Sem.run, hb, setObj]
      split at hv
      · rename_i es clock hgm
        obtain ⟨⟨cl⟩, hbm, hes⟩ := r.map hgm hlm
        have hes : EsR μ es cl := hes
        have hgm' : (getObj lm.blk).run P w = .ok (.map ⟨cl⟩ clock) w := by simp only [getObj, Sem.run, hbm]
        have hall : ((⟨cl⟩ : Array MapEntry).all fun e => decide (e.born ≥ last)) = es.all fun e => Nat.ble last e.born := by
          rw [show (⟨cl⟩ : Array MapEntry) = cl.toArray from rfl, List.all_toArray]
          exact hes.all fun e c hb => by rw [hb, Bool.eq_iff_iff, decide_eq_true_eq, ble_iff]
        have hemp : (⟨cl⟩ : Array MapEntry).isEmpty = es.isEmpty := by rw [← hes.isEmpty]; cases cl <;> rfl
        have hemp2 : (⟨seen⟩ : Array Nat).isEmpty = seen.isEmpty := by cases seen <;> rfl
        have hleft : (⟨cl⟩ : Array MapEntry).filter (fun e => !(⟨seen⟩ : Array Nat).contains e.born) = ⟨cl.filter fun e => !(⟨seen⟩ : Array Nat).contains e.born⟩ := by
          rw [show (⟨cl⟩ : Array MapEntry) = cl.toArray from rfl, List.filter_toArray]
        have hfl := hes.filter (q := fun c => !(⟨seen⟩ : Array Nat).contains c.born) (p := fun e => !A.bornIn seen e) fun e c hb => bornIn_eq seen e c hb
        cases hcnd : (!seen.isEmpty && !es.isEmpty && es.all fun e => Nat.ble last e.born) with
        | true => rw [hcnd] at hv; simp at hv
        | false =>
          rw [hcnd] at hv
          simp only [cond_false] at hv
          split at hv
          · rename_i hnil
            rw [hnil] at hfl
            rw [hfl.nil_inv] at hleft
            simp only [Option.some.injEq, Prod.mk.injEq] at hv
            obtain ⟨rfl, rfl⟩ := hv
            refine ⟨.tuple #[.bool false], w, ?_, Step.refl r, VR.of_plain _ _ rfl⟩
            simp only [Instr.next, Sem.run_bind, hgo, Result.andThen_ok, hgm', hemp, hemp2, hall, hcnd, hleft, Bool.false_eq_true, if_false, Sem.run_pure]
            simp [choose, Sem.run, Question.forced]
          · rename_i e hone
            rw [hone] at hfl
            obtain ⟨c, cl', hcl, hp, hr, ht⟩ := hfl.cons_inv
            rw [ht.nil_inv] at hcl
            rw [hcl] at hleft
            obtain ⟨hlt2, hv⟩ := cond_some hv
            have hlt2 := blt_iff.1 hlt2
            simp only [Option.some.injEq, Prod.mk.injEq] at hv
            obtain ⟨rfl, rfl⟩ := hv
            have hcb : c.born < since := by rw [hr.2.1]; exact hlt2
            have hold : (⟨[c]⟩ : Array MapEntry).filter (fun e => decide (e.born < since)) = #[c] := by simp [hcb]
            have hnew : (⟨[c]⟩ : Array MapEntry).filter (fun e => decide (e.born ≥ since)) = #[] := by simp [hcb]
            refine ⟨.tuple #[.bool true, c.key, c.val], setObj w l.blk (.mapIter (some lm.blk) since ⟨seen ++ [e.born]⟩ clock), ?_, Step.write r hg rfl rfl hl ⟨h0, some lm.blk, ⟨lm, hlm, rfl⟩, setObj_same hlt⟩, ?_⟩
            · have hpush : (⟨seen⟩ : Array Nat).push c.born = ⟨seen ++ [e.born]⟩ := by rw [hr.2.1]; apply Array.ext'; simp
              simp only [Instr.next, Sem.run_bind, hgo, Result.andThen_ok, hgm', hemp, hemp2, hall, hcnd, hleft, hold, hnew, Bool.false_eq_true, if_false, Sem.run_pure]
              simp [choose, Sem.run, Question.forced, hso, Array.isEmpty, hr.2.1]
            · refine .tuple [.bool true, e.key, e.val] [.bool true, c.key, c.val] rfl fun i a b ha hb => ?_
              match i with
              | 0 => simp at ha hb; subst ha; subst hb; exact .bool true
              | 1 => simp at ha hb; subst ha; subst hb; rw [hr.1]; exact VR.of_plain _ _ hp
              | 2 => simp at ha hb; subst ha; subst hb; exact hr.2.2
              | n + 3 => simp at ha
          · simp at hv
      · simp at hv
    · simp at hv
  · simp at hv

theorem lastL_back : ∀ (l : List Nat), (⟨l⟩ : Array Nat).back? = A.lastL l
  | [] => rfl
  | [a] => rfl
  | a :: b :: r => by
    have := lastL_back (b :: r)
    simp only [A.lastL]
    rw [← this]
    simp

theorem findB_sound {b : Nat} : ∀ {es : List Ent} {cl : List MapEntry} {e : Ent}, EsR μ es cl → A.findB b es = some e → ∃ c, cl.find? (fun c => c.born == b) = some c ∧ ER μ e c ∧ plain e.key = true
  | [], cl, e, r, hf => by simp [A.findB] at hf
  | e0 :: es, cl, e, r, hf => by
    obtain ⟨c, cl', rfl, hp, hr, ht⟩ := r.cons_inv
    simp only [A.findB] at hf
    cases hq : Nat.beq e0.born b with
    | true =>
      rw [hq] at hf
      simp only [cond_true, Option.some.injEq] at hf
      subst hf
      exact ⟨c, by rw [List.find?_cons_of_pos]; simpa [hr.2.1] using beq_iff.1 hq, hr, hp⟩
    | false =>
      rw [hq] at hf
      simp only [cond_false] at hf
      obtain ⟨c', h1, h2⟩ := findB_sound ht hf
      refine ⟨c', ?_, h2⟩
      rw [List.find?_cons_of_neg]
      · exact h1
      · rw [hr.2.1]
        intro e
        rw [beq_iff.2 (eq_of_beq e)] at hq
        simp at hq

theorem entry_sound (r : RH NG μ h w) {x cx v : Value} (hv : A.entry x h = some v) (rx : VR μ x cx) : ∃ cv, (Instr.entry cx).run P w = .ok cv w ∧ VR μ v cv := by
  unfold A.entry at hv
  split at hv
  · rename_i id
    obtain ⟨l, hl, _⟩ := rx.ptr_inv
    split at hv
    · rename_i m since seen last hg
      obtain ⟨h0, m', hm, hb⟩ := r.br _ _ _ hg hl
      obtain ⟨bm, rfl⟩ : ∃ bm, m' = some bm := by cases m' with
        | none => exact hm.elim
        | some b => exact ⟨b, rfl⟩
      obtain ⟨lm, hlm, rfl⟩ := hm
      rw [rx.iter_inv hl h0]
      have hgo : (getObj l.blk).run P w = .ok (.mapIter (some lm.blk) since ⟨seen⟩ last) w := by simp only [getObj, Sem.run, hb]
      split at hv
      · rename_i b es clock hb1 hgm
        obtain ⟨⟨cl⟩, hbm, hes⟩ := r.map hgm hlm
        have hgm' : (getObj lm.blk).run P w = .ok (.map ⟨cl⟩ clock) w := by simp only [getObj, Sem.run, hbm]
        obtain ⟨hck, hv2⟩ := cond_some hv
        have hck := beq_iff.1 hck
        clear hv
        subst hck
        split at hv2
        · rename_i e he
          have hv3 := (Option.some.inj hv2).symm
          subst hv3
          obtain ⟨c, hc, hr, hp⟩ := findB_sound hes he
          have hc' : (⟨cl⟩ : Array MapEntry).find? (fun c => c.born == b) = some c := by
            rw [← Array.find?_toList]; exact hc
          refine ⟨.tuple #[c.key, c.val], ?_, ?_⟩
          · simp only [Instr.entry, Sem.run_bind, hgo, Result.andThen_ok, lastL_back, hb1, hgm', bne_self_eq_false, Bool.false_eq_true, if_false, hc', Sem.run_pure]
          · refine .tuple [e.key, e.val] [c.key, c.val] rfl fun i a b ha hb => ?_
            match i with
            | 0 => simp at ha hb; subst ha; subst hb; rw [hr.1]; exact VR.of_plain _ _ hp
            | 1 => simp at ha hb; subst ha; subst hb; exact hr.2.2
            | n + 2 => simp at ha
        · simp at hv2
      · simp at hv
    · simp at hv
  · simp at hv
end Go.AM
