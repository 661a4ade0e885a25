/-
  An abstract machine for the model: what a write, an allocation, an append do to related heaps.
-/
import Derived.Test.YtkiagdpknegcbaaGreatDoorAdBase
import Derived.Laws.CopyRow
import Derived.Laws.Entries
namespace Go.AM
open Go

variable {NG : Nat}

theorem BR.congr {μ : Mu} {b : Blk} {l : Loc} {w w' : World} (h : w'.heap[l.blk]? = w.heap[l.blk]?) (r : BR μ b l w) : BR μ b l w' := by
  cases b <;> simp only [BR] at r ⊢ <;> rw [h] <;> exact r

theorem BR.mono {μ μ' : Mu} (hle : μ.le μ') {b : Blk} {l : Loc} {w : World} (r : BR μ b l w) : BR μ' b l w := by
  cases b with
  | cells cs own =>
    obtain ⟨ccs, ty, fz, h1, h2, h3, h4, h5, h6⟩ := r
    exact ⟨ccs, ty, fz, h1, h2, h3, fun i v hv => let ⟨c, hc, hr, hx⟩ := h4 i v hv; ⟨c, hc, hr.mono hle, hx⟩, h5, h6⟩
  | map es clock =>
    obtain ⟨ces, h1, h2, h3⟩ := r
    exact ⟨ces, h1, h2, fun i e he => let ⟨p, c, hc, h7, h8, h9⟩ := h3 i e he; ⟨p, c, hc, h7, h8, h9.mono hle⟩⟩
  | siter s pos => exact r
  | miter m since seen last =>
    obtain ⟨h0, m', h1, h2⟩ := r
    refine ⟨h0, m', ?_, h2⟩
    cases m with
    | none => cases m' with
      | none => exact trivial
      | some b => exact h1.elim
    | some a => cases m' with
      | none => exact h1.elim
      | some b => exact let ⟨l', e1, e2⟩ := h1; ⟨l', hle _ _ e1, e2⟩
  | loop nt fr ps assign body st =>
    obtain ⟨h0, q, h1, h2, h3, h4, h5, h6, h7⟩ := r
    exact ⟨h0, q, h1, h2, h3, h4, h5, h6, fun t v hv => ⟨(h7 t v hv).1, (h7 t v hv).2.mono hle⟩⟩

theorem BR.lt {μ : Mu} {b : Blk} {l : Loc} {w : World} (r : BR μ b l w) : l.blk < w.heap.size := by
  have key : ∀ o, w.heap[l.blk]? = some o → l.blk < w.heap.size := fun o h => (Array.getElem?_eq_some_iff.1 h).1
  cases b with
  | cells cs own => obtain ⟨_, _, _, h1, _⟩ := r; exact key _ h1
  | map es clock => obtain ⟨_, h1, _⟩ := r; exact key _ h1
  | siter s pos => exact key _ r.2
  | miter m since seen last => obtain ⟨_, _, _, h1⟩ := r; exact key _ h1
  | loop nt fr ps assign body st => obtain ⟨_, _, h1, _⟩ := r; exact key _ h1

/-- The relation of heaps looks at the heap alone. -/
theorem RH.congr {μ : Mu} {h : H} {w w' : World} (hw : w'.heap = w.heap) (r : RH NG μ h w) : RH NG μ h w' :=
  ⟨r.ng, r.wf, fun id b l hb hl => (r.br id b l hb hl).congr (by rw [hw]), r.inj, fun id l hl => by rw [hw]; exact r.bd id l hl, r.gl⟩

/-- The world with another object at a block. -/
def setObj (w : World) (b : Nat) (o : Obj) : World := { w with heap := w.heap.setIfInBounds b o }

theorem setObj_same {w : World} {b : Nat} {o : Obj} (h : b < w.heap.size) : (setObj w b o).heap[b]? = some o := by simp [setObj, h]
theorem setObj_ne {w : World} {b b' : Nat} {o : Obj} (h : b' ≠ b) : (setObj w b o).heap[b']? = w.heap[b']? := by
  simp only [setObj]; rw [Array.getElem?_setIfInBounds_ne (Ne.symm h)]
@[simp] theorem setObj_size {w : World} {b : Nat} {o : Obj} : (setObj w b o).heap.size = w.heap.size := by simp [setObj]

/-- A block of the call's own is written. -/
theorem Step.write {μ : Mu} {h : H} {w : World} (r : RH NG μ h w) {id : Nat} {b b' : Blk} {l : Loc} (hg : h.get id = some b) (ho : b.owned = true)
    (ho' : b'.owned = true) (hl : μ id = some l) {o : Obj} (hb : BR μ b' l (setObj w l.blk o)) : Step NG μ h w μ (h.put id b') (setObj w l.blk o) where
  wf := r.wf
  le := fun _ _ h => h
  old := fun _ _ => rfl
  out := fun _ _ => rfl
  next := Nat.le_refl _
  rh := {
    ng := r.ng
    wf := fun j c hj => by
      rw [H.get_put] at hj
      split at hj
      · rename_i e; subst e; exact r.wf _ _ hg
      · exact r.wf _ _ hj
    br := fun j c m hj hm => by
      rw [H.get_put] at hj
      split at hj
      · rename_i e; subst e; simp at hj; subst hj; rw [hl] at hm; simp at hm; subst hm; exact hb
      · rename_i e
        exact (r.br j c m hj hm).congr (setObj_ne (r.inj id b l j c m hg ho hl hj hm e))
    inj := fun j c m j' c' m' hj hc hm hj' hm' hne => by
      rw [H.get_put] at hj hj'
      split at hj
      · rename_i e; subst e
        rw [if_neg hne] at hj'
        rw [hl] at hm; simp at hm; subst hm
        exact r.inj j b l j' c' m' hg ho hl hj' hm' hne
      · rename_i e
        split at hj'
        · rename_i e'; subst e'
          exact r.inj j c m j' b m' hj hc hm hg hm' hne
        · exact r.inj j c m j' c' m' hj hc hm hj' hm' hne
    bd := fun j m hm => by simpa using r.bd j m hm
    gl := r.gl }
  size := by simp
  os := rfl
  tape := rfl
  output := rfl
  frame := fun k hk hf => setObj_ne (Ne.symm (hf id b l hg ho hl))
  src := fun j c m hj hc hm => by
    rw [H.get_put] at hj
    split at hj
    · rename_i e; subst e; rw [hl] at hm; simp at hm; subst hm; exact .inr ⟨_, b, l, hg, ho, hl, rfl⟩
    · exact .inr ⟨j, c, m, hj, hc, hm, rfl⟩
  unm := fun j c hj hm => by
    rw [H.get_put, if_neg (fun e => by subst e; rw [hl] at hm; simp at hm)]; exact hj
  dead := fun j _ hj => by
    rw [H.get_put, if_neg (fun e => by subst e; rw [hg] at hj; simp at hj)]; exact hj
  ro := fun j c hj hc => by
    rw [H.get_put] at hj
    split at hj
    · simp only [Option.some.injEq] at hj; subst hj; rw [ho'] at hc; simp at hc
    · exact hj

def Mu.set (μ : Mu) (id : Nat) (l : Loc) : Mu := fun j => if j = id then some l else μ j
theorem Mu.set_same (μ : Mu) (id : Nat) (l : Loc) : μ.set id l id = some l := by simp [Mu.set]
theorem Mu.set_ne (μ : Mu) {id j : Nat} (l : Loc) (h : j ≠ id) : μ.set id l j = μ j := by simp [Mu.set, h]
theorem Mu.le_set {μ : Mu} {id : Nat} {l : Loc} (h : μ id = none) : μ.le (μ.set id l) := fun j m hj => by
  rw [Mu.set_ne _ _ (fun e => by subst e; rw [h] at hj; simp at hj)]; exact hj

/-- A new block. -/
theorem Step.push {μ : Mu} {h : H} {w w' : World} (r : RH NG μ h w) (hf : μ h.next = none) {b : Blk} (ho' : b.owned = true) {l : Loc} {o : Obj}
    (hw : w'.heap = w.heap.push o) (hos : w'.os = w.os) (ht : w'.tape = w.tape) (hout : w'.output = w.output)
    (hl : l.blk = w.heap.size) (hb : BR (μ.set h.next l) b l w') : Step NG μ h w (μ.set h.next l) (h.push b) w' := by
  have hold : ∀ k, k < w.heap.size → w'.heap[k]? = w.heap[k]? := fun k hk => by
    rw [hw, Array.getElem?_push, if_neg (by omega)]
  exact {
  wf := r.wf
  le := Mu.le_set hf
  old := fun j hj => Mu.set_ne _ _ (by omega)
  out := fun j hj => Mu.set_ne _ _ (by simp at hj; omega)
  next := by simp
  rh := {
    ng := by have := r.ng; simp; omega
    wf := fun j c hj => by
      rw [H.get_push] at hj
      split at hj
      · rename_i e; subst e; simp
      · have := r.wf _ _ hj; simp; omega
    br := fun j c m hj hm => by
      rw [H.get_push] at hj
      split at hj
      · rename_i e; subst e; simp at hj; subst hj; rw [Mu.set_same] at hm; simp at hm; subst hm; exact hb
      · rename_i e
        rw [Mu.set_ne _ _ e] at hm
        exact ((r.br j c m hj hm).congr (hold _ (r.bd _ _ hm))).mono (Mu.le_set hf)
    inj := fun j c m j' c' m' hj hc hm hj' hm' hne => by
      rw [H.get_push] at hj hj'
      split at hj
      · rename_i e; subst e
        rw [if_neg hne] at hj'
        rw [Mu.set_same] at hm; simp at hm; subst hm
        rw [Mu.set_ne _ _ hne] at hm'
        have := r.bd _ _ hm'; omega
      · rename_i e
        rw [Mu.set_ne _ _ e] at hm
        split at hj'
        · rename_i e'; subst e'
          rw [Mu.set_same] at hm'; simp at hm'; subst hm'
          have := r.bd _ _ hm; omega
        · rename_i e'
          rw [Mu.set_ne _ _ e'] at hm'
          exact r.inj j c m j' c' m' hj hc hm hj' hm' hne
    bd := fun j m hm => by
      rw [hw]; simp only [Array.size_push]
      by_cases e : j = h.next
      · subst e; rw [Mu.set_same] at hm; simp at hm; subst hm; omega
      · rw [Mu.set_ne _ _ e] at hm; have := r.bd _ _ hm; omega
    gl := fun g hgn => by
      rw [Mu.set_ne _ _ (show g ≠ h.next by have := r.ng; omega)]
      exact r.gl _ hgn }
  size := by rw [hw]; simp
  os := hos
  tape := ht
  output := hout
  frame := fun k hk _ => hold k hk
  src := fun j c m hj hc hm => by
    rw [H.get_push] at hj
    split at hj
    · rename_i e; subst e; rw [Mu.set_same] at hm; simp at hm; subst hm; exact .inl (by omega)
    · rename_i e; rw [Mu.set_ne _ _ e] at hm; exact .inr ⟨j, c, m, hj, hc, hm, rfl⟩
  unm := fun j c hj hm => by
    rw [H.get_push, if_neg (fun e => by subst e; have := r.wf _ _ hj; omega)]; exact hj
  dead := fun j hj hd => by
    rw [H.get_push, if_neg (by omega)]; exact hd
  ro := fun j c hj hc => by
    rw [H.get_push] at hj
    split at hj
    · simp only [Option.some.injEq] at hj; subst hj; rw [ho'] at hc; simp at hc
    · exact hj }

/-- What an in-place append does: the old name dies, a new one names the same block. -/
theorem Step.grow {μ : Mu} {h : H} {w : World} (r : RH NG μ h w) (hf : μ h.next = none) {id : Nat} {b b' : Blk} {l l' : Loc}
    (hg : h.get id = some b) (ho : b.owned = true) (ho' : b'.owned = true) (hl : μ id = some l) (hl' : l'.blk = l.blk) {o : Obj}
    (hb : BR (μ.set h.next l') b' l' (setObj w l.blk o)) : Step NG μ h w (μ.set h.next l') ((h.kill id).push b') (setObj w l.blk o) := by
  have hidn : id < h.next := r.wf _ _ hg
  have hget : ∀ j, ((h.kill id).push b').get j = if j = h.next then some b' else if j = id then none else h.get j := fun j => by
    rw [H.get_push, H.get_kill]; rfl
  exact {
  wf := r.wf
  le := Mu.le_set hf
  old := fun j hj => Mu.set_ne _ _ (by omega)
  out := fun j hj => Mu.set_ne _ _ (by simp at hj; omega)
  next := by simp
  rh := {
    ng := by have := r.ng; simp; omega
    wf := fun j c hj => by
      rw [hget] at hj
      split at hj
      · rename_i e; subst e; simp
      · split at hj
        · simp at hj
        · have := r.wf _ _ hj; simp; omega
    br := fun j c m hj hm => by
      rw [hget] at hj
      split at hj
      · rename_i e; subst e; simp at hj; subst hj; rw [Mu.set_same] at hm; simp at hm; subst hm; exact hb
      · rename_i e
        rw [Mu.set_ne _ _ e] at hm
        split at hj
        · simp at hj
        · rename_i e2
          exact ((r.br j c m hj hm).congr (setObj_ne (r.inj id b l j c m hg ho hl hj hm e2))).mono (Mu.le_set hf)
    inj := fun j c m j' c' m' hj hc hm hj' hm' hne => by
      rw [hget] at hj hj'
      split at hj
      · rename_i e; subst e
        rw [if_neg hne] at hj'
        rw [Mu.set_same] at hm; simp at hm; subst hm
        rw [Mu.set_ne _ _ hne] at hm'
        split at hj'
        · simp at hj'
        · rename_i e2
          rw [hl']; exact r.inj id b l j' c' m' hg ho hl hj' hm' e2
      · rename_i e
        rw [Mu.set_ne _ _ e] at hm
        split at hj
        · simp at hj
        · rename_i e2
          split at hj'
          · rename_i e'; subst e'
            rw [Mu.set_same] at hm'; simp at hm'; subst hm'
            rw [hl']; exact r.inj j c m id b l hj hc hm hg hl (Ne.symm e2)
          · rename_i e'
            rw [Mu.set_ne _ _ e'] at hm'
            split at hj'
            · simp at hj'
            · exact r.inj j c m j' c' m' hj hc hm hj' hm' hne
    bd := fun j m hm => by
      simp only [setObj_size]
      by_cases e : j = h.next
      · subst e; rw [Mu.set_same] at hm; simp at hm; subst hm; rw [hl']; exact r.bd _ _ hl
      · rw [Mu.set_ne _ _ e] at hm; exact r.bd _ _ hm
    gl := fun g hgn => by
      rw [Mu.set_ne _ _ (show g ≠ h.next by have := r.ng; omega)]
      exact r.gl _ hgn }
  size := by simp
  os := rfl
  tape := rfl
  output := rfl
  frame := fun k hk hf => setObj_ne (Ne.symm (hf id b l hg ho hl))
  src := fun j c m hj hc hm => by
    rw [hget] at hj
    split at hj
    · rename_i e; subst e; rw [Mu.set_same] at hm; simp at hm; subst hm; exact .inr ⟨id, b, l, hg, ho, hl, hl'.symm⟩
    · rename_i e
      rw [Mu.set_ne _ _ e] at hm
      split at hj
      · simp at hj
      · exact .inr ⟨j, c, m, hj, hc, hm, rfl⟩
  unm := fun j c hj hm => by
    have hlt := r.wf _ _ hj
    rw [hget, if_neg (by omega), if_neg (fun e => by subst e; rw [hl] at hm; simp at hm)]; exact hj
  dead := fun j hj hd => by
    rw [hget, if_neg (by omega)]
    split
    · rfl
    · exact hd
  ro := fun j c hj hc => by
    rw [hget] at hj
    split at hj
    · simp only [Option.some.injEq] at hj; subst hj; rw [ho'] at hc; simp at hc
    · split at hj
      · simp at hj
      · exact hj }

/-- A block that is moved by an append: the old name dies, a new one names a new block. -/
theorem Step.kill {μ : Mu} {h : H} {w : World} (r : RH NG μ h w) (id : Nat) (b : Blk) (l : Loc) (hg : h.get id = some b) (hl : μ id = some l) :
    Step NG μ h w μ (h.kill id) w where
  wf := r.wf
  le := fun _ _ h => h
  old := fun _ _ => rfl
  out := fun _ _ => rfl
  next := Nat.le_refl _
  rh := {
    ng := r.ng
    wf := fun j c hj => by rw [H.get_kill] at hj; split at hj; · simp at hj
                           · exact r.wf _ _ hj
    br := fun j c m hj hm => by rw [H.get_kill] at hj; split at hj; · simp at hj
                                · exact r.br _ _ _ hj hm
    inj := fun j c m j' c' m' hj hc hm hj' hm' hne => by
      rw [H.get_kill] at hj hj'
      split at hj
      · simp at hj
      · split at hj'
        · simp at hj'
        · exact r.inj j c m j' c' m' hj hc hm hj' hm' hne
    bd := r.bd
    gl := r.gl }
  size := Nat.le_refl _
  os := rfl
  tape := rfl
  output := rfl
  frame := fun _ _ _ => rfl
  src := fun j c m hj hc hm => by
    rw [H.get_kill] at hj
    split at hj
    · simp at hj
    · exact .inr ⟨j, c, m, hj, hc, hm, rfl⟩
  unm := fun j c hj hm => by
    rw [H.get_kill, if_neg (fun e => by subst e; rw [hl] at hm; simp at hm)]; exact hj
  dead := fun j _ hj => by
    rw [H.get_kill]; split
    · rfl
    · exact hj
  ro := fun j c hj _ => by
    rw [H.get_kill] at hj
    split at hj
    · simp at hj
    · exact hj

/-! Loads and stores of the model at a row of cells. -/
section
variable (P : Program)

theorem add_plain (b o i : Nat) : (⟨b, o, none⟩ : Addr).add i = ⟨b, o + i, none⟩ := by unfold Addr.add; split <;> simp_all

theorem load_row (w : World) (b o : Nat) (ccs : Array Value) (ty : TypeId) (fz : Nat × Nat) (hb : w.heap[b]? = some (.cells ccs ty fz)) (n : Nat)
    (hn : o + n ≤ ccs.size) : (loadCells ⟨b, o, none⟩ n).run P w = .ok ⟨(ccs.toList.drop o).take n⟩ w := by
  have hlen : ((ccs.toList.drop o).take n).length = n := by simp; omega
  have := run_loadCells_list (P := P) w ⟨b, o, none⟩ ((ccs.toList.drop o).take n) (fun j v hv => by
    rw [add_plain]
    simp only [World.cell?, hb, Option.isSome_none, Bool.false_eq_true, if_false]
    rw [List.getElem?_take] at hv
    split at hv
    · rw [List.getElem?_drop] at hv
      rw [← Array.getElem?_toList]; exact hv
    · simp at hv)
  rw [hlen] at this
  exact this

theorem load_one (w : World) (b o : Nat) (ccs : Array Value) (ty : TypeId) (fz : Nat × Nat) (hb : w.heap[b]? = some (.cells ccs ty fz)) (v : Value)
    (hv : ccs[o]? = some v) : (load ⟨b, o, none⟩).run P w = .ok v w := by
  have : w.cell? ⟨b, o, none⟩ = some v := by simp [World.cell?, hb, hv]
  simp [this]

theorem store_one (w : World) (b o : Nat) (ccs : Array Value) (ty : TypeId) (fz : Nat × Nat) (hb : w.heap[b]? = some (.cells ccs ty fz))
    (ho : o < ccs.size) (hfz : ¬ (fz.1 ≤ o ∧ o < fz.2)) (v : Value) (hv : cellish v = true) :
    (store ⟨b, o, none⟩ v).run P w = .ok () (setObj w b (.cells (ccs.setIfInBounds o v) ty fz)) := by
  have hlt : b < w.heap.size := (Array.getElem?_eq_some_iff.1 hb).1
  have hvv : w.heap[b] = .cells ccs ty fz := (Array.getElem?_eq_some_iff.1 hb).2
  have hcell : w.cell? ⟨b, o, none⟩ = some ccs[o] := by simp [World.cell?, hb, ho]
  have hfro : w.frozen? ⟨b, o, none⟩ = false := by
    simp only [World.frozen?, hb]
    by_cases h1 : fz.1 ≤ o
    · have h2 : ¬ o < fz.2 := fun h2 => hfz ⟨h1, h2⟩
      simp [h2]
    · simp [h1]
  have h1 : v.oneCell' = true := by cases v <;> simp_all [cellish, Value.oneCell']
  rw [run_store P w _ v _ h1, hcell]
  simp only [hfro, Bool.false_eq_true, if_false]
  congr 1
  simp only [World.setCell, setObj, Option.isSome_none, Bool.false_eq_true, if_false]
  congr 1
  apply Array.ext_getElem?
  intro i
  rw [Array.getElem?_modify, Array.getElem?_setIfInBounds]
  by_cases hi : b = i
  · subst hi; simp [hlt, hvv]
  · simp [hi]

/-- The cells of a list with others in their middle. -/
def splice (cs : List Value) (o : Nat) (vs : List Value) : List Value := cs.take o ++ vs ++ cs.drop (o + vs.length)

theorem splice_length (cs : List Value) (o : Nat) (vs : List Value) (h : o + vs.length ≤ cs.length) : (splice cs o vs).length = cs.length := by
  simp [splice]; omega

theorem splice_get (cs : List Value) (o : Nat) (vs : List Value) (h : o + vs.length ≤ cs.length) (i : Nat) :
    (splice cs o vs)[i]? = if i < o then cs[i]? else if i < o + vs.length then vs[i - o]? else cs[i]? := by
  unfold splice
  by_cases h1 : i < o
  · rw [if_pos h1, List.append_assoc, List.getElem?_append_left (by simp; omega), List.getElem?_take, if_pos h1]
  · rw [if_neg h1]
    by_cases h2 : i < o + vs.length
    · rw [if_pos h2, List.append_assoc, List.getElem?_append_right (by simp; omega), List.getElem?_append_left (by simp; omega)]
      congr 1; simp; omega
    · rw [if_neg h2, List.getElem?_append_right (by simp; omega), List.getElem?_drop]
      congr 1; simp; omega

theorem splice_cons (cs : List Value) (o : Nat) (v : Value) (vs : List Value) (h : o + (vs.length + 1) ≤ cs.length) :
    splice (cs.set o v) (o + 1) vs = splice cs o (v :: vs) := by
  apply List.ext_getElem?
  intro i
  rw [splice_get _ _ _ (by simp; omega), splice_get _ _ _ (by simpa using h)]
  simp only [List.length_cons, List.getElem?_set]
  by_cases h1 : i < o
  · rw [if_pos (by omega), if_neg (by omega), if_pos h1]
  · by_cases h2 : i = o
    · subst h2
      have : i < cs.length := by omega
      simp [this]
    · rw [if_neg (by omega), if_neg h1]
      by_cases h3 : i < o + 1 + vs.length
      · rw [if_pos h3, if_pos (by omega)]
        rw [show i - o = (i - (o + 1)) + 1 by omega]; rfl
      · rw [if_neg h3, if_neg (by omega), if_neg (by omega)]

theorem store_row : ∀ (vs : List Value) (w : World) (b o i : Nat) (ccs : Array Value) (ty : TypeId) (fz : Nat × Nat), w.heap[b]? = some (.cells ccs ty fz) →
    o + i + vs.length ≤ ccs.size → (∀ j, j < ccs.size → ¬ (fz.1 ≤ j ∧ j < fz.2)) → (∀ v ∈ vs, cellish v = true) →
    (storeCells ⟨b, o, none⟩ vs i).run P w = .ok () (setObj w b (.cells ⟨splice ccs.toList (o + i) vs⟩ ty fz))
  | [], w, b, o, i, ccs, ty, fz, hb, hn, hfz, hv => by
    have hlt : b < w.heap.size := (Array.getElem?_eq_some_iff.1 hb).1
    have hvv : w.heap[b] = .cells ccs ty fz := (Array.getElem?_eq_some_iff.1 hb).2
    have e : splice ccs.toList (o + i) [] = ccs.toList := by simp [splice]
    rw [e]
    have : setObj w b (.cells ⟨ccs.toList⟩ ty fz) = w := by
      simp only [setObj]
      have : w.heap.setIfInBounds b (.cells ⟨ccs.toList⟩ ty fz) = w.heap := by
        apply Array.ext_getElem?
        intro j
        rw [Array.getElem?_setIfInBounds]
        split
        · rename_i hj; subst hj; simp [hlt, hvv]
        · rfl
      rw [this]
    rw [this]; rfl
  | v :: vs, w, b, o, i, ccs, ty, fz, hb, hn, hfz, hv => by
    have hlt : b < w.heap.size := (Array.getElem?_eq_some_iff.1 hb).1
    have ho : o + i < ccs.size := by simp at hn; omega
    have h1 := store_one P w b (o + i) ccs ty fz hb ho (hfz _ ho) v (hv v (by simp))
    have ih := store_row vs (setObj w b (.cells (ccs.setIfInBounds (o + i) v) ty fz)) b o (i + 1) (ccs.setIfInBounds (o + i) v) ty fz
      (setObj_same hlt) (by simp at hn ⊢; omega) (by simpa using hfz) (fun x hx => hv x (by simp [hx]))
    simp only [storeCells, add_plain, Sem.run_bind, h1, Result.andThen_ok, ih]
    congr 1
    simp only [setObj, Array.setIfInBounds_setIfInBounds]
    congr 3
    simp only [Array.toList_setIfInBounds]
    rw [show o + (i + 1) = o + i + 1 by omega, splice_cons _ _ _ _ (by simp at hn ⊢; omega)]
end
end Go.AM
