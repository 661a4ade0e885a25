/-
  An abstract machine for the model: a region that draws its order: the invariant, and its steps.
-/
import Derived.Test.YtkiagdpknegcbaaGreatDoorAdDraw3
namespace Go.AM
open Go

section
variable {P : Program} {NG nt : Nat} {C : CF} {ops : Array Oper} {F : Nat → T Value} {Hh : Nat → H} {rv : Nat → Option Value}

def evalE (NG : Nat) (g : Tmp → Option Value) : Operand → Option Value
  | .tmp t => g t
  | x => evalA NG .nil ⟨.nil, 0⟩ x

/-- What is kept, where the operations of D have run. -/
structure Inv (P : Program) (NG nt : Nat) (ops : Array Oper) (F : Nat → T Value) (Hh : Nat → H) (rv : Nat → Option Value) (μ0 : Mu) (a0 : Act) (w0 : World)
    (D : Nat → Bool) (a : Act) (w : World) (μ : Mu) (p : Nat) : Prop where
  closed : ∀ (j : Nat) (o : Oper), D j = true → ops[j]? = some o → ∀ e ∈ o.after.toList, Region.binds .any e = true → D e.on = true
  dlt : ∀ j, D j = true → j < ops.size
  pn : p ≤ ops.size
  pE : ∀ i, i < p → Eff P ops F i → D i = true
  pNext : p = ops.size ∨ (Eff P ops F p ∧ D p = false)
  wfs : ∀ i, i ≤ p → Wf (Hh i)
  rh : RH NG μ (Hh p) w
  sz : nt ≤ a.tmps.size
  regs : ∀ (t : Tmp) (v : Value), env ops (F 0) rv D ops.size t = some v → t < nt ∧ VR μ v (a.tmps.getD t undef)
  dfr : a.defers = a0.defers
  mk1 : ∀ i b, Mk P ops F Hh i b → D i = true → ∃ l, μ (Hh i).next = some l ∧ w0.heap.size ≤ l.blk ∧ (p ≤ i → BR μ b l w ∧
      (∀ id' b' l', (Hh p).get id' = some b' → μ id' = some l' → l'.blk ≠ l.blk) ∧
      (∀ i' b', i' ≠ i → Mk P ops F Hh i' b' → D i' = true → p ≤ i' → ∀ l', μ (Hh i').next = some l' → l'.blk ≠ l.blk))
  mk2 : ∀ i b, Mk P ops F Hh i b → D i = false → μ (Hh i).next = none ∧ (i < p → (Hh p).get (Hh i).next = some b)
  fresh : ∀ id, (Hh p).next ≤ id → id < (Hh ops.size).next → (∀ i b, Mk P ops F Hh i b → D i = true → id ≠ (Hh i).next) → μ id = none
  le0 : μ0.le μ
  old0 : ∀ id, id < (Hh 0).next → μ id = μ0 id
  out0 : ∀ id, (Hh ops.size).next ≤ id → μ id = μ0 id
  size0 : w0.heap.size ≤ w.heap.size
  os0 : w.os = w0.os
  tape0 : w.tape = w0.tape
  output0 : w.output = w0.output
  frame0 : ∀ b, b < w0.heap.size → (∀ id k l, (Hh 0).get id = some k → k.owned = true → μ0 id = some l → l.blk ≠ b) → w.heap[b]? = w0.heap[b]?
  src0 : ∀ id k l, (Hh p).get id = some k → k.owned = true → μ id = some l → w0.heap.size ≤ l.blk ∨ ∃ id0 k0 l0, (Hh 0).get id0 = some k0 ∧ k0.owned = true ∧ μ0 id0 = some l0 ∧ l0.blk = l.blk
  unm0 : ∀ id k, (Hh 0).get id = some k → μ0 id = none → (Hh p).get id = some k
  dead0 : ∀ id, id < (Hh 0).next → (Hh 0).get id = none → (Hh p).get id = none
  ro0 : ∀ id k, (Hh p).get id = some k → k.owned = false → (Hh 0).get id = some k

def add (D : Nat → Bool) (j : Nat) : Nat → Bool := fun i => if i = j then true else D i
theorem add_same (D : Nat → Bool) (j : Nat) : add D j j = true := by simp [add]
theorem add_ne (D : Nat → Bool) {i j : Nat} (h : i ≠ j) : add D j i = D i := by simp [add, h]

theorem add_mono (D : Nat → Bool) (j : Nat) {i : Nat} (h : D i = true) : add D j i = true := by
  unfold add; split
  · rfl
  · exact h

theorem closed_pred {D : Nat → Bool} (hcl : ∀ (j : Nat) (o : Oper), D j = true → ops[j]? = some o → ∀ e ∈ o.after.toList, Region.binds .any e = true → D e.on = true) :
    ∀ (j i : Nat), D j = true → Pred ops j i → D i = true := by
  intro j
  induction j using Nat.strongRecOn with
  | _ j ih =>
    intro i hD hp
    obtain ⟨o, ho, e, he, hb, hx⟩ := pred_edge hp
    have hDe := hcl j o hD ho e he hb
    rcases hx with hx | ⟨hlt, hx⟩
    · rw [← hx]; exact hDe
    · exact ih e.on hlt i hDe hx

theorem ready_pred {D : Nat → Bool} (hcl : ∀ (j : Nat) (o : Oper), D j = true → ops[j]? = some o → ∀ e ∈ o.after.toList, Region.binds .any e = true → D e.on = true)
    {j : Nat} {o : Oper} (ho : ops[j]? = some o) (hr : ∀ e ∈ o.after.toList, Region.binds .any e = true → D e.on = true) {i : Nat} (hp : Pred ops j i) : D i = true := by
  obtain ⟨o', ho', e, he, hb, hx⟩ := pred_edge hp
  have : o' = o := by rw [ho] at ho'; simpa using ho'.symm
  subst this
  have hDe := hr e he hb
  rcases hx with hx | ⟨_, hx⟩
  · rw [← hx]; exact hDe
  · exact closed_pred hcl _ i hDe hx

/-- The text's frame, as the writes ahead of it. -/
theorem Trace.env_at (tr : Trace P C NG ops F Hh rv) (t : Tmp) : ∀ (i : Nat), i ≤ ops.size → env ops (F 0) rv (fun _ => true) i t = (F i).get t
  | 0, _ => rfl
  | i + 1, h => by
    obtain ⟨o, ho, hg, _⟩ := tr.row i (by omega)
    rw [hg t, env, ← tr.env_at t i (by omega)]
    simp [dstAt, ho]

section
variable {D : Nat → Bool} {j : Nat} {o : Oper}

/-- Who writes a slot that a ready operation names. -/
theorem writers (DF : DrawFacts P ops) (hcl : ∀ (j : Nat) (o : Oper), D j = true → ops[j]? = some o → ∀ e ∈ o.after.toList, Region.binds .any e = true → D e.on = true)
    (hj : D j = false) (ho : ops[j]? = some o) (hr : ∀ e ∈ o.after.toList, Region.binds .any e = true → D e.on = true) {t : Tmp} (ht : t ∈ tmpsOf o ops ∨ o.dst = some t)
    {i : Nat} (hi : dstAt ops i = some t) (hne : i ≠ j) : D i = decide (i < j) := by
  obtain ⟨oi, hoi, hdi⟩ : ∃ oi, ops[i]? = some oi ∧ oi.dst = some t := by
    unfold dstAt at hi
    cases hq : ops[i]? with
    | none => simp [hq] at hi
    | some oi => exact ⟨oi, rfl, by simpa [hq] using hi⟩
  have hp := DF.regs i j oi o t hoi ho hdi hne ht
  rcases Nat.lt_or_gt_of_ne hne with hlt | hgt
  · rw [Nat.max_eq_right (by omega), Nat.min_eq_left (by omega)] at hp
    rw [ready_pred hcl ho hr hp]; simp [hlt]
  · rw [Nat.max_eq_left (by omega), Nat.min_eq_right (by omega)] at hp
    cases hDi : D i with
    | true =>
      have := closed_pred hcl i j hDi hp
      rw [hj] at this; simp at this
    | false => simp; omega

theorem env_look (tr : Trace P C NG ops F Hh rv) (DF : DrawFacts P ops) (hcl : ∀ (j : Nat) (o : Oper), D j = true → ops[j]? = some o → ∀ e ∈ o.after.toList, Region.binds .any e = true → D e.on = true)
    (hj : D j = false) (ho : ops[j]? = some o) (hr : ∀ e ∈ o.after.toList, Region.binds .any e = true → D e.on = true) {t : Tmp} (ht : t ∈ tmpsOf o ops) :
    env ops (F 0) rv D ops.size t = (F j).get t := by
  have hlt : j < ops.size := (Array.getElem?_eq_some_iff.1 ho).1
  rw [env_skip t j ops.size (by omega) (fun i h1 h2 hd => ?_), ← tr.env_at t j (by omega)]
  · refine env_congr t j fun i hi hd => ?_
    rw [writers DF hcl hj ho hr (.inl ht) hd (by omega)]; simp [hi]
  · by_cases e : i = j
    · rw [e]; exact hj
    · rw [writers DF hcl hj ho hr (.inl ht) hd e]; simp; omega

theorem env_add (DF : DrawFacts P ops) (hcl : ∀ (j : Nat) (o : Oper), D j = true → ops[j]? = some o → ∀ e ∈ o.after.toList, Region.binds .any e = true → D e.on = true)
    (hj : D j = false) (ho : ops[j]? = some o) (hr : ∀ e ∈ o.after.toList, Region.binds .any e = true → D e.on = true) (f0 : T Value) (t : Tmp) :
    env ops f0 rv (add D j) ops.size t = if o.dst = some t then rv j else env ops f0 rv D ops.size t := by
  have hlt : j < ops.size := (Array.getElem?_eq_some_iff.1 ho).1
  by_cases hd : o.dst = some t
  · rw [if_pos hd]
    rw [env_skip t (j + 1) ops.size (by omega) (fun i h1 h2 hdi => ?_)]
    · simp only [env]
      rw [if_pos ⟨add_same D j, by simp [dstAt, ho, hd]⟩]
    · rw [add_ne D (by omega), writers DF hcl hj ho hr (.inr hd) hdi (by omega)]; simp; omega
  · rw [if_neg hd]
    refine env_congr t ops.size fun i hi hdi => ?_
    rw [add_ne D (fun e => by subst e; simp [dstAt, ho, hd] at hdi)]
end

section
variable {μ0 : Mu} {a0 : Act} {w0 : World} {D : Nat → Bool} {a : Act} {w : World} {μ : Mu} {p : Nat}

theorem Inv.ev (inv : Inv P NG nt ops F Hh rv μ0 a0 w0 D a w μ p) : EvR μ (evalE NG (env ops (F 0) rv D ops.size)) a := by
  intro x v hv
  cases x with
  | tmp t => exact (inv.regs t v hv).2
  | const u =>
    simp only [evalE, evalA] at hv
    obtain ⟨hp, hv⟩ := cond_some hv
    simp only [Option.some.injEq] at hv; subst hv
    exact VR.of_plain μ _ hp
  | global g =>
    simp only [evalE, evalA] at hv
    obtain ⟨hg, hv⟩ := cond_some hv
    simp only [Option.some.injEq] at hv; subst hv
    obtain ⟨l, hl, e1, e2⟩ := inv.rh.gl g (blt_iff.1 hg)
    have := VR.ptr (off := 0) hl
    rw [e1, e2] at this
    exact this
  | func f =>
    simp only [evalE, evalA, Option.some.injEq] at hv; subst hv
    exact .func f [] [] [] [] rfl rfl (by simp) (by simp)

/-- The operation's operands read as in the text's run. -/
theorem Inv.look (inv : Inv P NG nt ops F Hh rv μ0 a0 w0 D a w μ p) (tr : Trace P C NG ops F Hh rv) (DF : DrawFacts P ops) {j : Nat} {o : Oper} (hj : D j = false) (ho : ops[j]? = some o)
    (hr : ∀ e ∈ o.after.toList, Region.binds .any e = true → D e.on = true) (X : H) : ∀ x ∈ o.op.operands, evalA NG (F j) X x = evalE NG (env ops (F 0) rv D ops.size) x := by
  intro x hx
  cases x with
  | tmp t =>
    simp only [evalA, evalE]
    rw [env_look tr DF inv.closed hj ho hr]
    unfold tmpsOf
    exact List.mem_append_left _ (List.mem_filterMap.2 ⟨.tmp t, by simpa using hx, rfl⟩)
  | _ => rfl

/-- Whether it is wanted, as in the text's run. -/
theorem Inv.wanted (inv : Inv P NG nt ops F Hh rv μ0 a0 w0 D a w μ p) (tr : Trace P C NG ops F Hh rv) (DF : DrawFacts P ops) {j : Nat} {o : Oper} (hj : D j = false) (ho : ops[j]? = some o)
    (hr : ∀ e ∈ o.after.toList, Region.binds .any e = true → D e.on = true) {b : Bool} (hw : wantedB (F j) ops o = some b) : Region.wanted o (yielded ops a.tmps) = b := by
  unfold wantedB at hw
  split at hw
  · rename_i hg; simp only [Option.some.injEq] at hw; subst hw; simp [Region.wanted, hg]
  · rename_i g want hg
    split at hw
    · simp at hw
    · rename_i d hd
      have he := env_look tr DF inv.closed hj ho hr (t := d) (by unfold tmpsOf; rw [hg]; simp [hd])
      have fr : ∀ v, (F j).get d = some v → d < nt ∧ VR μ v (a.tmps.getD d undef) := fun v hv => inv.regs d v (by rw [he]; exact hv)
      split at hw
      · rename_i x hx
        simp only [Option.some.injEq] at hw; subst hw
        obtain ⟨h1, h2⟩ := fr _ hx
        have hlt : d < a.tmps.size := Nat.lt_of_lt_of_le h1 inv.sz
        have e : a.tmps[d]? = some (a.tmps.getD d undef) := by
          rw [Array.getElem?_eq_getElem hlt]
          simp only [Array.getD_eq_getD_getElem?, Array.getElem?_eq_getElem hlt, Option.getD_some]
        simp only [Region.wanted, hg, Go.yielded, hd, Option.bind_some, e, h2.bool_inv]
        cases x <;> cases want <;> rfl
      · rename_i vs hx
        simp only [Option.some.injEq] at hw; subst hw
        obtain ⟨h1, h2⟩ := fr _ hx
        have hlt : d < a.tmps.size := Nat.lt_of_lt_of_le h1 inv.sz
        have e : a.tmps[d]? = some (a.tmps.getD d undef) := by
          rw [Array.getElem?_eq_getElem hlt]
          simp only [Array.getD_eq_getD_getElem?, Array.getElem?_eq_getElem hlt, Option.getD_some]
        simp only [Region.wanted, hg, Go.yielded, hd, Option.bind_some, e]
        generalize a.tmps.getD d undef = u at h2
        cases h2; rfl
      · simp at hw

/-- The slots behind an operation. -/
theorem Inv.regs_add (inv : Inv P NG nt ops F Hh rv μ0 a0 w0 D a w μ p) (DF : DrawFacts P ops) (hd : dstOK nt ops = true) {j : Nat} {o : Oper} (hj : D j = false) (ho : ops[j]? = some o)
    (hr : ∀ e ∈ o.after.toList, Region.binds .any e = true → D e.on = true) {μ' : Mu} (hle : μ.le μ') {cv : Value} (hv : RV μ' (rv j) cv) :
    ∀ (t : Tmp) (v : Value), env ops (F 0) rv (add D j) ops.size t = some v → t < nt ∧ VR μ' v ((a.put o.dst cv).tmps.getD t undef) := by
  intro t v ht
  rw [env_add DF inv.closed hj ho hr] at ht
  split at ht
  · rename_i hdt
    have htn := dst_lt hd ho t hdt
    have hts : t < a.tmps.size := Nat.lt_of_lt_of_le htn inv.sz
    refine ⟨htn, ?_⟩
    rw [ht] at hv
    simp only [hdt, Act.put, Array.getD_eq_getD_getElem?, Array.getElem?_setIfInBounds, hts, if_true, Option.getD_some]
    exact hv
  · rename_i hdt
    obtain ⟨h1, h2⟩ := inv.regs t v ht
    refine ⟨h1, ?_⟩
    have : (a.put o.dst cv).tmps.getD t undef = a.tmps.getD t undef := by
      cases hdo : o.dst with
      | none => rfl
      | some d =>
        have hne : d ≠ t := fun e => hdt (by rw [hdo, e])
        simp only [Act.put, Array.getD_eq_getD_getElem?, Array.getElem?_setIfInBounds_ne hne]
    rw [this]; exact h2.mono hle

theorem closed_add {j : Nat} {o : Oper} (hcl : ∀ (j : Nat) (o : Oper), D j = true → ops[j]? = some o → ∀ e ∈ o.after.toList, Region.binds .any e = true → D e.on = true)
    (ho : ops[j]? = some o) (hr : ∀ e ∈ o.after.toList, Region.binds .any e = true → D e.on = true) :
    ∀ (i : Nat) (o' : Oper), add D j i = true → ops[i]? = some o' → ∀ e ∈ o'.after.toList, Region.binds .any e = true → add D j e.on = true := by
  intro i o' hD ho' e he hb
  have key : D e.on = true := by
    by_cases hi : i = j
    · subst hi
      have : o' = o := by rw [ho] at ho'; simpa using ho'.symm
      subst this
      exact hr e he hb
    · rw [add_ne D hi] at hD
      exact hcl i o' hD ho' e he hb
  unfold add
  split
  · rfl
  · exact key

/-- A step that leaves the text's heap alone. -/
theorem Inv.quiet (inv : Inv P NG nt ops F Hh rv μ0 a0 w0 D a w μ p) (DF : DrawFacts P ops) (hd : dstOK nt ops = true) {j : Nat} {o : Oper} (hj : D j = false) (ho : ops[j]? = some o)
    (hr : ∀ e ∈ o.after.toList, Region.binds .any e = true → D e.on = true) (hne : ¬ Eff P ops F j) (hnm : ∀ b, ¬ Mk P ops F Hh j b)
    {w' : World} {cv : Value} (hrh : RH NG μ (Hh p) w') (hsz : w.heap.size ≤ w'.heap.size) (hos : w'.os = w.os) (htp : w'.tape = w.tape) (hout : w'.output = w.output)
    (hfr : ∀ b, b < w.heap.size → (∀ id k l, (Hh p).get id = some k → k.owned = true → μ id = some l → l.blk ≠ b) → w'.heap[b]? = w.heap[b]?) (hv : RV μ (rv j) cv) :
    Inv P NG nt ops F Hh rv μ0 a0 w0 (add D j) (a.put o.dst cv) w' μ p where
  closed := closed_add inv.closed ho hr
  dlt := fun i hi => by
    by_cases e : i = j
    · subst e; exact (Array.getElem?_eq_some_iff.1 ho).1
    · rw [add_ne D e] at hi; exact inv.dlt i hi
  pn := inv.pn
  pE := fun i hi he => by
    unfold add; split
    · rfl
    · exact inv.pE i hi he
  pNext := by
    rcases inv.pNext with h | ⟨h1, h2⟩
    · exact .inl h
    · have hpj : p ≠ j := fun e => by subst e; exact hne h1
      exact .inr ⟨h1, by rw [add_ne D hpj]; exact h2⟩
  wfs := inv.wfs
  rh := hrh
  sz := by
    have := inv.sz
    cases hdo : o.dst <;> simp [Act.put] <;> exact this
  regs := inv.regs_add DF hd hj ho hr (fun _ _ h => h) hv
  dfr := (put_defers _ _ _).trans inv.dfr
  mk1 := fun i b hm hi => by
    have hij : i ≠ j := fun e => hnm b (e ▸ hm)
    rw [add_ne D hij] at hi
    obtain ⟨l, h1, h2, h3⟩ := inv.mk1 i b hm hi
    refine ⟨l, h1, h2, fun hp => ?_⟩
    obtain ⟨h4, h5, h6⟩ := h3 hp
    refine ⟨h4.congr (hfr _ (inv.rh.bd _ _ h1) (fun id k l' hk _ hl => h5 id k l' hk hl)), h5, fun i' b' hne' hm' hi' hp' => ?_⟩
    have hij' : i' ≠ j := fun e => hnm b' (e ▸ hm')
    rw [add_ne D hij'] at hi'
    exact h6 i' b' hne' hm' hi' hp'
  mk2 := fun i b hm hi => by
    have hij : i ≠ j := fun e => hnm b (e ▸ hm)
    rw [add_ne D hij] at hi
    exact inv.mk2 i b hm hi
  fresh := fun id h1 h2 h3 => inv.fresh id h1 h2 fun i b hm hi => h3 i b hm (add_mono D j hi)
  le0 := inv.le0
  old0 := inv.old0
  out0 := inv.out0
  size0 := Nat.le_trans inv.size0 hsz
  os0 := hos.trans inv.os0
  tape0 := htp.trans inv.tape0
  output0 := hout.trans inv.output0
  frame0 := fun b hb hn => by
    rw [hfr b (Nat.lt_of_lt_of_le hb inv.size0) ?_, inv.frame0 b hb hn]
    intro id k l hk ho hl e
    rcases inv.src0 id k l hk ho hl with h | ⟨id0, k0, l0, g1, g2, g3, g4⟩
    · omega
    · exact hn id0 k0 l0 g1 g2 g3 (g4.trans e)
  src0 := inv.src0
  unm0 := inv.unm0
  dead0 := inv.dead0
  ro0 := inv.ro0

/-- A step that makes a block. -/
theorem Inv.make (inv : Inv P NG nt ops F Hh rv μ0 a0 w0 D a w μ p) (DF : DrawFacts P ops) (hd : dstOK nt ops = true) {j : Nat} {o : Oper} (hj : D j = false) (ho : ops[j]? = some o)
    (hr : ∀ e ∈ o.after.toList, Region.binds .any e = true → D e.on = true) (hne : ¬ Eff P ops F j) {b : Blk} (hm : Mk P ops F Hh j b)
    (hmono : ∀ i i', i ≤ i' → i' ≤ ops.size → (Hh i).next ≤ (Hh i').next) (hng : NG ≤ (Hh 0).next)
    {w' : World} {cv : Value} {μ' : Mu} {l : Loc} (hl : μ' (Hh j).next = some l) (hlb : w.heap.size ≤ l.blk) (hb : BR μ' b l w') (hoth : ∀ id, id ≠ (Hh j).next → μ' id = μ id)
    (hbd : ∀ id l, μ' id = some l → l.blk < w'.heap.size)
    (hsz : w.heap.size ≤ w'.heap.size) (hos : w'.os = w.os) (htp : w'.tape = w.tape) (hout : w'.output = w.output)
    (hfr : ∀ b, b < w.heap.size → w'.heap[b]? = w.heap[b]?) (hv : RV μ' (rv j) cv) :
    Inv P NG nt ops F Hh rv μ0 a0 w0 (add D j) (a.put o.dst cv) w' μ' p := by
  have hjn : j < ops.size := (Array.getElem?_eq_some_iff.1 ho).1
  obtain ⟨hun, hmem⟩ := inv.mk2 j b hm hj
  have hle : μ.le μ' := fun id m hid => by
    by_cases e : id = (Hh j).next
    · rw [e, hun] at hid; simp at hid
    · rw [hoth id e]; exact hid
  have hnext : (Hh (j + 1)).next = (Hh j).next + 1 := by rw [hm.2.2]; simp
  have ids : ∀ i b', Mk P ops F Hh i b' → i ≠ j → (Hh i).next ≠ (Hh j).next := by
    intro i b' hm' hij
    have hn' : (Hh (i + 1)).next = (Hh i).next + 1 := by rw [hm'.2.2]; simp
    obtain ⟨o', ho'⟩ := hm'.1
    have hin := ho'.lt
    rcases Nat.lt_or_gt_of_ne hij with h | h
    · have := hmono (i + 1) j (by omega) (by omega); omega
    · have := hmono (j + 1) i (by omega) (by omega); omega
  have hj0 : (Hh 0).next ≤ (Hh j).next := hmono 0 j (by omega) (by omega)
  -- the new block among those of the heap
  have heap_new : ∀ b', (Hh p).get (Hh j).next = some b' → j < p := by
    intro b' hb'
    rcases Nat.lt_or_ge j p with h | h
    · exact h
    · have h1 := inv.rh.wf _ _ hb'
      have h2 := hmono p j h (by omega)
      omega
  have hdisj : ∀ id m, μ id = some m → m.blk ≠ l.blk := fun id m hid => by have := inv.rh.bd id m hid; omega
  exact {
  closed := closed_add inv.closed ho hr
  dlt := fun i hi => by
    by_cases e : i = j
    · subst e; exact hjn
    · rw [add_ne D e] at hi; exact inv.dlt i hi
  pn := inv.pn
  pE := fun i hi he => add_mono D j (inv.pE i hi he)
  pNext := by
    rcases inv.pNext with h | ⟨h1, h2⟩
    · exact .inl h
    · have hpj : p ≠ j := fun e => by subst e; exact hne h1
      exact .inr ⟨h1, by rw [add_ne D hpj]; exact h2⟩
  wfs := inv.wfs
  rh := {
    ng := inv.rh.ng
    wf := inv.rh.wf
    br := fun id c m hc hid => by
      by_cases e : id = (Hh j).next
      · subst e
        have hjp := heap_new c hc
        have := hmem hjp
        rw [this] at hc; simp only [Option.some.injEq] at hc; subst hc
        rw [hl] at hid; simp only [Option.some.injEq] at hid; subst hid
        exact hb
      · rw [hoth id e] at hid
        exact ((inv.rh.br id c m hc hid).congr (hfr _ (inv.rh.bd _ _ hid))).mono hle
    inj := fun id c m id' c' m' hc hco hid hc' hid' hne' => by
      by_cases e : id = (Hh j).next
      · subst e
        rw [hl] at hid; simp only [Option.some.injEq] at hid; subst hid
        rw [hoth id' hne'] at hid'
        exact hdisj id' m' hid'
      · rw [hoth id e] at hid
        by_cases e' : id' = (Hh j).next
        · subst e'
          rw [hl] at hid'; simp only [Option.some.injEq] at hid'; subst hid'
          exact fun x => hdisj id m hid x.symm
        · rw [hoth id' e'] at hid'
          exact inv.rh.inj id c m id' c' m' hc hco hid hc' hid' hne'
    bd := hbd
    gl := fun g hg => by
      rw [hoth g (by omega)]
      exact inv.rh.gl g hg }
  sz := by
    have := inv.sz
    cases hdo : o.dst <;> simp [Act.put] <;> exact this
  regs := inv.regs_add DF hd hj ho hr hle hv
  dfr := (put_defers _ _ _).trans inv.dfr
  mk1 := fun i b' hm' hi => by
    by_cases hij : i = j
    · subst hij
      have hbb : b' = b := by
        have e1 := hm'.2.2
        rw [hm.2.2] at e1
        have e2 : ((Hh i).push b).get (Hh i).next = ((Hh i).push b').get (Hh i).next := by rw [e1]
        rw [H.get_push, H.get_push, if_pos rfl, if_pos rfl] at e2
        simpa using e2.symm
      subst hbb
      refine ⟨l, hl, Nat.le_trans inv.size0 hlb, fun hp => ⟨hb, fun id' c' m' hc' hid' => ?_, fun i' b2 hne' hm2 hi2 hp2 m' hid' => ?_⟩⟩
      · have hne2 : id' ≠ (Hh i).next := fun e => by subst e; have := heap_new c' hc'; omega
        rw [hoth id' hne2] at hid'
        exact hdisj id' m' hid'
      · rw [hoth _ (ids i' b2 hm2 hne')] at hid'
        exact hdisj _ m' hid'
    · rw [add_ne D hij] at hi
      obtain ⟨m, h1, h2, h3⟩ := inv.mk1 i b' hm' hi
      refine ⟨m, by rw [hoth _ (ids i b' hm' hij)]; exact h1, h2, fun hp => ?_⟩
      obtain ⟨h4, h5, h6⟩ := h3 hp
      refine ⟨(h4.congr (hfr _ (inv.rh.bd _ _ h1))).mono hle, fun id' c' m' hc' hid' => ?_, fun i' b2 hne' hm2 hi2 hp2 m' hid' => ?_⟩
      · by_cases e : id' = (Hh j).next
        · subst e
          rw [hl] at hid'; simp only [Option.some.injEq] at hid'; subst hid'
          have := inv.rh.bd _ _ h1; omega
        · rw [hoth id' e] at hid'; exact h5 id' c' m' hc' hid'
      · by_cases e : i' = j
        · subst e
          rw [hl] at hid'; simp only [Option.some.injEq] at hid'; subst hid'
          have := inv.rh.bd _ _ h1; omega
        · rw [add_ne D e] at hi2
          rw [hoth _ (ids i' b2 hm2 e)] at hid'
          exact h6 i' b2 hne' hm2 hi2 hp2 m' hid'
  mk2 := fun i b' hm' hi => by
    have hij : i ≠ j := fun e => by subst e; rw [add_same] at hi; simp at hi
    rw [add_ne D hij] at hi
    rw [hoth _ (ids i b' hm' hij)]
    exact inv.mk2 i b' hm' hi
  fresh := fun id h1 h2 h3 => by
    rw [hoth id (h3 j b hm (add_same D j))]
    exact inv.fresh id h1 h2 fun i b' hm' hi => h3 i b' hm' (add_mono D j hi)
  le0 := fun id m hid => hle _ _ (inv.le0 _ _ hid)
  old0 := fun id hid => by rw [hoth id (by omega)]; exact inv.old0 id hid
  out0 := fun id hid => by
    have := hmono (j + 1) ops.size (by omega) (Nat.le_refl _)
    rw [hoth id (by omega)]; exact inv.out0 id hid
  size0 := Nat.le_trans inv.size0 hsz
  os0 := hos.trans inv.os0
  tape0 := htp.trans inv.tape0
  output0 := hout.trans inv.output0
  frame0 := fun b' hb' hn => by
    rw [hfr b' (Nat.lt_of_lt_of_le hb' inv.size0), inv.frame0 b' hb' hn]
  src0 := fun id k m hk hko hid => by
    by_cases e : id = (Hh j).next
    · subst e
      rw [hl] at hid; simp only [Option.some.injEq] at hid; subst hid
      exact .inl (Nat.le_trans inv.size0 hlb)
    · rw [hoth id e] at hid; exact inv.src0 id k m hk hko hid
  unm0 := inv.unm0
  dead0 := inv.dead0
  ro0 := inv.ro0 }
end
end
end Go.AM
