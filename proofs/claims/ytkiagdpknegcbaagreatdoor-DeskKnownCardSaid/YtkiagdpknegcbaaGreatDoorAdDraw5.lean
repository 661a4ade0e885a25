/-
  An abstract machine for the model: a region that draws its order: the step with effects.
-/
import Derived.Test.YtkiagdpknegcbaaGreatDoorAdDraw4
namespace Go.AM
open Go

section
variable {P : Program} {NG nt : Nat} {C : CF} {ops : Array Oper} {F : Nat → T Value} {Hh : Nat → H} {rv : Nat → Option Value}
variable {μ0 : Mu} {a0 : Act} {w0 : World} {D : Nat → Bool} {a : Act} {w : World} {μ : Mu} {p : Nat}

theorem Mk.next {i : Nat} {b : Blk} (h : Mk P ops F Hh i b) : (Hh (i + 1)).next = (Hh i).next + 1 := by rw [h.2.2]; simp

theorem Mk.not_eff {i : Nat} {b : Blk} (h : Mk P ops F Hh i b) : ¬ Eff P ops F i := by
  rintro ⟨o, ho⟩
  obtain ⟨o', ho'⟩ := h.1
  have : o' = o := by have := ho.1; rw [ho'.1] at this; simpa using this
  subst this
  have := ho.2.2
  rw [ho'.2.2] at this; simp at this

/-- The names that an effect may give out are free. -/
theorem Inv.fresh_step (inv : Inv P NG nt ops F Hh rv μ0 a0 w0 D a w μ p) (hmono : ∀ i i', i ≤ i' → i' ≤ ops.size → (Hh i).next ≤ (Hh i').next) (hE : Eff P ops F p) : Fresh μ (Hh p).next (Hh (p + 1)).next := by
  intro id h1 h2
  obtain ⟨o, ho⟩ := hE
  have hp := ho.lt
  have := hmono (p + 1) ops.size (by omega) (Nat.le_refl _)
  refine inv.fresh id h1 (by omega) fun i b hm hi e => ?_
  obtain ⟨o', ho'⟩ := hm.1
  have hin := ho'.lt
  have hne : i ≠ p := fun e => hm.not_eff (e ▸ ⟨o, ho⟩)
  have hn := hm.next
  rcases Nat.lt_or_gt_of_ne hne with h | h
  · have := hmono (i + 1) p (by omega) (by omega); omega
  · have := hmono (p + 1) i (by omega) (by omega); omega

theorem Inv.effect (inv : Inv P NG nt ops F Hh rv μ0 a0 w0 D a w μ p) (tr : Trace P C NG ops F Hh rv) (DF : DrawFacts P ops) (hd : dstOK nt ops = true) {o : Oper} (hj : D p = false) (ho : ops[p]? = some o)
    (hr : ∀ e ∈ o.after.toList, Region.binds .any e = true → D e.on = true) (hE : Eff P ops F p)
    (hmono : ∀ i i', i ≤ i' → i' ≤ ops.size → (Hh i).next ≤ (Hh i').next) (hwf0 : Wf (Hh 0))
    {w' : World} {cv : Value} {μ' : Mu} (st : Step NG μ (Hh p) w μ' (Hh (p + 1)) w') (hv : RV μ' (rv p) cv) :
    ∃ p', Inv P NG nt ops F Hh rv μ0 a0 w0 (add D p) (a.put o.dst cv) w' μ' p' := by
  have hpn : p < ops.size := (Array.getElem?_eq_some_iff.1 ho).1
  -- the next effect
  have next : ∀ d, d ≤ ops.size - (p + 1) → ∃ p', p + 1 ≤ p' ∧ p' ≤ p + 1 + d ∧ (∀ i, p + 1 ≤ i → i < p' → ¬ Eff P ops F i) ∧ (p' = p + 1 + d ∨ Eff P ops F p') := by
    intro d
    induction d with
    | zero => intro _; exact ⟨p + 1, by omega, by omega, fun i h1 h2 => absurd h2 (by omega), .inl rfl⟩
    | succ d ih =>
      intro hdl
      obtain ⟨p', h1, h2, h3, h4⟩ := ih (by omega)
      by_cases hE' : Eff P ops F p'
      · exact ⟨p', h1, by omega, h3, .inr hE'⟩
      · rcases h4 with h4 | h4
        · refine ⟨p' + 1, by omega, by omega, fun i g1 g2 => ?_, .inl (by omega)⟩
          by_cases e : i = p'
          · subst e; exact hE'
          · exact h3 i g1 (by omega)
        · exact absurd h4 hE'
  obtain ⟨p', hp1, hp2, hnoE, hlast⟩ := next (ops.size - (p + 1)) (Nat.le_refl _)
  have hpn' : p' ≤ ops.size := by omega
  obtain ⟨d, rfl⟩ : ∃ d, p' = p + 1 + d := ⟨p' - (p + 1), by omega⟩
  obtain ⟨bwf, ble, bmk, bget⟩ := tr.between DF (q := p + 1) st.rh.wf d hpn' hnoE
  have hmk_ne : ∀ i b, Mk P ops F Hh i b → i ≠ p := fun i b hm e => hm.not_eff (e ▸ hE)
  have hmk_lt : ∀ i b, Mk P ops F Hh i b → i < ops.size := fun i b hm => by obtain ⟨o', ho'⟩ := hm.1; exact ho'.lt
  have idlo : ∀ i b, Mk P ops F Hh i b → i < p → (Hh i).next < (Hh p).next := fun i b hm hi => by
    have := hmono (i + 1) p (by omega) (by omega); have := hm.next; omega
  have idhi : ∀ i b, Mk P ops F Hh i b → p < i → (Hh (p + 1)).next ≤ (Hh i).next := fun i b hm hi =>
    hmono (p + 1) i (by omega) (by have := hmk_lt i b hm; omega)
  -- a float's block is nobody else's
  have X : ∀ (l : Loc), l.blk < w.heap.size → (∀ id' b' l', (Hh p).get id' = some b' → μ id' = some l' → l'.blk ≠ l.blk) →
      ∀ id' c' m', (Hh (p + 1)).get id' = some c' → μ' id' = some m' → m'.blk ≠ l.blk := by
    intro l hlt hdis id' c' m' hc' hm'
    cases hco : c'.owned with
    | true =>
      rcases st.src id' c' m' hc' hco hm' with h | ⟨id0, k0, l0, g1, g2, g3, g4⟩
      · omega
      · rw [← g4]; exact hdis id0 k0 l0 g1 g3
    | false =>
      have h0 := st.ro id' c' hc' hco
      rw [st.old id' (st.wf id' c' h0)] at hm'
      exact hdis id' c' m' h0 hm'
  have fl : ∀ i b, Mk P ops F Hh i b → p < i → D i = true → ∃ l, μ (Hh i).next = some l ∧ μ' (Hh i).next = some l ∧ w0.heap.size ≤ l.blk ∧ BR μ' b l w' ∧
      (∀ id' c' m', (Hh (p + 1)).get id' = some c' → μ' id' = some m' → m'.blk ≠ l.blk) ∧
      (∀ i' b', i' ≠ i → Mk P ops F Hh i' b' → D i' = true → p < i' → ∀ l', μ' (Hh i').next = some l' → l'.blk ≠ l.blk) := by
    intro i b hm hpi hDi
    obtain ⟨l, h1, h2, h3⟩ := inv.mk1 i b hm hDi
    obtain ⟨h4, h5, h6⟩ := h3 (by omega)
    have hlt := inv.rh.bd _ _ h1
    refine ⟨l, h1, st.le _ _ h1, h2, (h4.congr (st.frame _ hlt fun id k l' hk _ hl => h5 id k l' hk hl)).mono st.le, X l hlt h5, fun i' b' hne hm' hD' hp' l' hl' => ?_⟩
    obtain ⟨l2, g1, _, _⟩ := inv.mk1 i' b' hm' hD'
    have := st.le _ _ g1
    rw [hl'] at this; simp only [Option.some.injEq] at this; subst this
    exact h6 i' b' hne hm' hD' (by omega) l' g1
  have unm' : ∀ i b, Mk P ops F Hh i b → D i = false → μ' (Hh i).next = none := by
    intro i b hm hDi
    have h0 := (inv.mk2 i b hm hDi).1
    rcases Nat.lt_or_gt_of_ne (hmk_ne i b hm) with h | h
    · rw [st.old _ (idlo i b hm h)]; exact h0
    · rw [st.out _ (idhi i b hm h)]; exact h0
  -- what is alive at the next effect, and mapped
  have alive : ∀ id c m, (Hh (p + 1 + d)).get id = some c → μ' id = some m → (Hh (p + 1)).get id = some c ∨ ∃ i, p + 1 ≤ i ∧ i < p + 1 + d ∧ Mk P ops F Hh i c ∧ D i = true ∧ id = (Hh i).next := by
    intro id c m hc hm
    rcases bget id c hc with h | ⟨i, h1, h2, h3, h4⟩
    · exact .inl h
    · right
      refine ⟨i, h1, h2, h3, ?_, h4⟩
      cases hDi : D i with
      | true => rfl
      | false => rw [h4, unm' i c h3 hDi] at hm; simp at hm
  refine ⟨p + 1 + d, {
    closed := closed_add inv.closed ho hr
    dlt := fun i hi => by
      by_cases e : i = p
      · subst e; exact hpn
      · rw [add_ne D e] at hi; exact inv.dlt i hi
    pn := hpn'
    pE := fun i hi he => by
      by_cases e : i = p
      · subst e; exact add_same D _
      · by_cases hlt : i < p
        · exact add_mono D p (inv.pE i hlt he)
        · exact absurd he (hnoE i (by omega) hi)
    pNext := by
      rcases hlast with h | h
      · left; omega
      · right
        refine ⟨h, ?_⟩
        rw [add_ne D (by omega)]
        cases hD : D (p + 1 + d) with
        | false => rfl
        | true =>
          obtain ⟨o1, ho1⟩ := hE
          obtain ⟨o2, ho2⟩ := h
          have hp := DF.chain p (p + 1 + d) o1 o2 ho1.1 ho2.1 (by omega) ho1.2.2 ho2.2.2
          have := closed_pred inv.closed _ p hD hp
          rw [hj] at this; simp at this
    wfs := fun i hi => by
      by_cases hle : i ≤ p
      · exact inv.wfs i hle
      · obtain ⟨k, rfl⟩ : ∃ k, i = p + 1 + k := ⟨i - (p + 1), by omega⟩
        exact (tr.between DF (q := p + 1) st.rh.wf k (by omega) fun i h1 h2 => hnoE i h1 (by omega)).1
    rh := {
      ng := Nat.le_trans st.rh.ng ble.1
      wf := bwf
      br := fun id c m hc hm => by
        rcases alive id c m hc hm with h | ⟨i, h1, h2, h3, h4, h5⟩
        · exact st.rh.br id c m h hm
        · obtain ⟨l, _, g2, _, g4, _⟩ := fl i c h3 (by omega) h4
          rw [h5, g2] at hm; simp only [Option.some.injEq] at hm; subst hm
          exact g4
      inj := fun id c m id' c' m' hc hco hm hc' hm' hne => by
        rcases alive id c m hc hm with h | ⟨i, h1, h2, h3, h4, h5⟩
        · rcases alive id' c' m' hc' hm' with h' | ⟨i', h1', h2', h3', h4', h5'⟩
          · exact st.rh.inj id c m id' c' m' h hco hm h' hm' hne
          · obtain ⟨l, _, g2, _, _, g5, _⟩ := fl i' c' h3' (by omega) h4'
            rw [h5', g2] at hm'; simp only [Option.some.injEq] at hm'; subst hm'
            exact fun e => g5 id c m h hm e.symm
        · obtain ⟨l, _, g2, _, _, g5, g6⟩ := fl i c h3 (by omega) h4
          rw [h5, g2] at hm; simp only [Option.some.injEq] at hm; subst hm
          rcases alive id' c' m' hc' hm' with h' | ⟨i', h1', h2', h3', h4', h5'⟩
          · exact g5 id' c' m' h' hm'
          · exact g6 i' c' (fun e => hne (by rw [h5, h5', e])) h3' h4' (by omega) m' (by rw [← h5']; exact hm')
      bd := st.rh.bd
      gl := st.rh.gl }
    sz := by
      have := inv.sz
      cases hdo : o.dst <;> simp [Act.put] <;> exact this
    regs := inv.regs_add DF hd hj ho hr st.le hv
    dfr := (put_defers _ _ _).trans inv.dfr
    mk1 := fun i b hm hi => by
      rw [add_ne D (hmk_ne i b hm)] at hi
      rcases Nat.lt_or_gt_of_ne (hmk_ne i b hm) with hlt | hgt
      · obtain ⟨l, h1, h2, _⟩ := inv.mk1 i b hm hi
        exact ⟨l, st.le _ _ h1, h2, fun h => absurd h (by omega)⟩
      · obtain ⟨l, _, g2, g3, g4, g5, g6⟩ := fl i b hm hgt hi
        refine ⟨l, g2, g3, fun hp => ⟨g4, fun id' c' m' hc' hm' => ?_, fun i' b' hne hm' hi' hp' l' hl' => ?_⟩⟩
        · rcases alive id' c' m' hc' hm' with h' | ⟨i', h1', h2', h3', h4', h5'⟩
          · exact g5 id' c' m' h' hm'
          · exact g6 i' c' (by omega) h3' h4' (by omega) m' (by rw [← h5']; exact hm')
        · rw [add_ne D (hmk_ne i' b' hm')] at hi'
          exact g6 i' b' hne hm' hi' (by omega) l' hl'
    mk2 := fun i b hm hi => by
      rw [add_ne D (hmk_ne i b hm)] at hi
      refine ⟨unm' i b hm hi, fun hlt => ?_⟩
      rcases Nat.lt_or_gt_of_ne (hmk_ne i b hm) with h | h
      · have h0 := inv.mk2 i b hm hi
        exact ble.2 _ _ (st.unm _ _ (h0.2 h) h0.1)
      · exact bmk i b (by omega) hlt hm
    fresh := fun id h1 h2 h3 => by
      have hle := ble.1
      rw [st.out id (by omega)]
      have := st.next
      exact inv.fresh id (by omega) h2 fun i b hm hi => h3 i b hm (add_mono D p hi)
    le0 := fun id m hm => st.le _ _ (inv.le0 _ _ hm)
    old0 := fun id hid => by
      have := hmono 0 p (by omega) (by omega)
      rw [st.old id (by omega)]; exact inv.old0 id hid
    out0 := fun id hid => by
      have := hmono (p + 1) ops.size (by omega) (Nat.le_refl _)
      rw [st.out id (by omega)]; exact inv.out0 id hid
    size0 := Nat.le_trans inv.size0 st.size
    os0 := st.os.trans inv.os0
    tape0 := st.tape.trans inv.tape0
    output0 := st.output.trans inv.output0
    frame0 := fun b hb hn => by
      rw [st.frame b (Nat.lt_of_lt_of_le hb inv.size0) ?_, inv.frame0 b hb hn]
      intro id k l hk hko hl e
      rcases inv.src0 id k l hk hko hl with h | ⟨id0, k0, l0, g1, g2, g3, g4⟩
      · omega
      · exact hn id0 k0 l0 g1 g2 g3 (g4.trans e)
    src0 := fun id k m hk hko hm => by
      rcases alive id k m hk hm with h | ⟨i, h1, h2, h3, h4, h5⟩
      · rcases st.src id k m h hko hm with hs | ⟨id0, k0, l0, g1, g2, g3, g4⟩
        · exact .inl (Nat.le_trans inv.size0 hs)
        · rcases inv.src0 id0 k0 l0 g1 g2 g3 with hs | ⟨id1, k1, l1, f1, f2, f3, f4⟩
          · exact .inl (g4 ▸ hs)
          · exact .inr ⟨id1, k1, l1, f1, f2, f3, f4.trans g4⟩
      · obtain ⟨l, _, g2, g3, _⟩ := fl i k h3 (by omega) h4
        rw [h5, g2] at hm; simp only [Option.some.injEq] at hm; subst hm
        exact .inl g3
    unm0 := fun id k hk hm => by
      refine ble.2 _ _ (st.unm id k (inv.unm0 id k hk hm) ?_)
      rw [inv.old0 id (hwf0 id k hk)]; exact hm
    dead0 := fun id hid hn => by
      have h1 := hmono 0 p (by omega) (by omega)
      have h2 := st.dead id (by omega) (inv.dead0 id hid hn)
      cases hg : (Hh (p + 1 + d)).get id with
      | none => rfl
      | some c =>
        rcases bget id c hg with h | ⟨i, g1, g2, g3, g4⟩
        · rw [h2] at h; simp at h
        · have := idhi i c g3 (by omega); have := st.next; omega
    ro0 := fun id k hk hko => by
      rcases bget id k hk with h | ⟨i, g1, g2, g3, g4⟩
      · exact inv.ro0 id k (st.ro id k h hko) hko
      · have := g3.2.1; rw [hko] at this; simp at this }⟩
end
end Go.AM
