/-
  An abstract machine for the model: a region that draws its order: whatever the order, it does the same.
-/
import Derived.Test.YtkiagdpknegcbaaGreatDoorAdDraw5
namespace Go.AM
open Go

section
variable {P : Program} {NG nt : Nat} {C : CF} {ops : Array Oper} {F : Nat → T Value} {Hh : Nat → H} {rv : Nat → Option Value}
variable {μ0 : Mu} {a0 : Act} {w0 : World} {D : Nat → Bool} {a : Act} {w : World} {μ : Mu} {p : Nat}

theorem RH.wider {h : H} {w w' : World} {μ : Mu} (r : RH NG μ h w) (hs : w.heap.size ≤ w'.heap.size) (hb : ∀ b, b < w.heap.size → w'.heap[b]? = w.heap[b]?) : RH NG μ h w' :=
  ⟨r.ng, r.wf, fun id c l hc hl => (r.br id c l hc hl).congr (hb _ (r.bd _ _ hl)), r.inj, fun id l hl => Nat.lt_of_lt_of_le (r.bd id l hl) hs, r.gl⟩

theorem RH.empty {h : H} {w : World} {μ : Mu} (r : RH NG μ h w) (k : Nat) (hk : NG ≤ k) : RH NG μ ⟨.nil, k⟩ w :=
  ⟨hk, fun id b hb => by simp [H.get] at hb, fun id b l hb => by simp [H.get] at hb, fun id b l id' b' l' hb => by simp [H.get] at hb, r.bd, r.gl⟩

theorem Step.mu_eq {h h' : H} {w w' : World} {μ μ' : Mu} (st : Step NG μ h w μ' h' w') (hn : h'.next = h.next) : μ' = μ := by
  funext id
  rcases Nat.lt_or_ge id h.next with hlt | hge
  · exact st.old id hlt
  · exact st.out id (by omega)

theorem Inv.step (inv : Inv P NG nt ops F Hh rv μ0 a0 w0 D a w μ p) (hzp : zerosPlain P = true) (hC : CallsOK P NG C) (tr : Trace P C NG ops F Hh rv) (DF : DrawFacts P ops) (hd : dstOK nt ops = true)
    (hmono : ∀ i i', i ≤ i' → i' ≤ ops.size → (Hh i).next ≤ (Hh i').next) (hwf0 : Wf (Hh 0)) (hng : NG ≤ (Hh 0).next)
    {j : Nat} {o : Oper} (hj : D j = false) (ho : ops[j]? = some o) (hr : ∀ e ∈ o.after.toList, Region.binds .any e = true → D e.on = true)
    (ro : Option Nat) (Q : Exit → Act → World → Prop) (Kc : Act → World → Prop) (hK : ∀ a' w', (∃ μ' p', Inv P NG nt ops F Hh rv μ0 a0 w0 (add D j) a' w' μ' p') → Kc a' w') : wpOpIn (Fr ro) 0 P ops Q j Kc a w := by
  have hjn : j < ops.size := (Array.getElem?_eq_some_iff.1 ho).1
  have uniq : ∀ {o' : Oper}, ops[j]? = some o' → o' = o := fun h => by rw [ho] at h; simpa using h.symm
  obtain ⟨o', ho', hget, hrow⟩ := tr.row j hjn
  obtain rfl := uniq ho'
  have hlook := inv.look tr DF hj ho hr
  unfold wpOpIn
  simp only [ho]
  rcases hrow with ⟨hw, hrv, hh⟩ | ⟨hw, hop⟩
  · -- passed over
    have hnr : ∀ k o2, ¬ Ran P ops F j o2 k := by
      intro k o2 hran
      obtain rfl := uniq hran.1
      rw [hran.2.1] at hw; simp at hw
    rw [inv.wanted tr DF hj ho hr hw]
    simp only [Bool.false_eq_true, if_false]
    refine ⟨fun _ _ => trivial, ?_⟩
    refine hK _ _ ⟨μ, p, inv.quiet DF hd hj ho hr (fun ⟨o2, h2⟩ => hnr _ _ h2) (fun b hm => by obtain ⟨o2, h2⟩ := hm.1; exact hnr _ _ h2) inv.rh (Nat.le_refl _) rfl rfl rfl (fun _ _ _ => rfl) (cv := undef) ?_⟩
    rw [hrv]; exact undef_RV μ
  · rw [inv.wanted tr DF hj ho hr hw]
    simp only [if_true]
    obtain ⟨k, hk⟩ := DF.kind j o' ho
    have ran : Ran P ops F j o' k := ⟨ho, hw, hk⟩
    have other : ∀ k', k' ≠ k → ∀ o2, ¬ Ran P ops F j o2 k' := by
      intro k' hne o2 hran
      obtain rfl := uniq hran.1
      have := hran.2.2
      rw [hk] at this; simp at this; exact hne this.symm
    cases k with
    | pure =>
      obtain ⟨_, hany⟩ := pure_any hk hop
      have h1 := hany ⟨.nil, NG⟩
      rw [aop_congr _ _ _ (hlook _)] at h1
      obtain ⟨rv', h', hk', hs⟩ := aop_sound hzp hC h1
      simp only [pairK, Option.some.injEq, Prod.mk.injEq] at hk'
      obtain ⟨rfl, rfl⟩ := hk'
      refine hs.2 μ a w (inv.rh.empty NG (Nat.le_refl _)) (fun id h1 h2 => absurd h2 (Nat.not_lt.2 h1)) inv.ev ro _ _ fun μ' w' cv st hv => ?_
      have hμ := st.mu_eq rfl
      subst hμ
      have hfr : ∀ b, b < w.heap.size → w'.heap[b]? = w.heap[b]? := fun b hb => st.frame b hb fun id k l hk => by simp [H.get] at hk
      exact hK _ _ ⟨μ', p, inv.quiet DF hd hj ho hr (fun ⟨o2, h2⟩ => other _ (by simp) _ h2) (fun b hm => by obtain ⟨o2, h2⟩ := hm.1; exact other _ (by simp) _ h2)
        (inv.rh.wider st.size hfr) st.size st.os st.tape st.output (fun b hb _ => hfr b hb) hv⟩
    | reads =>
      obtain ⟨v, hv⟩ := tr.c5 j o' ran
      have chk : ∀ X, recheck P NG o' (F j) X v = true → aop P (fun _ _ _ => none) (evalA NG (F j) X) X o' (fun rv _ => rv) = some v := by
        intro X hc
        unfold recheck at hc
        split at hc
        · rename_i u hu; rw [hu, same_eq u v hc]
        · simp at hc
      have hjp : j ≠ p ∨ p = ops.size := by
        rcases inv.pNext with h | ⟨⟨o2, h2⟩, _⟩
        · exact .inr h
        · exact .inl fun e => other .effect (by simp) o2 (e ▸ h2)
      have at_p : aop P C (evalA NG (F j) (Hh p)) (Hh p) o' pairK = some (some v, Hh p) := by
        rcases Nat.lt_or_ge j p with hlt | hge
        · -- the last effect between j and p
          have last : ∀ d, j + 1 + d ≤ p → (∀ i, j < i → i < j + 1 + d → ¬ Eff P ops F i) ∨ ∃ q, j < q ∧ q < j + 1 + d ∧ Eff P ops F q ∧ ∀ i, q < i → i < j + 1 + d → ¬ Eff P ops F i := by
            intro d
            induction d with
            | zero => intro _; exact .inl fun i h1 h2 => absurd h2 (by omega)
            | succ d ih =>
              intro hle
              by_cases hE : Eff P ops F (j + 1 + d)
              · exact .inr ⟨j + 1 + d, by omega, by omega, hE, fun i h1 h2 => absurd h2 (by omega)⟩
              · rcases ih (by omega) with h | ⟨q, h1, h2, h3, h4⟩
                · exact .inl fun i g1 g2 => by
                    by_cases e : i = j + 1 + d
                    · subst e; exact hE
                    · exact h i g1 (by omega)
                · exact .inr ⟨q, h1, by omega, h3, fun i g1 g2 => by
                    by_cases e : i = j + 1 + d
                    · subst e; exact hE
                    · exact h4 i g1 (by omega)⟩
          have last := last (p - (j + 1)) (by omega)
          rw [show j + 1 + (p - (j + 1)) = p by omega] at last
          have hpn := inv.pn
          rcases last with h | ⟨q, h1, h2, ⟨oq, hq⟩, h4⟩
          · have hb := tr.between DF (q := j) (inv.wfs j (by omega)) (p - j) (by omega) (fun i g1 g2 => by
              by_cases e : i = j
              · subst e; rintro ⟨o2, h2⟩; exact other _ (by simp) _ h2
              · exact h i (by omega) (by omega))
            rw [show j + (p - j) = p by omega] at hb
            have e1 : aop P C (evalA NG (F j) (Hh j)) (Hh j) o' (fun rv _ => rv) = some v := by
              rw [aop_pair, hop, hv]; rfl
            exact reads_mono hk (fun _ => rfl) hb.2.1 e1 C
          · rcases tr.c2 j q oq o' v h1 hq ran hv with hp | hc
            · have hDq := inv.pE q h2 ⟨oq, hq⟩
              have := closed_pred inv.closed q j hDq hp
              rw [hj] at this; simp at this
            · have hb := tr.between DF (q := q + 1) (inv.wfs (q + 1) (by omega)) (p - (q + 1)) (by omega) (fun i g1 g2 => h4 i (by omega) (by omega))
              rw [show q + 1 + (p - (q + 1)) = p by omega] at hb
              exact reads_mono hk (fun _ => rfl) hb.2.1 (chk _ hc) C
        · rcases inv.pNext with h | ⟨⟨oq, hq⟩, hDp⟩
          · omega
          · have hne : j ≠ p := by
              rcases hjp with h | h
              · exact h
              · omega
            rcases tr.c1 p j oq o' v (by omega) hq ran hv with hp | hc
            · have := ready_pred inv.closed ho hr hp
              rw [hDp] at this; simp at this
            · exact reads_mono hk (fun _ => rfl) ⟨Nat.le_refl _, fun _ _ h => h⟩ (chk _ hc) C
      rw [aop_congr _ _ _ (hlook _)] at at_p
      obtain ⟨rv', h', hk', hs⟩ := aop_sound hzp hC at_p
      simp only [pairK, Option.some.injEq, Prod.mk.injEq] at hk'
      obtain ⟨rfl, rfl⟩ := hk'
      refine hs.2 μ a w inv.rh (fun id h1 h2 => absurd h2 (Nat.not_lt.2 h1)) inv.ev ro _ _ fun μ' w' cv st hv' => ?_
      have hμ := st.mu_eq rfl
      subst hμ
      exact hK _ _ ⟨μ', p, inv.quiet DF hd hj ho hr (fun ⟨o2, h2⟩ => other _ (by simp) _ h2) (fun b hm => by obtain ⟨o2, h2⟩ := hm.1; exact other _ (by simp) _ h2)
        st.rh st.size st.os st.tape st.output st.frame (by rw [hv]; exact hv')⟩
    | makes =>
      obtain ⟨b, hb, hh, hform, hany⟩ := makes_any hk hop
      have hm : Mk P ops F Hh j b := ⟨⟨_, ran⟩, hb, hh⟩
      have hne : ¬ Eff P ops F j := hm.not_eff
      have h1 := hany ⟨.nil, (Hh j).next⟩ rfl
      rw [aop_congr _ _ _ (hlook _)] at h1
      obtain ⟨rv', h', hk', hs⟩ := aop_sound hzp hC h1
      simp only [pairK, Option.some.injEq, Prod.mk.injEq] at hk'
      obtain ⟨rfl, rfl⟩ := hk'
      obtain ⟨hun, _⟩ := inv.mk2 j b hm hj
      have h0j := hmono 0 j (by omega) (by omega)
      refine hs.2 μ a w (inv.rh.empty _ (by omega)) (fun id h1 h2 => by
        have e : id = (Hh j).next := by simp only [H.next_push] at h1 h2; omega
        rw [e]; exact hun) inv.ev ro _ _ fun μ' w' cv st hv => ?_
      have hlm : ∃ l, μ' (Hh j).next = some l := by
        rcases hform with hf | ⟨len, c, hf⟩ | hf
        · rw [hf] at hv
          obtain ⟨l, hl, _⟩ := VR.ptr_inv hv
          exact ⟨l, hl⟩
        · rw [hf] at hv
          obtain ⟨l, _, _, hl, _⟩ := VR.slice_inv hv
          exact ⟨l, hl⟩
        · rw [hf] at hv
          obtain ⟨l, hl, _⟩ := VR.map_inv hv
          exact ⟨l, hl⟩
      obtain ⟨l, hl⟩ := hlm
      have hgb : ((⟨.nil, (Hh j).next⟩ : H).push b).get (Hh j).next = some b := by rw [H.get_push, if_pos rfl]
      have hlb : w.heap.size ≤ l.blk := by
        rcases st.src _ b l hgb hb hl with h | ⟨id0, k0, l0, g1, _⟩
        · exact h
        · simp [H.get] at g1
      refine hK _ _ ⟨μ', p, inv.make DF hd hj ho hr hne hm hmono hng hl hlb (st.rh.br _ b l hgb hl) (fun id hid => ?_) st.rh.bd st.size st.os st.tape st.output
        (fun b' hb' => st.frame b' hb' fun id k l hk => by simp [H.get] at hk) hv⟩
      rcases Nat.lt_or_ge id (Hh j).next with hlt | hge
      · exact st.old id hlt
      · exact st.out id (by simp only [H.next_push]; omega)
    | effect =>
      have hE : Eff P ops F j := ⟨_, ran⟩
      have hjp : j = p := by
        rcases Nat.lt_or_ge j p with h | h
        · have := inv.pE j h hE; rw [hj] at this; simp at this
        · rcases inv.pNext with h' | ⟨⟨oq, hq⟩, hDp⟩
          · omega
          · by_cases e : j = p
            · exact e
            · have hp := DF.chain p j oq _ hq.1 ho (by omega) hq.2.2 hk
              have := ready_pred inv.closed ho hr hp
              rw [hDp] at this; simp at this
      subst hjp
      have h1 := hop
      rw [aop_congr _ _ _ (hlook _)] at h1
      obtain ⟨rv', h', hk', hs⟩ := aop_sound hzp hC h1
      simp only [pairK, Option.some.injEq, Prod.mk.injEq] at hk'
      obtain ⟨rfl, rfl⟩ := hk'
      refine hs.2 μ a w inv.rh (inv.fresh_step hmono hE) inv.ev ro _ _ fun μ' w' cv st hv => ?_
      obtain ⟨p', inv'⟩ := inv.effect tr DF hd hj ho hr hE hmono hwf0 st hv
      exact hK _ _ ⟨μ', p', inv'⟩

/-- Before the first operation. -/
theorem Inv.start (tr : Trace P C NG ops F Hh rv) (DF : DrawFacts P ops) (hmono : ∀ i i', i ≤ i' → i' ≤ ops.size → (Hh i).next ≤ (Hh i').next)
    (rh0 : RH NG μ0 (Hh 0) w0) (hf0 : Fresh μ0 (Hh 0).next (Hh ops.size).next) (f0 : FR nt μ0 (F 0) a0) {w : World} (hw : w.heap = w0.heap) (hos : w.os = w0.os) (ht : w.tape = w0.tape) (hout : w.output = w0.output) :
    ∃ p, Inv P NG nt ops F Hh rv μ0 a0 w0 (fun _ => false) a0 w μ0 p := by
  have next : ∀ d, d ≤ ops.size → ∃ p', p' ≤ d ∧ (∀ i, i < p' → ¬ Eff P ops F i) ∧ (p' = d ∨ Eff P ops F p') := by
    intro d
    induction d with
    | zero => intro _; exact ⟨0, by omega, fun i h2 => absurd h2 (by omega), .inl rfl⟩
    | succ d ih =>
      intro hdl
      obtain ⟨p', h2, h3, h4⟩ := ih (by omega)
      by_cases hE' : Eff P ops F p'
      · exact ⟨p', by omega, h3, .inr hE'⟩
      · rcases h4 with h4 | h4
        · refine ⟨p' + 1, by omega, fun i g2 => ?_, .inl (by omega)⟩
          by_cases e : i = p'
          · subst e; exact hE'
          · exact h3 i (by omega)
        · exact absurd h4 hE'
  obtain ⟨p, hp2, hnoE, hlast⟩ := next ops.size (Nat.le_refl _)
  have hb := tr.between DF (q := 0) rh0.wf p (by omega) (fun i _ h => hnoE i (by omega))
  rw [Nat.zero_add] at hb
  obtain ⟨bwf, ble, bmk, bget⟩ := hb
  have hmk_lt : ∀ i b, Mk P ops F Hh i b → i < ops.size := fun i b hm => by obtain ⟨o', ho'⟩ := hm.1; exact ho'.lt
  have hun : ∀ i b, Mk P ops F Hh i b → μ0 (Hh i).next = none := fun i b hm => by
    have h1 := hmk_lt i b hm
    have h2 := hm.next
    have h3 := hmono 0 i (by omega) (by omega)
    have h4 := hmono (i + 1) ops.size (by omega) (Nat.le_refl _)
    exact hf0 _ h3 (by omega)
  have alive : ∀ id c m, (Hh p).get id = some c → μ0 id = some m → (Hh 0).get id = some c := by
    intro id c m hc hm
    rcases bget id c hc with h | ⟨i, _, _, h3, h4⟩
    · exact h
    · rw [h4, hun i c h3] at hm; simp at hm
  have envF : ∀ t, env ops (F 0) rv (fun _ => false) ops.size t = (F 0).get t := fun t => env_skip t 0 ops.size (by omega) (fun _ _ _ _ => rfl)
  exact ⟨p, {
    closed := fun j o h => by simp at h
    dlt := fun j h => by simp at h
    pn := hp2
    pE := fun i hi he => absurd he (hnoE i hi)
    pNext := by
      rcases hlast with h | h
      · exact .inl h
      · exact .inr ⟨h, rfl⟩
    wfs := fun i hi => by
      have := (tr.between DF (q := 0) rh0.wf i (by omega) (fun k _ h => hnoE k (by omega))).1
      rwa [Nat.zero_add] at this
    rh := {
      ng := Nat.le_trans rh0.ng ble.1
      wf := bwf
      br := fun id c m hc hm => (rh0.br id c m (alive id c m hc hm) hm).congr (by rw [hw])
      inj := fun id c m id' c' m' hc hco hm hc' hm' hne => rh0.inj id c m id' c' m' (alive id c m hc hm) hco hm (alive id' c' m' hc' hm') hm' hne
      bd := fun id l hl => by rw [hw]; exact rh0.bd id l hl
      gl := rh0.gl }
    sz := f0.1
    regs := fun t v ht => by rw [envF] at ht; exact f0.2 t v ht
    dfr := rfl
    mk1 := fun i b _ h => by simp at h
    mk2 := fun i b hm _ => ⟨hun i b hm, fun hi => bmk i b (by omega) (by omega) hm⟩
    fresh := fun id h1 h2 _ => hf0 id (Nat.le_trans ble.1 h1) h2
    le0 := fun _ _ h => h
    old0 := fun _ _ => rfl
    out0 := fun _ _ => rfl
    size0 := by rw [hw]; exact Nat.le_refl _
    os0 := hos
    tape0 := ht
    output0 := hout
    frame0 := fun b _ _ => by rw [hw]
    src0 := fun id k m hk hko hm => .inr ⟨id, k, m, alive id k m hk hm, hko, hm, rfl⟩
    unm0 := fun id k hk _ => ble.2 id k hk
    dead0 := fun id hid hn => by
      cases hg : (Hh p).get id with
      | none => rfl
      | some c =>
        rcases bget id c hg with h | ⟨i, _, g2, g3, g4⟩
        · rw [hn] at h; simp at h
        · have := hmono 0 i (by omega) (by have := hmk_lt i c g3; omega); omega
    ro0 := fun id k hk hko => by
      rcases bget id k hk with h | ⟨i, _, _, g3, _⟩
      · exact h
      · have := g3.2.1; rw [hko] at this; simp at this }⟩

/-- Whatever is ready next, till nothing is. -/
theorem any_order (hzp : zerosPlain P = true) (hC : CallsOK P NG C) (tr : Trace P C NG ops F Hh rv) (DF : DrawFacts P ops) (hd : dstOK nt ops = true)
    (hmono : ∀ i i', i ≤ i' → i' ≤ ops.size → (Hh i).next ≤ (Hh i').next) (hwf0 : Wf (Hh 0)) (hng : NG ≤ (Hh 0).next)
    (ro : Option Nat) (Q : Exit → Act → World → Prop) (hQ : ∀ a' w' μ', Inv P NG nt ops F Hh rv μ0 a0 w0 (fun i => decide (i < ops.size)) a' w' μ' ops.size → Q .normal a' w') :
    ∀ (fuel : Nat) (listed : Array Bool) (a : Act) (w : World), listed.size = ops.size → ((List.range ops.size).filter fun i => !listed.getD i false).length ≤ fuel →
      (∃ μ p, Inv P NG nt ops F Hh rv μ0 a0 w0 (fun i => listed.getD i false) a w μ p) → wpAnyIn (Fr ro) 0 P .any ops Q fuel listed a w := by
  have getDD : ∀ (listed : Array Bool) (i : Nat), listed.size = ops.size → i < ops.size → listed.getD i true = listed.getD i false := by
    intro listed i hs hi
    simp [Array.getD_eq_getD_getElem?, Array.getElem?_eq_getElem (show i < listed.size by omega)]
  -- nothing is ready: all is listed
  have done : ∀ (listed : Array Bool) (a : Act) (w : World) (μ : Mu) (p : Nat), listed.size = ops.size → Inv P NG nt ops F Hh rv μ0 a0 w0 (fun i => listed.getD i false) a w μ p →
      Region.ready .any ops listed = [] → Q .normal a w := by
    intro listed a w μ p hs inv hr
    have all : ∀ i, i < ops.size → listed.getD i false = true := by
      intro i
      induction i using Nat.strongRecOn with
      | _ i ih =>
        intro hi
        cases hl : listed.getD i false with
        | true => rfl
        | false =>
          exfalso
          have hmem : i ∈ Region.ready .any ops listed := by
            rw [mem_ready]
            refine ⟨by rw [getDD listed i hs hi]; exact hl, ops[i], by simp [hi], fun e he hb => ?_⟩
            have hlt := DF.edge i ops[i] (by simp [hi]) e (by simpa using he) hb
            exact ih e.on hlt (by omega)
          rw [hr] at hmem; simp at hmem
    have hD : (fun i => listed.getD i false) = fun i => decide (i < ops.size) := by
      funext i
      by_cases hi : i < ops.size
      · simp only [all i hi, hi, decide_true]
      · rw [Array.getD_eq_getD_getElem?, Array.getElem?_eq_none (by omega)]
        simp [hi]
    rw [hD] at inv
    have hp : p = ops.size := by
      rcases inv.pNext with h | ⟨⟨o, ho⟩, h2⟩
      · exact h
      · have := ho.lt; simp at h2; omega
    subst hp
    exact hQ a w μ inv
  intro fuel
  induction fuel with
  | zero =>
    intro listed a w hs hlen ⟨μ, p, inv⟩
    have hr : Region.ready .any ops listed = [] := by
      apply List.eq_nil_iff_forall_not_mem.2
      intro i hi
      rw [mem_ready] at hi
      obtain ⟨h1, o, ho, _⟩ := hi
      have hlt : i < ops.size := (Array.getElem?_eq_some_iff.1 ho).1
      have : i ∈ (List.range ops.size).filter fun i => !listed.getD i false := by
        rw [List.mem_filter]
        exact ⟨List.mem_range.2 hlt, by rw [← getDD listed i hs hlt, h1]; rfl⟩
      rw [List.length_eq_zero_iff.1 (Nat.le_zero.1 hlen)] at this
      simp at this
    exact ⟨hr, done listed a w μ p hs inv hr⟩
  | succ fuel ih =>
    intro listed a w hs hlen ⟨μ, p, inv⟩
    refine ⟨done listed a w μ p hs inv, fun j hj => ?_⟩
    rw [mem_ready] at hj
    obtain ⟨h1, o, ho, hedges⟩ := hj
    have hlt : j < ops.size := (Array.getElem?_eq_some_iff.1 ho).1
    have hDj : listed.getD j false = false := by rw [← getDD listed j hs hlt]; exact h1
    refine inv.step hzp hC tr DF hd hmono hwf0 hng hDj ho (fun e he hb => hedges e (by simpa using he) hb) ro Q _ fun a' w' ⟨μ', p', inv'⟩ => ?_
    have hadd : add (fun i => listed.getD i false) j = fun i => (listed.setIfInBounds j true).getD i false := by
      funext i
      unfold add
      by_cases e : i = j
      · subst e
        rw [if_pos rfl, Array.getD_eq_getD_getElem?, Array.getElem?_setIfInBounds, if_pos rfl, if_pos (by omega)]; rfl
      · rw [if_neg e]
        show listed.getD i false = _
        rw [Array.getD_eq_getD_getElem?, Array.getD_eq_getD_getElem?, Array.getElem?_setIfInBounds_ne (Ne.symm e)]
    rw [hadd] at inv'
    refine ih _ a' w' (by simpa using hs) ?_ ⟨μ', p', inv'⟩
    -- one fewer is left
    have hsub : ((List.range ops.size).filter fun i => !(listed.setIfInBounds j true).getD i false) = ((List.range ops.size).filter fun i => !listed.getD i false).filter fun i => decide (i ≠ j) := by
      rw [List.filter_filter]
      apply List.filter_congr
      intro i _
      have := congrFun hadd i
      rw [← this]
      unfold add
      by_cases e : i = j
      · subst e; simp
      · simp [e]
    rw [hsub]
    have hmem : j ∈ (List.range ops.size).filter fun i => !listed.getD i false := by
      rw [List.mem_filter]; exact ⟨List.mem_range.2 hlt, by rw [hDj]; rfl⟩
    have hlt2 : (((List.range ops.size).filter fun i => !listed.getD i false).filter fun i => decide (i ≠ j)).length < ((List.range ops.size).filter fun i => !listed.getD i false).length := by
      rw [List.length_filter_lt_length_iff_exists]
      exact ⟨j, hmem, by simp⟩
    omega

theorem runD_sound {β : Type} (hzp : zerosPlain P = true) (hC : CallsOK P NG C) {ops : Array Oper} (hd : dstOK nt ops = true) (hdr : drawOK P ops (before ops) = true)
    {fr : T Value} {h : H} {K : T Value → H → Option β} {r : β} (hr : runD P C NG ops (before ops) 0 ops.toList fr h [] [] K = some r) :
      ∃ fr' h', K fr' h' = some r ∧ h.next ≤ h'.next ∧ ∀ (μ : Mu) (a : Act) (w : World), RH NG μ h w → Fresh μ h.next h'.next → FR nt μ fr a →
        ∀ (ro : Option Nat) (Q : Exit → Act → World → Prop), (∀ a' w', StepTo0 NG nt μ h w a fr' h' a' w' → Q .normal a' w') →
          wpAnyIn (Fr ro) 0 P .any ops Q ops.size (Array.replicate ops.size false) a { w with drawn := w.drawn + 1 } := by
  obtain ⟨F, Hh, rv, _, hF, hH, hK, hrows, _, _, hc1, hc2, hc5⟩ := runD_trace ops.toList 0 fr h [] [] rfl hr
  rw [Nat.max_eq_right (Nat.zero_le _)] at hK
  have DF := draw_facts hdr
  have tr : Trace P C NG ops F Hh rv := ⟨fun i hi => hrows i (Nat.zero_le _) hi, fun p i o o' v hlt => hc1 p i o o' v (Nat.zero_le _) hlt, fun i p o o' v hlt => hc2 i p o o' v (Nat.zero_le _) hlt, fun i o => hc5 i o (Nat.zero_le _)⟩
  have hmono : ∀ i i', i ≤ i' → i' ≤ ops.size → (Hh i).next ≤ (Hh i').next := fun i i' h1 h2 => tr.next_mono hzp hC h1 h2
  refine ⟨F ops.size, Hh ops.size, hK, by rw [← hH]; exact hmono 0 _ (Nat.zero_le _) (Nat.le_refl _), fun μ a w rh hf f ro Q hQ => ?_⟩
  subst hF; subst hH
  obtain ⟨p, inv⟩ := Inv.start (a0 := a) (rv := rv) tr DF hmono rh hf f (w := { w with drawn := w.drawn + 1 }) rfl rfl rfl rfl
  refine any_order (μ0 := μ) (a0 := a) (w0 := w) hzp hC tr DF hd hmono rh.wf rh.ng ro Q (fun a' w' μ' inv' => hQ a' w' ⟨μ', ?_, ?_, inv'.dfr⟩) ops.size _ a _ (by simp) ?_ ⟨μ, p, ?_⟩
  · exact {
      wf := rh.wf
      le := inv'.le0
      old := inv'.old0
      out := inv'.out0
      next := hmono 0 _ (Nat.zero_le _) (Nat.le_refl _)
      rh := inv'.rh
      size := inv'.size0
      os := inv'.os0
      tape := inv'.tape0
      output := inv'.output0
      frame := inv'.frame0
      src := inv'.src0
      unm := inv'.unm0
      dead := inv'.dead0
      ro := inv'.ro0 }
  · refine ⟨inv'.sz, fun t v hv => inv'.regs t v ?_⟩
    rw [← tr.env_at t ops.size (Nat.le_refl _)] at hv
    rw [← hv]
    exact env_congr t ops.size fun i hi _ => by simp [hi]
  · exact Nat.le_trans (List.length_filter_le _ _) (by simp)
  · have e : (fun i => (Array.replicate ops.size false).getD i false) = fun _ => false := by
      funext i
      rw [Array.getD_eq_getD_getElem?]
      by_cases hi : i < ops.size
      · simp [hi]
      · rw [Array.getElem?_eq_none (by simpa using hi)]; rfl
    rw [e]; exact inv
end
end Go.AM
