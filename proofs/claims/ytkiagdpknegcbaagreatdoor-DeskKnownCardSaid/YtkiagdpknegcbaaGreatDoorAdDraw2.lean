/-
  An abstract machine for the model: a region that draws its order: what the checks say; slots as a set of operations leaves them.
-/
import Derived.Test.YtkiagdpknegcbaaGreatDoorAdDraw1
namespace Go.AM
open Go

variable {P : Program} {NG : Nat}

/-! The bits of 'before'. -/
def befStep (acc : Array Nat) (o : Oper) : Array Nat :=
  acc.push (o.after.foldl (fun s e => if Region.binds .any e then s ||| 2 ^ e.on ||| acc.getD e.on 0 else s) 0)

theorem fold_bits (acc : Array Nat) (i : Nat) : ∀ (es : List Edge) (s : Nat), Nat.testBit (es.foldl (fun s e => if Region.binds .any e then s ||| 2 ^ e.on ||| acc.getD e.on 0 else s) s) i = true →
    Nat.testBit s i = true ∨ ∃ e ∈ es, Region.binds .any e = true ∧ (e.on = i ∨ Nat.testBit (acc.getD e.on 0) i = true)
  | [], s, h => .inl h
  | e :: es, s, h => by
    rw [List.foldl_cons] at h
    rcases fold_bits acc i es _ h with h | ⟨e', he', hb, hx⟩
    · split at h
      · rename_i hb
        rw [Nat.testBit_or, Nat.testBit_or] at h
        simp only [Bool.or_eq_true, Nat.testBit_two_pow, decide_eq_true_eq] at h
        rcases h with (h | h) | h
        · exact .inl h
        · exact .inr ⟨e, by simp, hb, .inl h⟩
        · exact .inr ⟨e, by simp, hb, .inr h⟩
      · exact .inl h
    · exact .inr ⟨e', by simp [he'], hb, hx⟩

theorem befStep_fold : ∀ (l : List Oper) (acc : Array Nat), (l.foldl befStep acc).size = acc.size + l.length ∧ (∀ j, j < acc.size → (l.foldl befStep acc).getD j 0 = acc.getD j 0) ∧
    ∀ j o, l[j]? = some o → ∀ i, Nat.testBit ((l.foldl befStep acc).getD (acc.size + j) 0) i = true →
      ∃ e ∈ o.after.toList, Region.binds .any e = true ∧ (e.on = i ∨ (e.on < acc.size + j ∧ Nat.testBit ((l.foldl befStep acc).getD e.on 0) i = true))
  | [], acc => ⟨by simp, fun _ _ => rfl, fun j o h => by simp at h⟩
  | o :: l, acc => by
    obtain ⟨h1, h2, h3⟩ := befStep_fold l (befStep acc o)
    have hs : (befStep acc o).size = acc.size + 1 := by simp [befStep]
    have hold : ∀ j, j < acc.size → (befStep acc o).getD j 0 = acc.getD j 0 := by
      intro j hj
      simp only [befStep, Array.getD_eq_getD_getElem?, Array.getElem?_push]
      rw [if_neg (by omega)]
    refine ⟨by rw [List.foldl_cons, h1, hs, List.length_cons]; omega, fun j hj => ?_, fun j o' ho i hb => ?_⟩
    · rw [List.foldl_cons, h2 j (by omega), hold j hj]
    · rw [List.foldl_cons] at hb ⊢
      cases j with
      | zero =>
        simp only [List.getElem?_cons_zero, Option.some.injEq] at ho
        subst ho
        rw [Nat.add_zero, h2 _ (by omega)] at hb
        have hv : (befStep acc o).getD acc.size 0 = o.after.foldl (fun s e => if Region.binds .any e then s ||| 2 ^ e.on ||| acc.getD e.on 0 else s) 0 := by
          simp [befStep]
        rw [hv, ← Array.foldl_toList] at hb
        rcases fold_bits acc i _ _ hb with hb | ⟨e, he, hbd, hx⟩
        · simp at hb
        · refine ⟨e, he, hbd, ?_⟩
          rcases hx with hx | hx
          · exact .inl hx
          · have hlt : e.on < acc.size := by
              rcases Nat.lt_or_ge e.on acc.size with hh | hh
              · exact hh
              · simp [Array.getD_eq_getD_getElem?, Array.getElem?_eq_none hh] at hx
            exact .inr ⟨by omega, by rw [h2 _ (by omega), hold _ hlt]; exact hx⟩
      | succ j =>
        have := h3 j o' (by simpa using ho) i (by rw [hs, show acc.size + 1 + j = acc.size + (j + 1) by omega]; exact hb)
        rw [hs, show acc.size + 1 + j = acc.size + (j + 1) by omega] at this
        exact this

theorem pred_edge {ops : Array Oper} {j i : Nat} (h : Pred ops j i) : ∃ o, ops[j]? = some o ∧ ∃ e ∈ o.after.toList, Region.binds .any e = true ∧ (e.on = i ∨ (e.on < j ∧ Pred ops e.on i)) := by
  unfold Pred before at h
  have e0 : Region.before ops = ops.toList.foldl befStep #[] := by
    unfold Region.before; rw [← Array.foldl_toList]; rfl
  have eg : ∀ k, (Region.before ops).toList.getD k 0 = (ops.toList.foldl befStep #[]).getD k 0 := by
    intro k; rw [e0]; simp [List.getD_eq_getElem?_getD]
  obtain ⟨h1, _, h3⟩ := befStep_fold ops.toList #[]
  rw [eg] at h
  have hlt : j < ops.size := by
    rcases Nat.lt_or_ge j ops.size with hh | hh
    · exact hh
    · rw [Array.getD_eq_getD_getElem?, Array.getElem?_eq_none (by rw [h1]; simpa using hh)] at h
      simp at h
  have ho : ops.toList[j]? = some ops[j] := by simp [hlt]
  have := h3 j ops[j] ho i (by simpa using h)
  obtain ⟨e, he, hb, hx⟩ := this
  refine ⟨ops[j], by simp [hlt], e, he, hb, ?_⟩
  rcases hx with hx | ⟨hx1, hx2⟩
  · exact .inl hx
  · refine .inr ⟨by simpa using hx1, ?_⟩
    unfold Pred before
    rw [eg]; exact hx2

/-- What drawOK says. -/
structure DrawFacts (P : Program) (ops : Array Oper) : Prop where
  kind : ∀ (i : Nat) (o : Oper), ops[i]? = some o → ∃ k, kindOf P o = some k
  edge : ∀ (i : Nat) (o : Oper), ops[i]? = some o → ∀ e ∈ o.after.toList, Region.binds .any e = true → e.on < i
  guard : ∀ (i : Nat) (o : Oper) (j : Nat) (want : Bool), ops[i]? = some o → o.guard = some (j, want) → j < i ∧ Pred ops i j
  chain : ∀ (i j : Nat) (oi oj : Oper), ops[i]? = some oi → ops[j]? = some oj → i < j → kindOf P oi = some .effect → kindOf P oj = some .effect → Pred ops j i
  regs : ∀ (i j : Nat) (oi oj : Oper) (d : Tmp), ops[i]? = some oi → ops[j]? = some oj → oi.dst = some d → i ≠ j → (d ∈ tmpsOf oj ops ∨ oj.dst = some d) → Pred ops (max i j) (min i j)

theorem draw_facts {ops : Array Oper} (h : drawOK P ops (before ops) = true) : DrawFacts P ops := by
  simp only [drawOK, Bool.and_eq_true] at h
  obtain ⟨⟨h1, h2⟩, h3⟩ := h
  have mem : ∀ {i : Nat} {o : Oper}, ops[i]? = some o → (o, i) ∈ ops.toList.zipIdx := by
    intro i o ho
    rw [List.mem_zipIdx_iff_getElem?]
    simpa using ho
  have g1 := fun (i : Nat) (o : Oper) (ho : ops[i]? = some o) => List.all_eq_true.1 h1 _ (mem ho)
  refine ⟨?_, ?_, ?_, ?_, ?_⟩
  · intro i o ho
    have := g1 i o ho
    simp only [Bool.and_eq_true] at this
    exact Option.isSome_iff_exists.1 this.1.1
  · intro i o ho e he hb
    have := g1 i o ho
    simp only [Bool.and_eq_true] at this
    have := List.all_eq_true.1 this.1.2 e he
    simp only [hb, Bool.not_true, Bool.or_false] at this
    exact blt_iff.1 this
  · intro i o j want ho hg
    have := g1 i o ho
    simp only [Bool.and_eq_true, hg] at this
    exact ⟨blt_iff.1 this.2.1, this.2.2⟩
  · intro i j oi oj hoi hoj hlt hki hkj
    have := List.all_eq_true.1 (List.all_eq_true.1 h2 _ (mem hoi)) _ (mem hoj)
    simp only [hki, hkj, beq_self_eq_true, Bool.true_and, blt_iff.2 hlt, Bool.not_true, Bool.false_or] at this
    exact this
  · intro i j oi oj d hoi hoj hd hne hor
    unfold regsOK at h3
    have := List.all_eq_true.1 h3 _ (mem hoi)
    simp only [hd] at this
    have := List.all_eq_true.1 this _ (mem hoj)
    have hb : Nat.beq i j = false := by
      cases hb : Nat.beq i j with
      | false => rfl
      | true => exact absurd (beq_iff.1 hb) hne
    have hx : ((tmpsOf oj ops).any (Nat.beq d) || dstIs oj d) = true := by
      rcases hor with hor | hor
      · simp only [Bool.or_eq_true]; left
        exact List.any_eq_true.2 ⟨d, hor, by simp⟩
      · simp [dstIs, hor]
    simp only [hb, hx, Bool.not_true, Bool.false_or] at this
    exact this

/-! Slots as a set of operations leaves them. -/
def dstAt (ops : Array Oper) (i : Nat) : Option Tmp := (ops[i]?).bind (·.dst)

def env (ops : Array Oper) (f0 : T Value) (rv : Nat → Option Value) (D : Nat → Bool) : Nat → Tmp → Option Value
  | 0, t => f0.get t
  | i + 1, t => if D i = true ∧ dstAt ops i = some t then rv i else env ops f0 rv D i t

theorem env_congr {ops : Array Oper} {f0 : T Value} {rv : Nat → Option Value} {D D' : Nat → Bool} (t : Tmp) : ∀ (m : Nat), (∀ i, i < m → dstAt ops i = some t → D i = D' i) → env ops f0 rv D m t = env ops f0 rv D' m t
  | 0, _ => rfl
  | m + 1, h => by
    simp only [env]
    have ih := env_congr (f0 := f0) (rv := rv) (D := D) (D' := D') t m (fun i hi => h i (by omega))
    by_cases hd : dstAt ops m = some t
    · rw [h m (by omega) hd, ih]
    · rw [if_neg (fun e => hd e.2), if_neg (fun e => hd e.2), ih]

theorem env_skip {ops : Array Oper} {f0 : T Value} {rv : Nat → Option Value} {D : Nat → Bool} (t : Tmp) (j : Nat) : ∀ (m : Nat), j ≤ m → (∀ i, j ≤ i → i < m → dstAt ops i = some t → D i = false) → env ops f0 rv D m t = env ops f0 rv D j t
  | 0, hj, _ => by rw [show j = 0 by omega]
  | m + 1, hj, h => by
    by_cases e : j = m + 1
    · rw [e]
    · simp only [env]
      rw [if_neg (fun hh => by rw [h m (by omega) (by omega) hh.2] at hh; simp at hh)]
      exact env_skip t j m (by omega) (fun i h1 h2 => h i h1 (by omega))

end Go.AM
