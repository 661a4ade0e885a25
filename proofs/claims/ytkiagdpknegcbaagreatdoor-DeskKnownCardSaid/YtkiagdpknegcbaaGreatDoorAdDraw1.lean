/-
  An abstract machine for the model: a region that draws its order: the run in the text's order, laid open; what stands ahead of what.
-/
import Derived.Test.YtkiagdpknegcbaaGreatDoorAdDrawOps
namespace Go.AM
open Go

variable {P : Program} {C : CF} {NG : Nat}

theorem evalA_congr {fr fr' : T Value} (h : ∀ t, fr.get t = fr'.get t) (X : H) : evalA NG fr X = evalA NG fr' X := by
  funext x
  cases x with
  | tmp t => exact h t
  | _ => rfl

def wantedB (fr : T Value) (ops : Array Oper) (o : Oper) : Option Bool :=
  match o.guard with
  | none => some true
  | some (j, want) =>
    match (ops[j]?).bind (·.dst) with
    | none => none
    | some d => match fr.get d with
      | some (.bool b) => some (b == want)
      | some (.tuple _) => some false
      | _ => none

def Row (P : Program) (C : CF) (NG : Nat) (ops : Array Oper) (o : Oper) (f : T Value) (h : H) (r : Option Value) (f' : T Value) (h' : H) : Prop :=
  (∀ t, f'.get t = if o.dst = some t then r else f.get t) ∧
  ((wantedB f ops o = some false ∧ r = some undef ∧ h' = h) ∨ (wantedB f ops o = some true ∧ aop P C (evalA NG f h) h o pairK = some (r, h')))

theorem putA_get (fr : T Value) (dst : Option Tmp) (v : Option Value) (t : Tmp) : (putA fr dst v).get t = if dst = some t then v else fr.get t := by
  cases dst with
  | none => simp [putA]
  | some d =>
    simp only [putA, T.get_set]
    by_cases h : t = d
    · subst h; simp
    · rw [if_neg h, if_neg (by simpa using fun e => h e.symm)]

theorem set_same_get {fr : T Value} {d : Tmp} {v : Value} (h : fr.get d = some v) (t : Tmp) : (fr.set d (some v)).get t = fr.get t := by
  rw [T.get_set]; split
  · rename_i e; subst e; exact h.symm
  · rfl

def upd {α : Type} (F : Nat → α) (k : Nat) (x : α) : Nat → α := fun i => if i = k then x else F i
theorem upd_same {α : Type} (F : Nat → α) (k : Nat) (x : α) : upd F k x k = x := by simp [upd]
theorem upd_ne {α : Type} (F : Nat → α) {k i : Nat} (x : α) (h : i ≠ k) : upd F k x i = F i := by simp [upd, h]

/-- The operation i ran, and is of that kind. -/
def Ran (P : Program) (ops : Array Oper) (F : Nat → T Value) (i : Nat) (o : Oper) (k : OK) : Prop :=
  ops[i]? = some o ∧ wantedB (F i) ops o = some true ∧ kindOf P o = some k

def Pred (ops : Array Oper) (j i : Nat) : Prop := Nat.testBit ((before ops).getD j 0) i = true

abbrev TraceFrom {β : Type} (P : Program) (C : CF) (NG : Nat) (ops : Array Oper) (K : T Value → H → Option β) (r : β) (k : Nat) (fr : T Value) (h : H) (es : List (Nat × H)) (ls : List (Nat × Oper × T Value × Value)) : Prop :=
    ∃ (F : Nat → T Value) (Hh : Nat → H) (rv : Nat → Option Value), k ≤ max k ops.size ∧ F k = fr ∧ Hh k = h ∧ K (F (max k ops.size)) (Hh (max k ops.size)) = some r ∧
      (∀ i, k ≤ i → i < ops.size → ∃ o, ops[i]? = some o ∧ Row P C NG ops o (F i) (Hh i) (rv i) (F (i + 1)) (Hh (i + 1))) ∧
      (∀ i o v, k ≤ i → Ran P ops F i o .reads → rv i = some v → ∀ p hp, (p, hp) ∈ es → Pred ops i p ∨ recheck P NG o (F i) hp v = true) ∧
      (∀ p o, k ≤ p → Ran P ops F p o .effect → ∀ j oj frj vj, (j, oj, frj, vj) ∈ ls → Pred ops p j ∨ recheck P NG oj frj (Hh (p + 1)) vj = true) ∧
      (∀ p i o o' v, k ≤ p → p < i → Ran P ops F p o .effect → Ran P ops F i o' .reads → rv i = some v → Pred ops i p ∨ recheck P NG o' (F i) (Hh p) v = true) ∧
      (∀ i p o o' v, k ≤ i → i < p → Ran P ops F p o .effect → Ran P ops F i o' .reads → rv i = some v → Pred ops p i ∨ recheck P NG o' (F i) (Hh (p + 1)) v = true) ∧
      (∀ i o, k ≤ i → Ran P ops F i o .reads → ∃ v, rv i = some v)

theorem runD_trace {β : Type} {ops : Array Oper} {K : T Value → H → Option β} {r : β} : ∀ (l : List Oper) (k : Nat) (fr : T Value) (h : H) (es : List (Nat × H)) (ls : List (Nat × Oper × T Value × Value)),
    ops.toList.drop k = l → runD P C NG ops (before ops) k l fr h es ls K = some r →
    TraceFrom P C NG ops K r k fr h es ls := by
  intro l
  induction l with
  | nil =>
    intro k fr h es ls hl hr
    have hk : ops.size ≤ k := by
      have := congrArg List.length hl
      simp at this; omega
    have hno : ∀ {F : Nat → T Value} {i : Nat} {o : Oper} {kd : OK}, k ≤ i → Ran P ops F i o kd → False := by
      intro F i o kd hi hran
      have := (Array.getElem?_eq_some_iff.1 hran.1).1
      omega
    refine ⟨fun _ => fr, fun _ => h, fun _ => none, by omega, rfl, rfl, hr, fun i h1 h2 => absurd h2 (by omega), ?_, ?_, ?_, ?_, ?_⟩
    · intro i o v hi hran; exact (hno hi hran).elim
    · intro p o hp hran; exact (hno hp hran).elim
    · intro p i o o' v hp _ hran; exact (hno hp hran).elim
    · intro i p o o' v hi hip hran; exact (hno (by omega) hran).elim
    · intro i o hi hran; exact (hno hi hran).elim
  | cons o rest ih =>
    intro k fr h es ls hl hr
    have hlt : k < ops.size := by
      have := congrArg List.length hl
      simp at this; omega
    have ho : ops[k]? = some o := by
      have : (ops.toList.drop k)[0]? = some o := by rw [hl]; rfl
      simpa using this
    have hrest : ops.toList.drop (k + 1) = rest := by
      have : (ops.toList.drop k).drop 1 = rest := by rw [hl]; rfl
      rw [List.drop_drop] at this; exact this
    have hmax : max (k + 1) ops.size = max k ops.size := by omega
    have hcong : ∀ {fr1 fr2 : T Value}, (∀ t, fr1.get t = fr2.get t) → ∀ (o : Oper) (X : H) (v : Value), recheck P NG o fr1 X v = recheck P NG o fr2 X v := by
      intro fr1 fr2 he o X v; unfold recheck; rw [evalA_congr he]
    -- the joint: what holds from k + 1 on, with the row k ahead of it
    have joint : ∀ (fr1 : T Value) (rvk : Option Value) (h1 : H) (es1 : List (Nat × H)) (ls1 : List (Nat × Oper × T Value × Value)), (∀ t, fr1.get t = fr.get t) →
        runD P C NG ops (before ops) (k + 1) rest (putA fr1 o.dst rvk) h1 es1 ls1 K = some r →
        ((wantedB fr ops o = some false ∧ rvk = some undef ∧ h1 = h) ∨ (wantedB fr ops o = some true ∧ aop P C (evalA NG fr h) h o pairK = some (rvk, h1))) →
        (∀ p hp, (p, hp) ∈ es → (p, hp) ∈ es1) → (∀ j oj frj vj, (j, oj, frj, vj) ∈ ls → (j, oj, frj, vj) ∈ ls1) →
        (wantedB fr ops o = some true → kindOf P o = some .effect → (k, h) ∈ es1 ∧ ∀ j oj frj vj, (j, oj, frj, vj) ∈ ls → Pred ops k j ∨ recheck P NG oj frj h1 vj = true) →
        (wantedB fr ops o = some true → kindOf P o = some .reads → ∃ v fr2, rvk = some v ∧ (∀ t, fr2.get t = fr.get t) ∧ (k, o, fr2, v) ∈ ls1 ∧ ∀ p hp, (p, hp) ∈ es → Pred ops k p ∨ recheck P NG o fr2 hp v = true) →
        TraceFrom P C NG ops K r k fr h es ls := by
      intro fr1 rvk h1 es1 ls1 hfr hrun hrow hes hls heff hrd
      obtain ⟨F, Hh, rv, _, hF, hH, hK, hrows, q1, q2, q3, q4, q5⟩ := ih (k + 1) _ _ _ _ hrest hrun
      have fu : ∀ i, i ≠ k → upd F k fr i = F i := fun i hi => upd_ne F fr hi
      have hu : ∀ i, i ≠ k → upd Hh k h i = Hh i := fun i hi => upd_ne Hh h hi
      have ru : ∀ i, i ≠ k → upd rv k rvk i = rv i := fun i hi => upd_ne rv rvk hi
      have ranu : ∀ i o kd, i ≠ k → Ran P ops (upd F k fr) i o kd → Ran P ops F i o kd := by
        intro i o kd hi hran; unfold Ran at hran ⊢; rw [fu i hi] at hran; exact hran
      have rank : ∀ o2 kd, Ran P ops (upd F k fr) k o2 kd → o2 = o ∧ wantedB fr ops o = some true ∧ kindOf P o = some kd := by
        intro o2 kd hran
        unfold Ran at hran
        rw [upd_same] at hran
        have : o2 = o := by have := hran.1; rw [ho] at this; simpa using this.symm
        subst this
        exact ⟨rfl, hran.2.1, hran.2.2⟩
      refine ⟨upd F k fr, upd Hh k h, upd rv k rvk, by omega, upd_same _ _ _, upd_same _ _ _, ?_, ?_, ?_, ?_, ?_, ?_, ?_⟩
      · rw [fu _ (by omega), hu _ (by omega), ← hmax]; exact hK
      · intro i h1' h2'
        by_cases hi : i = k
        · subst hi
          refine ⟨o, ho, ?_⟩
          rw [upd_same, upd_same, upd_same, fu _ (by omega), hu _ (by omega), hF, hH]
          refine ⟨fun t => by rw [putA_get, hfr], hrow⟩
        · obtain ⟨o2, e1, e2⟩ := hrows i (by omega) h2'
          exact ⟨o2, e1, by rw [fu i hi, hu i hi, ru i hi, fu _ (by omega), hu _ (by omega)]; exact e2⟩
      · intro i o2 v hi hran hv p hp hmem
        by_cases hik : i = k
        · subst hik
          obtain ⟨rfl, hw, hkd⟩ := rank _ _ hran
          obtain ⟨v', fr2, hv', hfr2, _, hchk⟩ := hrd hw hkd
          rw [upd_same] at hv ⊢
          rw [hv'] at hv; simp at hv; subst hv
          rw [hcong (fun t => (hfr2 t).symm)]
          exact hchk p hp hmem
        · rw [fu i hik]
          exact q1 i o2 v (by omega) (ranu i o2 _ hik hran) (by rw [← ru i hik]; exact hv) p hp (hes p hp hmem)
      · intro p o2 hp hran j oj frj vj hmem
        by_cases hpk : p = k
        · subst hpk
          obtain ⟨rfl, hw, hkd⟩ := rank _ _ hran
          rw [hu _ (by omega), hH]
          exact (heff hw hkd).2 j oj frj vj hmem
        · rw [hu _ (by omega)]
          exact q2 p o2 (by omega) (ranu p o2 _ hpk hran) j oj frj vj (hls _ _ _ _ hmem)
      · intro p i o2 o3 v hp hpi hran hran' hv
        rw [fu i (by omega)]
        rw [ru i (by omega)] at hv
        by_cases hpk : p = k
        · subst hpk
          obtain ⟨rfl, hw, hkd⟩ := rank _ _ hran
          rw [upd_same]
          exact q1 i o3 v (by omega) (ranu i o3 _ (by omega) hran') hv _ _ (heff hw hkd).1
        · rw [hu p hpk]
          exact q3 p i o2 o3 v (by omega) hpi (ranu p o2 _ hpk hran) (ranu i o3 _ (by omega) hran') hv
      · intro i p o2 o3 v hi hip hran hran' hv
        rw [hu (p + 1) (by omega)]
        by_cases hik : i = k
        · subst hik
          obtain ⟨rfl, hw, hkd⟩ := rank _ _ hran'
          obtain ⟨v', fr2, hv', hfr2, hm, _⟩ := hrd hw hkd
          rw [upd_same] at hv ⊢
          rw [hv'] at hv; simp at hv; subst hv
          rw [hcong (fun t => (hfr2 t).symm)]
          exact q2 p o2 (by omega) (ranu p o2 _ (by omega) hran) _ _ _ _ hm
        · rw [fu i hik]
          rw [ru i hik] at hv
          exact q4 i p o2 o3 v (by omega) hip (ranu p o2 _ (by omega) hran) (ranu i o3 _ hik hran') hv
      · intro i o2 hi hran
        by_cases hik : i = k
        · subst hik
          obtain ⟨rfl, hw, hkd⟩ := rank _ _ hran
          obtain ⟨v', fr2, hv', _⟩ := hrd hw hkd
          rw [upd_same]; exact ⟨v', hv'⟩
        · rw [ru i hik]
          exact q5 i o2 (by omega) (ranu i o2 _ hik hran)
    have skip : ∀ (fr1 : T Value), (∀ t, fr1.get t = fr.get t) → wantedB fr ops o = some false → runD P C NG ops (before ops) (k + 1) rest (putA fr1 o.dst (some undef)) h es ls K = some r → TraceFrom P C NG ops K r k fr h es ls :=
      fun fr1 hfr hw hrun => joint fr1 (some undef) h es ls hfr hrun (.inl ⟨hw, rfl, rfl⟩) (fun _ _ hm => hm) (fun _ _ _ _ hm => hm) (fun h1 => by rw [hw] at h1; simp at h1) (fun h1 => by rw [hw] at h1; simp at h1)
    have run : ∀ (fr1 : T Value), (∀ t, fr1.get t = fr.get t) → wantedB fr ops o = some true →
        (match kindOf P o with
        | some .effect => aop P C (evalA NG fr1 h) h o <| typedK P o fun rv h' =>
          bif ls.all (fun (j, oj, frj, vj) => Nat.testBit ((before ops).getD k 0) j || recheck P NG oj frj h' vj) then
            runD P C NG ops (before ops) (k + 1) rest (putA fr1 o.dst rv) h' ((k, h) :: es) ls K else none
        | some .reads => aop P C (evalA NG fr1 h) h o <| typedK P o fun rv h' =>
          (match rv with
           | some v => bif es.all (fun (p, hp) => Nat.testBit ((before ops).getD k 0) p || recheck P NG o fr1 hp v) then
              runD P C NG ops (before ops) (k + 1) rest (putA fr1 o.dst rv) h' es ((k, o, fr1, v) :: ls) K else none
           | none => none)
        | some _ => aop P C (evalA NG fr1 h) h o <| typedK P o fun rv h' => runD P C NG ops (before ops) (k + 1) rest (putA fr1 o.dst rv) h' es ls K
        | none => none) = some r → TraceFrom P C NG ops K r k fr h es ls := by
      intro fr1 hfr hw hrun
      have hev : evalA NG fr1 h = evalA NG fr h := evalA_congr hfr h
      rw [hev] at hrun
      split at hrun
      · rename_i hkd
        rw [aop_pair] at hrun
        obtain ⟨⟨rvk, h1⟩, hop, hrun⟩ := bind_some hrun
        replace hrun := typedK_some hrun
        obtain ⟨hall, hrun⟩ := cond_some hrun
        refine joint fr1 rvk h1 _ _ hfr hrun (.inr ⟨hw, hop⟩) (fun _ _ hm => List.mem_cons_of_mem _ hm) (fun _ _ _ _ hm => hm) (fun _ _ => ⟨by simp, fun j oj frj vj hmem => ?_⟩) (fun _ hk2 => by rw [hkd] at hk2; simp at hk2)
        have := List.all_eq_true.1 hall _ hmem
        simpa [Bool.or_eq_true, Pred] using this
      · rename_i hkd
        rw [aop_pair] at hrun
        obtain ⟨⟨rvk, h1⟩, hop, hrun⟩ := bind_some hrun
        replace hrun := typedK_some hrun
        simp only at hrun
        split at hrun
        · rename_i v
          obtain ⟨hall, hrun⟩ := cond_some hrun
          refine joint fr1 _ h1 _ _ hfr hrun (.inr ⟨hw, hop⟩) (fun _ _ hm => hm) (fun _ _ _ _ hm => List.mem_cons_of_mem _ hm) (fun _ hk2 => by rw [hkd] at hk2; simp at hk2) (fun _ _ => ⟨v, fr1, rfl, hfr, by simp, fun p hp hmem => ?_⟩)
          have := List.all_eq_true.1 hall _ hmem
          simpa [Bool.or_eq_true, Pred] using this
        · simp at hrun
      · rename_i kd hne1 hne2 hkd
        rw [aop_pair] at hrun
        obtain ⟨⟨rvk, h1⟩, hop, hrun⟩ := bind_some hrun
        replace hrun := typedK_some hrun
        exact joint fr1 rvk h1 _ _ hfr hrun (.inr ⟨hw, hop⟩) (fun _ _ hm => hm) (fun _ _ _ _ hm => hm) (fun _ hk2 => by rw [hkd] at hk2; simp at hk2; exact absurd hk2 hne1) (fun _ hk2 => by rw [hkd] at hk2; simp at hk2; exact absurd hk2 hne2)
      · simp at hrun
    simp only [runD] at hr
    split at hr
    · rename_i hg
      exact run fr (fun _ => rfl) (by simp [wantedB, hg]) hr
    · rename_i j want hg
      split at hr
      · simp at hr
      · rename_i d hdj
        split at hr
        · rename_i b hb
          have hw : wantedB fr ops o = some (b == want) := by simp only [wantedB, hg, hdj, hb]
          cases b with
          | true =>
            simp only [cond_true] at hr
            cases want with
            | true => exact run _ (set_same_get hb) (hw.trans rfl) hr
            | false => exact skip _ (set_same_get hb) (hw.trans rfl) hr
          | false =>
            simp only [cond_false] at hr
            cases want with
            | true => exact skip _ (set_same_get hb) (hw.trans rfl) hr
            | false => exact run _ (set_same_get hb) (hw.trans rfl) hr
        · rename_i vs hb
          exact skip fr (fun _ => rfl) (by simp only [wantedB, hg, hdj, hb]) hr
        · simp at hr

end Go.AM
