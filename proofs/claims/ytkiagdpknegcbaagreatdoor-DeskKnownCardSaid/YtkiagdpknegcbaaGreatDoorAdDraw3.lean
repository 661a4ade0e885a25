/-
  An abstract machine for the model: a region that draws its order: what is kept while its operations run in whatever order.
-/
import Derived.Test.YtkiagdpknegcbaaGreatDoorAdDraw2
namespace Go.AM
open Go

variable {P : Program} {NG nt : Nat} {C : CF}

theorem evalL_congr {ρ ρ' : Operand → Option Value} : ∀ {xs : List Operand}, (∀ x ∈ xs, ρ x = ρ' x) → evalL ρ xs = evalL ρ' xs
  | [], _ => rfl
  | x :: xs, h => by
    simp only [evalL]
    rw [h x (by simp), evalL_congr fun y hy => h y (by simp [hy])]

theorem evalO_congr {ρ ρ' : Operand → Option Value} {x : Option Operand} (h : ∀ y ∈ x.toArray, ρ y = ρ' y) : evalO ρ x = evalO ρ' x := by
  cases x with
  | none => rfl
  | some x => simp only [evalO]; rw [h x (by simp)]

theorem partsP_congr {ρ ρ' : Operand → Option Value} (place : Nat → Option (Nat × Nat)) : ∀ {ps : List (Nat × Operand)}, (∀ x ∈ ps.map (·.2), ρ x = ρ' x) → partsP ρ place ps = partsP ρ' place ps
  | [], _ => rfl
  | (i, x) :: r, h => by
    simp only [partsP]
    rw [h x (by simp), partsP_congr place fun y hy => h y (by simp at hy ⊢; exact .inr hy)]

theorem aop_congr {β : Type} {ρ ρ' : Operand → Option Value} (h : H) (o : Oper) (K : Option Value → H → Option β) (he : ∀ x ∈ o.op.operands, ρ x = ρ' x) :
    aop P C ρ h o K = aop P C ρ' h o K := by
  obtain ⟨dst, op, type, pos, after, guard⟩ := o
  cases op with
  | build t ps => simp only [Op.operands] at he; simp only [aop]; rw [partsP_congr _ (fun x hx => he x (by simpa using hx))]
  | buildSlice t n ps =>
    simp only [Op.operands] at he
    have hpp := fun pl => partsP_congr (ρ := ρ) (ρ' := ρ') pl (ps := ps.toList) (fun x hx => he x (by simpa using hx))
    simp only [aop, hpp]
  | makeFunc f a b =>
    simp only [Op.operands] at he
    cases f <;> simp only [aop]
    rw [evalL_congr (xs := a.toList) (fun x hx => he x (by simp at hx ⊢; exact .inl hx)), evalL_congr (xs := b.toList) (fun x hx => he x (by simp at hx ⊢; exact .inr hx))]
  | slice t x lo hi mx =>
    simp only [Op.operands] at he
    simp only [aop]
    rw [he x (by simp), evalO_congr (x := lo) (fun y hy => he y (by simp at hy ⊢; simp [hy])), evalO_congr (x := hi) (fun y hy => he y (by simp at hy ⊢; simp [hy])), evalO_congr (x := mx) (fun y hy => he y (by simp at hy ⊢; simp [hy]))]
  | call c =>
    obtain ⟨callee, args, argTypes⟩ := c
    simp only [Op.operands, Call.operands] at he
    have hl : evalL ρ args.toList = evalL ρ' args.toList := evalL_congr (fun x hx => he x (by simp at hx ⊢; exact .inr hx))
    cases callee with
    | value f => simp only [aop]; rw [he f (by simp), hl]
    | builtin b => simp only [aop]; rw [hl]
    | invoke a b => rfl
  | pick c a b => simp only [Op.operands] at he; simp only [aop]; rw [he c (by simp), he a (by simp), he b (by simp)]
  | move x => simp only [Op.operands] at he; simp only [aop]; rw [he x (by simp)]
  | assign x => simp only [Op.operands] at he; simp only [aop]; rw [he x (by simp)]
  | box t x => simp only [Op.operands] at he; simp only [aop]; rw [he x (by simp)]
  | load t x => simp only [Op.operands] at he; simp only [aop]; rw [he x (by simp)]
  | store t x y => simp only [Op.operands] at he; simp only [aop]; rw [he x (by simp), he y (by simp)]
  | nilCheck x => simp only [Op.operands] at he; simp only [aop]; rw [he x (by simp)]
  | binOp op t x y t2 => simp only [Op.operands] at he; simp only [aop]; rw [he x (by simp), he y (by simp)]
  | unOp op t x => simp only [Op.operands] at he; simp only [aop]; rw [he x (by simp)]
  | convert s d x => simp only [Op.operands] at he; simp only [aop]; rw [he x (by simp)]
  | makeSlice t l c => simp only [Op.operands] at he; simp only [aop]; rw [he l (by simp), he c (by simp)]
  | fieldAddr t x i => simp only [Op.operands] at he; simp only [aop]; rw [he x (by simp)]
  | field t x i => simp only [Op.operands] at he; simp only [aop]; rw [he x (by simp)]
  | indexAddr t x i => simp only [Op.operands] at he; simp only [aop]; rw [he x (by simp), he i (by simp)]
  | index t x i => simp only [Op.operands] at he; simp only [aop]; rw [he x (by simp), he i (by simp)]
  | extract x i => simp only [Op.operands] at he; simp only [aop]; rw [he x (by simp)]
  | makeMap t r => cases r <;> rfl
  | lookup t x k co => simp only [Op.operands] at he; simp only [aop]; rw [he x (by simp), he k (by simp)]
  | mapUpdate t x k y => simp only [Op.operands] at he; simp only [aop]; rw [he x (by simp), he k (by simp), he y (by simp)]
  | insert t x k y => simp only [Op.operands] at he; simp only [aop]; rw [he x (by simp), he k (by simp), he y (by simp)]
  | range t x => simp only [Op.operands] at he; simp only [aop]; rw [he x (by simp)]
  | next x s => simp only [Op.operands] at he; simp only [aop]; rw [he x (by simp)]
  | entry x => simp only [Op.operands] at he; simp only [aop]; rw [he x (by simp)]
  | _ => rfl

/-- The text's run of a region. -/
structure Trace (P : Program) (C : CF) (NG : Nat) (ops : Array Oper) (F : Nat → T Value) (Hh : Nat → H) (rv : Nat → Option Value) : Prop where
  row : ∀ i, i < ops.size → ∃ o, ops[i]? = some o ∧ Row P C NG ops o (F i) (Hh i) (rv i) (F (i + 1)) (Hh (i + 1))
  c1 : ∀ p i o o' v, p < i → Ran P ops F p o .effect → Ran P ops F i o' .reads → rv i = some v → Pred ops i p ∨ recheck P NG o' (F i) (Hh p) v = true
  c2 : ∀ i p o o' v, i < p → Ran P ops F p o .effect → Ran P ops F i o' .reads → rv i = some v → Pred ops p i ∨ recheck P NG o' (F i) (Hh (p + 1)) v = true
  c5 : ∀ i o, Ran P ops F i o .reads → ∃ v, rv i = some v

section
variable {ops : Array Oper} {F : Nat → T Value} {Hh : Nat → H} {rv : Nat → Option Value}

def Eff (P : Program) (ops : Array Oper) (F : Nat → T Value) (i : Nat) : Prop := ∃ o, Ran P ops F i o .effect
def Mk (P : Program) (ops : Array Oper) (F : Nat → T Value) (Hh : Nat → H) (i : Nat) (b : Blk) : Prop :=
  (∃ o, Ran P ops F i o .makes) ∧ b.owned = true ∧ Hh (i + 1) = (Hh i).push b

theorem Ran.lt {i : Nat} {o : Oper} {k : OK} (h : Ran P ops F i o k) : i < ops.size := (Array.getElem?_eq_some_iff.1 h.1).1

/-- A row whose operation ran. -/
theorem Trace.ran (tr : Trace P C NG ops F Hh rv) {i : Nat} {o : Oper} {k : OK} (h : Ran P ops F i o k) :
    aop P C (evalA NG (F i) (Hh i)) (Hh i) o pairK = some (rv i, Hh (i + 1)) := by
  obtain ⟨o', ho, _, hr⟩ := tr.row i h.lt
  have : o' = o := by have := h.1; rw [ho] at this; simpa using this
  subst this
  rcases hr with ⟨hw, _⟩ | ⟨_, hr⟩
  · rw [h.2.1] at hw; simp at hw
  · exact hr

theorem reads_at {o : Oper} (hk : kindOf P o = some .reads) {fr : T Value} {X : H} {v : Value} {h' : H} (h : aop P C (evalA NG fr X) X o pairK = some (some v, h')) : h' = X := by
  have e : aop P C (evalA NG fr X) X o (fun rv _ => rv) = some v := by rw [aop_pair, h]; rfl
  have := reads_mono hk (fun _ => rfl) ⟨Nat.le_refl _, fun _ _ h => h⟩ e C
  rw [this] at h
  simp only [Option.some.injEq, Prod.mk.injEq, true_and] at h
  exact h.symm

/-- What a row without effects does to the heap. -/
theorem Trace.quiet (tr : Trace P C NG ops F Hh rv) (DF : DrawFacts P ops) {i : Nat} (hi : i < ops.size) (he : ¬ Eff P ops F i) : Hh (i + 1) = Hh i ∨ ∃ b, Mk P ops F Hh i b := by
  obtain ⟨o, ho, _, hr⟩ := tr.row i hi
  rcases hr with ⟨_, _, hr⟩ | ⟨hw, hr⟩
  · exact .inl hr
  · obtain ⟨k, hk⟩ := DF.kind i o ho
    cases k with
    | effect => exact absurd ⟨o, ho, hw, hk⟩ he
    | pure => exact .inl (pure_any hk hr).1
    | reads =>
      obtain ⟨v, hv⟩ := tr.c5 i o ⟨ho, hw, hk⟩
      rw [hv] at hr
      exact .inl (reads_at hk hr)
    | makes =>
      obtain ⟨b, hb, he, _⟩ := makes_any hk hr
      exact .inr ⟨b, ⟨o, ho, hw, hk⟩, hb, he⟩

theorem Trace.next_succ (hzp : zerosPlain P = true) (hC : CallsOK P NG C) (tr : Trace P C NG ops F Hh rv) {i : Nat} (hi : i < ops.size) : (Hh i).next ≤ (Hh (i + 1)).next := by
  obtain ⟨o, ho, _, hr⟩ := tr.row i hi
  rcases hr with ⟨_, _, hr⟩ | ⟨hw, hr⟩
  · rw [hr]; exact Nat.le_refl _
  · obtain ⟨rv', h', hk, hs⟩ := aop_sound hzp hC hr
    simp only [pairK, Option.some.injEq, Prod.mk.injEq] at hk
    obtain ⟨rfl, rfl⟩ := hk
    exact hs.1

theorem Trace.next_mono (hzp : zerosPlain P = true) (hC : CallsOK P NG C) (tr : Trace P C NG ops F Hh rv) : ∀ {i j : Nat}, i ≤ j → j ≤ ops.size → (Hh i).next ≤ (Hh j).next := by
  intro i j hij
  induction hij with
  | refl => intro _; exact Nat.le_refl _
  | step _ ih => intro hj; exact Nat.le_trans (ih (by omega)) (tr.next_succ hzp hC (by omega))

def Wf (h : H) : Prop := ∀ id b, h.get id = some b → id < h.next

/-- Between two effects blocks come alone. -/
theorem Trace.between (tr : Trace P C NG ops F Hh rv) (DF : DrawFacts P ops) {q : Nat} (hw : Wf (Hh q)) : ∀ (d : Nat), q + d ≤ ops.size → (∀ i, q ≤ i → i < q + d → ¬ Eff P ops F i) →
    Wf (Hh (q + d)) ∧ LEh (Hh q) (Hh (q + d)) ∧ (∀ i b, q ≤ i → i < q + d → Mk P ops F Hh i b → (Hh (q + d)).get (Hh i).next = some b) ∧
    ∀ id b, (Hh (q + d)).get id = some b → (Hh q).get id = some b ∨ ∃ i, q ≤ i ∧ i < q + d ∧ Mk P ops F Hh i b ∧ id = (Hh i).next := by
  intro d
  induction d with
  | zero => intro _ _; exact ⟨hw, ⟨Nat.le_refl _, fun _ _ h => h⟩, fun i b h1 h2 => absurd h2 (by omega), fun id b h => .inl h⟩
  | succ d ih =>
    intro hle hne
    obtain ⟨w1, l1, m1, g1⟩ := ih (by omega) (fun i h1 h2 => hne i h1 (by omega))
    rcases tr.quiet DF (i := q + d) (by omega) (hne _ (by omega) (by omega)) with he | ⟨b0, hm⟩
    · rw [show q + (d + 1) = q + d + 1 by omega, he]
      refine ⟨w1, l1, fun i b h1 h2 hm => ?_, fun id b h => ?_⟩
      · by_cases hi : i = q + d
        · subst hi
          have := congrArg H.next hm.2.2
          rw [he] at this; simp at this
        · exact m1 i b h1 (by omega) hm
      · rcases g1 id b h with h | ⟨i, h1, h2, h3⟩
        · exact .inl h
        · exact .inr ⟨i, h1, by omega, h3⟩
    · have he := hm.2.2
      rw [show q + (d + 1) = q + d + 1 by omega, he]
      refine ⟨fun id b h => ?_, ⟨by simp; have := l1.1; omega, fun id b h => ?_⟩, fun i b h1 h2 hm' => ?_, fun id b h => ?_⟩
      · rw [H.get_push] at h
        split at h
        · rename_i e; subst e; simp
        · have := w1 id b h; simp; omega
      · rw [H.get_push]
        have h' := l1.2 id b h
        rw [if_neg (fun e => by have := w1 id b h'; omega)]; exact h'
      · rw [H.get_push]
        by_cases hi : i = q + d
        · subst hi
          rw [if_pos rfl]
          have e1 := hm'.2.2
          rw [he] at e1
          have e2 : ((Hh (q + d)).push b0).get (Hh (q + d)).next = ((Hh (q + d)).push b).get (Hh (q + d)).next := by rw [e1]
          rw [H.get_push, H.get_push, if_pos rfl, if_pos rfl] at e2
          exact e2
        · have h' := m1 i b h1 (by omega) hm'
          rw [if_neg (fun e => by have := w1 _ b h'; omega)]; exact h'
      · rw [H.get_push] at h
        split at h
        · rename_i e
          simp only [Option.some.injEq] at h; subst h
          exact .inr ⟨q + d, by omega, by omega, hm, e⟩
        · rcases g1 id b h with h | ⟨i, h1, h2, h3⟩
          · exact .inl h
          · exact .inr ⟨i, h1, by omega, h3⟩

end
end Go.AM
