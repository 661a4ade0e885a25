/-
  An abstract machine for the model: what the kinds of operations are, heap by heap.
-/
import Derived.Test.YtkiagdpknegcbaaGreatDoorAdDrawDef
namespace Go.AM
open Go

variable {P : Program} {C : CF} {NG : Nat}

abbrev pairK : Option Value → H → Option (Option Value × H) := fun a b => some (a, b)

theorem bind_pairK {α : Type} (x : Option α) (f : α → Option Value × H) {β : Type} (K : Option Value → H → Option β) :
    (x.bind fun a => K (f a).1 (f a).2) = ((x.bind fun a => pairK (f a).1 (f a).2).bind fun p => K p.1 p.2) := by
  cases x <;> rfl

set_option maxHeartbeats 1000000 in
theorem aop_pair {β : Type} (P : Program) (C : CF) (ρ : Operand → Option Value) (h : H) (o : Oper) (K : Option Value → H → Option β) :
    aop P C ρ h o K = (aop P C ρ h o pairK).bind fun p => K p.1 p.2 := by
  obtain ⟨dst, op, type, pos, after, guard⟩ := o
  cases op with
  | pick c x y =>
    simp only [aop]
    cases ρ c with
    | none => rfl
    | some v =>
      cases v <;> try rfl
      rename_i t
      cases ρ x <;> cases ρ y <;> cases t <;> rfl
  | makeFunc f a b =>
    cases f <;> simp only [aop] <;> (try rfl)
    repeat' split
    all_goals rfl
  | call c =>
    obtain ⟨callee, args, argTypes⟩ := c
    cases callee with
    | builtin b =>
      simp only [aop]
      repeat' split
      all_goals (first | rfl | (simp only [Option.bind_assoc]; rfl) | (cases hb : (_ : Bool) <;> rfl) | skip)
      all_goals (simp only [cond_eq_ite]; split <;> first | rfl | (simp only [Option.bind_assoc]; rfl))
    | value f =>
      simp only [aop]
      repeat' split
      all_goals (first | rfl | (simp only [Option.bind_assoc]; rfl))
    | invoke a b => rfl
  | _ =>
    simp only [aop]
    repeat' split
    all_goals (first | rfl | (simp only [Option.bind_assoc]; rfl) | skip)
    all_goals (simp only [cond_eq_ite]; repeat' split)
    all_goals (first | rfl | (simp only [Option.bind_assoc]; rfl))


/-- Does one heap hold what another holds? -/
def LEh (X Y : H) : Prop := X.next ≤ Y.next ∧ ∀ id b, X.get id = some b → Y.get id = some b

theorem bindP {α : Type} {x : Option α} {f : α → Option (Option Value × H)} {q : Option Value × H} (h : x.bind f = some q) : ∃ a, x = some a ∧ f a = some q := bind_some h

/-- A pure operation comes to the same at every heap, which it leaves alone. -/
theorem pure_any {ρ : Operand → Option Value} {h : H} {o : Oper} {rv : Option Value} {h' : H} (hk : kindOf P o = some .pure) (hr : aop P C ρ h o pairK = some (rv, h')) :
    h' = h ∧ ∀ X, aop P C ρ X o pairK = some (rv, X) := by
  obtain ⟨dst, op, type, pos, after, guard⟩ := o
  have fin : ∀ {v : Value}, (some (some v, h) : Option (Option Value × H)) = some (rv, h') → h' = h ∧ rv = some v := by
    intro v he; simp only [Option.some.injEq, Prod.mk.injEq] at he; exact ⟨he.2.symm, he.1.symm⟩
  cases op with
  | move x =>
    obtain ⟨v, hv, hr⟩ := bind_some hr
    obtain ⟨e1, e2⟩ := fin hr
    exact ⟨e1, fun X => by simp only [aop, hv, Option.bind_some, pairK, e2]⟩
  | assign x =>
    obtain ⟨v, hv, hr⟩ := bind_some hr
    obtain ⟨e1, e2⟩ := fin hr
    exact ⟨e1, fun X => by simp only [aop, hv, Option.bind_some, pairK, e2]⟩
  | pick c x y =>
    simp only [aop] at hr ⊢
    split at hr
    · rename_i t hc
      split at hr
      · rename_i va vb ha hb
        obtain ⟨e1, e2⟩ := fin hr
        exact ⟨e1, fun X => by simp only [ha, hb, pairK, e2]⟩
      · rename_i va ha hb
        cases t with
        | false => simp at hr
        | true => obtain ⟨e1, e2⟩ := fin hr; exact ⟨e1, fun X => by simp only [ha, hb, pairK, e2, cond_true]⟩
      · rename_i vb ha hb
        cases t with
        | true => simp at hr
        | false => obtain ⟨e1, e2⟩ := fin hr; exact ⟨e1, fun X => by simp only [ha, hb, pairK, e2, cond_false]⟩
      · simp at hr
    · simp at hr
  | build t ps =>
    simp only [aop] at hr ⊢
    split at hr
    · rename_i z l hz hl
      obtain ⟨hk0, hr⟩ := cond_some hr
      obtain ⟨v, hv, hr⟩ := bind_some hr
      obtain ⟨e1, e2⟩ := fin hr
      exact ⟨e1, fun X => by simp only [hz, hl, hk0, cond_true, hv, Option.bind_some, pairK, e2]⟩
    · simp at hr
  | nilCheck x =>
    simp only [aop] at hr ⊢
    obtain ⟨v, hv, hr⟩ := bind_some hr
    obtain ⟨u, hu, hr⟩ := bind_some hr
    obtain ⟨e1, e2⟩ := fin hr
    exact ⟨e1, fun X => by simp only [hv, hu, Option.bind_some, pairK, e2]⟩
  | binOp op t x y t2 =>
    simp only [aop] at hr ⊢
    split at hr
    · rename_i a b ha hb
      obtain ⟨u, hu, hr⟩ := bind_some hr
      obtain ⟨e1, e2⟩ := fin hr
      exact ⟨e1, fun X => by simp only [ha, hb, hu, Option.bind_some, pairK, e2]⟩
    · simp at hr
  | convert t d x =>
    simp only [kindOf] at hk
    split at hk
    · rename_i k1 k2 h1 h2
      simp only [aop, h1, h2] at hr ⊢
      split at hr
      · simp at hr
      · rename_i v hv
        obtain ⟨u, hu, hr⟩ := bind_some hr
        obtain ⟨e1, e2⟩ := fin hr
        exact ⟨e1, fun X => by simp only [hv, hu, Option.bind_some, pairK, e2]⟩
    · simp at hk
  | unOp op t x =>
    simp only [aop] at hr ⊢
    obtain ⟨v, hv, hr⟩ := bind_some hr
    obtain ⟨u, hu, hr⟩ := bind_some hr
    obtain ⟨e1, e2⟩ := fin hr
    exact ⟨e1, fun X => by simp only [hv, hu, Option.bind_some, pairK, e2]⟩
  | makeFunc f a b =>
    cases f with
    | func f =>
      simp only [aop] at hr ⊢
      split at hr
      · rename_i va vb ha hb
        obtain ⟨e1, e2⟩ := fin hr
        exact ⟨e1, fun X => by simp only [ha, hb, pairK, e2]⟩
      · simp at hr
    | methodOf t m =>
      simp only [aop] at hr ⊢
      split at hr
      · rename_i ha hb
        obtain ⟨e1, e2⟩ := fin hr
        exact ⟨e1, fun X => by simp only [ha, hb, pairK, e2]⟩
      · simp at hr
    | _ => simp [aop] at hr
  | slice t x lo hi mx =>
    simp only [aop] at hr ⊢
    split at hr
    · rename_i v l q m hx hl hq hm
      have hu : P.underlying t = some .string := by
        simp only [kindOf] at hk
        split at hk
        · assumption
        · simp at hk
      simp only [hu] at hr ⊢
      split at hr
      · obtain ⟨u, hv, hr⟩ := bind_some hr
        obtain ⟨e1, e2⟩ := fin hr
        exact ⟨e1, fun X => by simp only [hx, hl, hq, hm, hv, Option.bind_some, pairK, e2]⟩
      · simp at hr
    · simp at hr
  | fieldAddr t x i =>
    simp only [aop] at hr ⊢
    split at hr
    · rename_i f v hf hx
      split at hr
      · rename_i n hn
        cases h0 : Nat.beq n 0 with
        | true => rw [h0] at hr; simp at hr
        | false =>
          rw [h0] at hr
          simp only [cond_false] at hr
          obtain ⟨u, hv, hr⟩ := bind_some hr
          obtain ⟨e1, e2⟩ := fin hr
          exact ⟨e1, fun X => by simp only [hf, hx, hn, h0, cond_false, hv, Option.bind_some, pairK, e2]⟩
      · simp at hr
    · simp at hr
  | field t x i =>
    simp only [aop] at hr ⊢
    split at hr
    · rename_i f v hf hx
      split at hr
      · rename_i g n hg hn
        obtain ⟨u, hv, hr⟩ := bind_some hr
        obtain ⟨e1, e2⟩ := fin hr
        exact ⟨e1, fun X => by simp only [hf, hx, hg, hn, hv, Option.bind_some, pairK, e2]⟩
      · simp at hr
    · simp at hr
  | indexAddr t x i =>
    simp only [aop] at hr ⊢
    split at hr
    · rename_i v iv hx hi
      split at hr
      · rename_i e hu
        split at hr
        · rename_i n hn
          obtain ⟨u, hv, hr⟩ := bind_some hr
          obtain ⟨e1, e2⟩ := fin hr
          exact ⟨e1, fun X => by simp only [hx, hi, hu, hn, hv, Option.bind_some, pairK, e2]⟩
        · simp at hr
      · rename_i len e hu
        split at hr
        · rename_i n hn
          obtain ⟨u, hv, hr⟩ := bind_some hr
          obtain ⟨e1, e2⟩ := fin hr
          exact ⟨e1, fun X => by simp only [hx, hi, hu, hn, hv, Option.bind_some, pairK, e2]⟩
        · simp at hr
      · simp at hr
    · simp at hr
  | index t x i =>
    simp only [aop] at hr ⊢
    split at hr
    · rename_i v iv hx hi
      split at hr
      · rename_i hu
        obtain ⟨u, hv, hr⟩ := bind_some hr
        obtain ⟨e1, e2⟩ := fin hr
        exact ⟨e1, fun X => by simp only [hx, hi, hu, hv, Option.bind_some, pairK, e2]⟩
      · rename_i len e hu
        split at hr
        · rename_i g n hg hn
          obtain ⟨u, hv, hr⟩ := bind_some hr
          obtain ⟨e1, e2⟩ := fin hr
          exact ⟨e1, fun X => by simp only [hx, hi, hu, hg, hn, hv, Option.bind_some, pairK, e2]⟩
        · simp at hr
      · simp at hr
    · simp at hr
  | extract x i =>
    simp only [aop] at hr ⊢
    obtain ⟨v, hv, hr⟩ := bind_some hr
    obtain ⟨u, hu, hr⟩ := bind_some hr
    obtain ⟨e1, e2⟩ := fin hr
    exact ⟨e1, fun X => by simp only [hv, hu, Option.bind_some, pairK, e2]⟩
  | call c =>
    obtain ⟨callee, args, argTypes⟩ := c
    cases callee with
    | value f => simp [kindOf] at hk
    | invoke a b => simp [kindOf] at hk
    | builtin b =>
      simp only [aop] at hr ⊢
      split at hr
      · simp at hr
      · rename_i vs hvs
        cases b with
        | len =>
          have hnm : ∀ k e, (argTypes[0]?).bind P.underlying ≠ some (.map k e) := by
            intro k e he
            simp [kindOf, he] at hk
          split at hr
          · rename_i v
            split at hr
            · rename_i e hu
              obtain ⟨u, hv, hr⟩ := bind_some hr
              obtain ⟨e1, e2⟩ := fin hr
              exact ⟨e1, fun X => by simp only [hu, hv, Option.bind_some, pairK, e2]⟩
            · rename_i hu
              obtain ⟨u, hv, hr⟩ := bind_some hr
              obtain ⟨e1, e2⟩ := fin hr
              exact ⟨e1, fun X => by simp only [hu, hv, Option.bind_some, pairK, e2]⟩
            · rename_i k e hu; exact absurd hu (hnm k e)
            · simp at hr
          · rename_i h1; simp at h1
          · rename_i h1; simp at h1
          · rename_i h1; simp at h1
          · rename_i h1; simp at h1
          · rename_i h1; simp at h1
          · rename_i h1; simp at h1
          · rename_i h1; simp at h1
          · obtain ⟨u, hv, hr⟩ := bind_some hr
            simp [A.pureB] at hv
        | min =>
          simp only at hr ⊢
          obtain ⟨u, hv, hr⟩ := bind_some hr
          obtain ⟨e1, e2⟩ := fin hr
          exact ⟨e1, fun X => by simp only [hv, Option.bind_some, pairK, e2]⟩
        | max =>
          simp only at hr ⊢
          obtain ⟨u, hv, hr⟩ := bind_some hr
          obtain ⟨e1, e2⟩ := fin hr
          exact ⟨e1, fun X => by simp only [hv, Option.bind_some, pairK, e2]⟩
        | cap =>
          match vs, hvs, hr with
          | [x], hvs, hr =>
            simp only at hr ⊢
            split at hr
            · rename_i e hu
              obtain ⟨u, hv, hr⟩ := bind_some hr
              obtain ⟨e1, e2⟩ := fin hr
              exact ⟨e1, fun X => by simp only [hu, hv, Option.bind_some, pairK, e2]⟩
            · simp at hr
          | [], hvs, hr => simp [A.pureB] at hr
          | _ :: _ :: _, hvs, hr => simp [A.pureB] at hr
        | unsafeSliceData =>
          match vs, hvs, hr with
          | [x], hvs, hr =>
            simp only at hr ⊢
            obtain ⟨u, hv, hr⟩ := bind_some hr
            obtain ⟨e1, e2⟩ := fin hr
            exact ⟨e1, fun X => by simp only [hv, Option.bind_some, pairK, e2]⟩
          | [], hvs, hr => simp [A.pureB] at hr
          | _ :: _ :: _, hvs, hr => simp [A.pureB] at hr
        | _ => simp [kindOf] at hk
  | _ => simp [kindOf] at hk

/-- An operation that makes a block makes the same at every heap, at its next name. -/
theorem makes_any {ρ : Operand → Option Value} {h : H} {o : Oper} {rv : Option Value} {h' : H} (hk : kindOf P o = some .makes) (hr : aop P C ρ h o pairK = some (rv, h')) :
    ∃ b, b.owned = true ∧ h' = h.push b ∧ (rv = some (.pointer (some ⟨h.next, 0, none⟩)) ∨ (∃ l c, rv = some (.slice (some ⟨h.next, 0, none⟩) l c)) ∨ rv = some (.map (some h.next))) ∧
      ∀ X : H, X.next = h.next → aop P C ρ X o pairK = some (rv, X.push b) := by
  obtain ⟨dst, op, type, pos, after, guard⟩ := o
  cases op with
  | alloc t =>
    simp only [aop] at hr ⊢
    split at hr
    · rename_i z n hz hn
      obtain ⟨⟨v, h1⟩, hb, hr⟩ := bind_some hr
      simp only [pairK, Option.some.injEq, Prod.mk.injEq] at hr
      obtain ⟨rfl, rfl⟩ := hr
      unfold A.box at hb
      split at hb
      · rename_i vs hvs
        obtain ⟨hc, hb⟩ := cond_some hb
        simp only [Option.some.injEq, Prod.mk.injEq] at hb
        obtain ⟨rfl, rfl⟩ := hb
        exact ⟨_, rfl, rfl, .inl rfl, fun X hX => by simp only [hz, hn, A.box, hvs, hc, cond_true, Option.bind_some, pairK, hX]⟩
      · simp at hb
    · simp at hr
  | box t x =>
    simp only [aop] at hr ⊢
    split at hr
    · rename_i n v hn hx
      obtain ⟨⟨v, h1⟩, hb, hr⟩ := bind_some hr
      simp only [pairK, Option.some.injEq, Prod.mk.injEq] at hr
      obtain ⟨rfl, rfl⟩ := hr
      unfold A.box at hb
      split at hb
      · rename_i vs hvs
        obtain ⟨hc, hb⟩ := cond_some hb
        simp only [Option.some.injEq, Prod.mk.injEq] at hb
        obtain ⟨rfl, rfl⟩ := hb
        exact ⟨_, rfl, rfl, .inl rfl, fun X hX => by simp only [hn, hx, A.box, hvs, hc, cond_true, Option.bind_some, pairK, hX]⟩
      · simp at hb
    · simp at hr
  | buildSlice t len ps =>
    simp only [aop] at hr ⊢
    split at hr
    · simp at hr
    · rename_i e he
      split at hr
      · rename_i n z hn hz
        split at hr
        · rename_i zs l hzs hl
          obtain ⟨hc, hr⟩ := cond_some hr
          obtain ⟨⟨v, h1⟩, hb, hr⟩ := bind_some hr
          simp only [pairK, Option.some.injEq, Prod.mk.injEq] at hr
          obtain ⟨rfl, rfl⟩ := hr
          unfold A.buildSlice at hb
          obtain ⟨cs, hcs, hb⟩ := Option.map_eq_some_iff.1 hb
          simp only [Prod.mk.injEq] at hb
          obtain ⟨rfl, rfl⟩ := hb
          exact ⟨_, rfl, rfl, .inr (.inl ⟨_, _, rfl⟩), fun X hX => by simp only [he, hn, hz, hzs, hl, hc, cond_true, A.buildSlice, hcs, Option.map_some, Option.bind_some, pairK, hX]⟩
        · simp at hr
      · simp at hr
  | makeSlice t l c =>
    simp only [aop] at hr ⊢
    split at hr
    · rename_i e vl vc he hl hc
      split at hr
      · rename_i n bs z hn hb hz
        split at hr
        · rename_i zs hzs
          obtain ⟨hcond, hr⟩ := cond_some hr
          obtain ⟨⟨v, h1⟩, hm, hr⟩ := bind_some hr
          simp only [pairK, Option.some.injEq, Prod.mk.injEq] at hr
          obtain ⟨rfl, rfl⟩ := hr
          unfold A.makeSlice at hm
          split at hm
          · obtain ⟨hc2, hm⟩ := cond_some hm
            simp only [Option.some.injEq, Prod.mk.injEq] at hm
            obtain ⟨rfl, rfl⟩ := hm
            exact ⟨_, rfl, rfl, .inr (.inl ⟨_, _, rfl⟩), fun X hX => by simp only [he, hl, hc, hn, hb, hz, hzs, hcond, cond_true, A.makeSlice, hc2, Option.bind_some, pairK, hX]⟩
          · simp at hm
        · simp at hr
      · simp at hr
    · simp at hr
  | makeMap t res =>
    cases res with
    | none =>
      simp only [aop, A.makeMap, Option.bind_some, pairK, Option.some.injEq, Prod.mk.injEq] at hr
      obtain ⟨rfl, rfl⟩ := hr
      exact ⟨_, rfl, rfl, .inr (.inr rfl), fun X hX => by simp only [aop, A.makeMap, Option.bind_some, pairK, hX]⟩
    | some r => simp [aop] at hr
  | slice t x lo hi mx => simp only [kindOf] at hk; split at hk <;> simp at hk
  | call c =>
    obtain ⟨callee, args, argTypes⟩ := c
    cases callee with
    | builtin b => cases b <;> simp [kindOf] at hk <;> split at hk <;> simp at hk
    | _ => simp [kindOf] at hk
  | convert t d x => simp only [kindOf] at hk; split at hk <;> simp at hk
  | _ => simp [kindOf] at hk


theorem evalA_mono {X Y : H} (_ : LEh X Y) {fr fr' : T Value} (hfr : ∀ t, fr.get t = fr'.get t) {x : Operand} {v : Value} (h : evalA NG fr X x = some v) : evalA NG fr' Y x = some v := by
  cases x with
  | tmp t => simp only [evalA] at h ⊢; rw [← hfr]; exact h
  | const v => exact h
  | global g => exact h
  | func f => exact h

theorem evalL_mono {X Y : H} (hle : LEh X Y) {fr fr' : T Value} (hfr : ∀ t, fr.get t = fr'.get t) : ∀ {xs : List Operand} {vs : List Value}, evalL (evalA NG fr X) xs = some vs → evalL (evalA NG fr' Y) xs = some vs
  | [], vs, h => h
  | x :: xs, vs, h => by
    simp only [evalL] at h ⊢
    split at h
    · rename_i v hv
      split at h
      · rename_i vs' hvs
        simp only [evalA_mono hle hfr hv, evalL_mono hle hfr hvs]; exact h
      · simp at h
    · simp at h

theorem evalO_mono {X Y : H} (hle : LEh X Y) {fr fr' : T Value} (hfr : ∀ t, fr.get t = fr'.get t) {x : Option Operand} {v : Option Value} (h : evalO (evalA NG fr X) x = some v) : evalO (evalA NG fr' Y) x = some v := by
  cases x with
  | none => exact h
  | some x =>
    simp only [evalO] at h ⊢
    split at h
    · rename_i u hu; simp only [evalA_mono hle hfr hu]; exact h
    · simp at h

theorem load_mono {X Y : H} (hle : LEh X Y) {g : Bool} {n : Nat} {p v : Value} (h : A.load g n p X = some v) : A.load g n p Y = some v := by
  cases g with
  | false =>
    simp only [A.load, cond_false] at h ⊢
    unfold A.load1 at h ⊢
    split at h
    · split at h
      · rename_i cs own hg; simp only [hle.2 _ _ hg]; exact h
      · simp at h
    · simp at h
  | true =>
    simp only [A.load, cond_true] at h ⊢
    unfold A.loadN at h ⊢
    split at h
    · split at h
      · rename_i cs own hg; simp only [hle.2 _ _ hg]; exact h
      · simp at h
    · simp at h

theorem esOK_mono {X Y : H} (hle : LEh X Y) {size id : Nat} (h : A.esOK size id X = true) : A.esOK size id Y = true := by
  unfold A.esOK at h ⊢
  split at h
  · rename_i cs es hg; simp only [hle.2 _ _ hg]; exact h
  · simp at h

theorem sliceS_mono {X Y : H} (hle : LEh X Y) {size : Nat} {x v : Value} {lo hi mx : Option Value} (h : A.sliceS size x lo hi mx X = some v) : A.sliceS size x lo hi mx Y = some v := by
  unfold A.sliceS at h ⊢
  cases hc : (mx.isSome && hi.isNone) with
  | true => rw [hc] at h; simp at h
  | false =>
    rw [hc] at h
    simp only [cond_false] at h ⊢
    split at h
    · split at h
      · simp at h
      · rename_i m hm
        split at h
        · simp at h
        · rename_i q hq
          split at h
          · simp at h
          · rename_i p hp
            obtain ⟨hcond, h⟩ := cond_some h
            have hcond' : ∀ c id, (Nat.beq (c % 2) 1 || m.isSome || Nat.beq (p.getD 0) 0 || A.esOK size id X) = true → (Nat.beq (c % 2) 1 || m.isSome || Nat.beq (p.getD 0) 0 || A.esOK size id Y) = true := by
              intro c id hh
              simp only [Bool.or_eq_true] at hh ⊢
              rcases hh with hh | hh
              · exact .inl hh
              · exact .inr (esOK_mono hle hh)
            simp only [hm, hq, hp, hcond' _ _ hcond, cond_true]
            exact h
    · exact h
    · simp at h

theorem lookup_mono {X Y : H} (hle : LEh X Y) {z k x v : Value} {co : Bool} (hv : A.lookup z co k x X = some v) : A.lookup z co k x Y = some v := by
  unfold A.lookup at hv ⊢
  split at hv
  · exact hv
  · split at hv
    · rename_i es c hg; simp only [hle.2 _ _ hg]; exact hv
    · simp at hv
  · simp at hv

theorem reads_mono {C0 : CF} {o : Oper} (hk : kindOf P o = some .reads) {fr fr' : T Value} (hfr : ∀ t, fr.get t = fr'.get t) {X Y : H} (hle : LEh X Y) {v : Value}
    (h : aop P C0 (evalA NG fr X) X o (fun rv _ => rv) = some v) (C : CF) : aop P C (evalA NG fr' Y) Y o pairK = some (some v, Y) := by
  obtain ⟨dst, op, type, pos, after, guard⟩ := o
  cases op with
  | load t x =>
    simp only [aop] at h ⊢
    split at h
    · rename_i g n p hg hn hp
      obtain ⟨u, hu, h⟩ := bind_some h
      simp only [Option.some.injEq] at h; subst h
      rw [hg, hn, evalA_mono hle hfr hp]
      simp only [load_mono hle hu, Option.bind_some, pairK]
    · simp at h
  | lookup t x k co =>
    simp only [aop] at h ⊢
    split at h
    · rename_i kt et xv kv ht hx hk2
      simp only [ht, evalA_mono hle hfr hx, evalA_mono hle hfr hk2]
      split at h
      · rename_i s z hs hz
        obtain ⟨u, hu, h⟩ := bind_some h
        simp only [Option.some.injEq] at h; subst h
        obtain ⟨hkk, hu⟩ := cond_some hu
        simp only [hs, hz, A.lookupK, hkk, cond_true, lookup_mono hle hu, Option.bind_some, pairK]
      · simp at h
    · simp at h
  | slice t x lo hi mx =>
    simp only [kindOf] at hk
    simp only [aop] at h ⊢
    split at h
    · rename_i w l q m hx hl hq hm
      simp only [evalA_mono hle hfr hx, evalO_mono hle hfr hl, evalO_mono hle hfr hq, evalO_mono hle hfr hm]
      split at h
      · rename_i hu; rw [hu] at hk; simp at hk
      · rename_i e hu
        split at h
        · rename_i n hn
          obtain ⟨u, hv, h⟩ := bind_some h
          simp only [Option.some.injEq] at h; subst h
          simp only [sliceS_mono hle hv, Option.bind_some, pairK]
        · simp at h
      · rename_i len e hu
        split at h
        · rename_i n hn
          obtain ⟨u, hv, h⟩ := bind_some h
          simp only [Option.some.injEq] at h; subst h
          have : A.sliceA len n w l q m Y = some u := by
            unfold A.sliceA at hv ⊢
            split at hv
            · exact sliceS_mono hle hv
            · simp at hv
          simp only [this, Option.bind_some, pairK]
        · simp at h
      · simp at h
    · simp at h
  | call c =>
    obtain ⟨callee, args, argTypes⟩ := c
    cases callee with
    | value f => simp [kindOf] at hk
    | invoke a b => simp [kindOf] at hk
    | builtin b =>
      cases b with
      | len =>
        have hmap : ∃ k e, (argTypes[0]?).bind P.underlying = some (.map k e) := by
          simp only [kindOf] at hk
          split at hk
          · exact ⟨_, _, by assumption⟩
          · simp at hk
        obtain ⟨k, e, hu⟩ := hmap
        simp only [aop] at h ⊢
        split at h
        · simp at h
        · rename_i vs hvs
          simp only [evalL_mono hle hfr hvs]
          split at h
          · rename_i x _
            simp only [hu] at h ⊢
            obtain ⟨u, hv, h⟩ := bind_some h
            simp only [Option.some.injEq] at h; subst h
            have : A.lenM x Y = some u := by
              unfold A.lenM at hv ⊢
              split at hv
              · exact hv
              · split at hv
                · rename_i es cl hg; simp only [hle.2 _ _ hg]; exact hv
                · simp at hv
              · simp at hv
            simp only [this, Option.bind_some, pairK]
          · rename_i h1; simp at h1
          · rename_i h1; simp at h1
          · rename_i h1; simp at h1
          · rename_i h1; simp at h1
          · rename_i h1; simp at h1
          · rename_i h1; simp at h1
          · rename_i h1; simp at h1
          · obtain ⟨u, hv, h⟩ := bind_some h
            simp [A.pureB] at hv
      | _ => simp [kindOf] at hk
  | convert t d x => simp only [kindOf] at hk; split at hk <;> simp at hk
  | _ => simp [kindOf] at hk

end Go.AM
