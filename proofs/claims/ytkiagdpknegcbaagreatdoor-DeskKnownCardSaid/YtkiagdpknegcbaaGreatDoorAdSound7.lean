/-
  An abstract machine for the model: one operation whole.
-/
import Derived.Test.YtkiagdpknegcbaaGreatDoorAdU
import Derived.RangeFuncLeaves
import Derived.RangeFuncRecord
namespace Go.AM
open Go

variable (P : Program) {NG : Nat}

def RV (μ : Mu) (r : Option Value) (cv : Value) : Prop := match r with | some v => VR μ v cv | none => True

def EvR (μ : Mu) (ρ : Operand → Option Value) (a : Act) : Prop := ∀ x v, ρ x = some v → VR μ v (a.eval x)

/-- The fence round nothing; in a round of a loop over a function, or in none. -/
def Fr (ro : Option Nat) : Fence := { Fence.wide with round := ro }

theorem callsIn_Fr {ro : Option Nat} {n : Nat} {P : Program} {f : FuncId} {args : Array Value} {w : World} {R : Ending → World → Prop} : CallsIn (Fr ro) n P f args w R ↔ Calls P f args w R :=
  (show CallsIn Fence.wide n P f args w R ↔ Calls P f args w R from callsIn_wide)

theorem semAt_value {ρ : Operand → Value} {o : Oper} {x : Next} {w w' : World} (h : (execOp ρ o).run P w = .ok x w') (hx : ∀ d, x ≠ .defer d) (ro : Option Nat) : (o.semAt ro ρ).run P w = .ok x w' := by
  rw [Oper.semAt_eq]
  · exact h
  · intro c hc
    have e : execOp ρ o = (do pure (.defer (← resolve ρ c o.type))) := by unfold execOp; rw [hc]
    rw [e] at h
    simp only [Sem.run_bind] at h
    cases hr : (resolve ρ c o.type).run P w with
    | ok d w2 =>
      rw [hr] at h
      simp only [Result.andThen_ok, Sem.run_pure, Result.ok.injEq] at h
      exact hx d h.1.symm
    | halt e w2 => rw [hr] at h; simp [Result.andThen] at h

/-- What an operation does, whatever the related world. -/
def Snd (P : Program) (NG : Nat) (ρ : Operand → Option Value) (h : H) (o : Oper) (rv : Option Value) (h' : H) : Prop :=
  h.next ≤ h'.next ∧ ∀ (μ : Mu) (a : Act) (w : World), RH NG μ h w → Fresh μ h.next h'.next → EvR μ ρ a →
    ∀ (ro : Option Nat) (next : Act → World → Prop) (Q : Exit → Act → World → Prop), (∀ μ' w' cv, Step NG μ h w μ' h' w' → RV μ' rv cv → next (a.put o.dst cv) w') → o.wpIn (Fr ro) 0 P a w next Q

/-- What a call's outcome is good for. -/
def CallR (NG : Nat) (μ : Mu) (h : H) (w : World) (v : Value) (h' : H) (e : Ending) (w' : World) : Prop := ∃ cv μ', e = .returned cv ∧ Step NG μ h w μ' h' w' ∧ VR μ' v cv

def CallsOK (P : Program) (NG : Nat) (C : CF) : Prop :=
  ∀ f args h v h', C f args h = some (v, h') → h.next ≤ h'.next ∧
    (f < Y0 → ∃ fn, P.funcs[f]? = some fn ∧ fn.name ≠ "runtime.NumGoroutine" ∧
      (((∃ c, fn.body = some c) ∧ ∀ μ w cargs, RH NG μ h w → Fresh μ h.next h'.next → LR μ args cargs → Calls P f ⟨cargs⟩ w (CallR NG μ h w v h')) ∨
       (fn.body = none ∧ ∀ μ w cargs, RH NG μ h w → Fresh μ h.next h'.next → LR μ args cargs → ∃ cv w' μ', (callFunc f ⟨cargs⟩).run P w = .ok (.value cv) w' ∧ Step NG μ h w μ' h' w' ∧ VR μ' v cv))) ∧
    (∀ id vs, f = Y0 → args = .int .i64 (.ofNat id) :: vs → ∀ μ w cargs l, RH NG μ h w → Fresh μ h.next h'.next → LR μ vs cargs → μ id = some l →
      ∃ g tm a b, (Instr.yield l.blk ⟨cargs⟩).run P w = .ok (.round l.blk g tm a b) w ∧ RoundIn Fence.wide 0 P l.blk g tm a b w (CallR NG μ h w v h'))

variable {P}
variable {ρ : Operand → Option Value} {h : H} {o : Oper}

theorem Snd.pure {v : Value} (hs : ∀ μ a w, RH NG μ h w → EvR μ ρ a → ∃ cv, (execOp a.eval o).run P w = .ok (.value cv) w ∧ VR μ v cv) : Snd P NG ρ h o (some v) h :=
  ⟨Nat.le_refl _, fun μ a w r _ hρ ro next Q hn => by
    obtain ⟨cv, hrun, hr⟩ := hs μ a w r hρ
    refine ⟨fun _ _ => trivial, ?_⟩
    show o.uponIn (Fr ro) 0 P a next Q ((o.semAt ro a.eval).run P w)
    rw [semAt_value P hrun (fun d => by simp) ro]
    exact hn μ w cv (Step.refl r) hr⟩

theorem Snd.val {v : Value} {h' : H} (hle : h.next ≤ h'.next) (hs : ∀ μ a w, RH NG μ h w → Fresh μ h.next h'.next → EvR μ ρ a → ∃ cv w' μ', (execOp a.eval o).run P w = .ok (.value cv) w' ∧ Step NG μ h w μ' h' w' ∧ VR μ' v cv) : Snd P NG ρ h o (some v) h' :=
  ⟨hle, fun μ a w r hf hρ ro next Q hn => by
    obtain ⟨cv, w', μ', hrun, hst, hr⟩ := hs μ a w r hf hρ
    refine ⟨fun _ _ => trivial, ?_⟩
    show o.uponIn (Fr ro) 0 P a next Q ((o.semAt ro a.eval).run P w)
    rw [semAt_value P hrun (fun d => by simp) ro]
    exact hn μ' w' cv hst hr⟩

theorem Snd.skip {h' : H} (hle : h.next ≤ h'.next) (hs : ∀ μ a w, RH NG μ h w → Fresh μ h.next h'.next → EvR μ ρ a → ∃ w' μ', (execOp a.eval o).run P w = .ok .skip w' ∧ Step NG μ h w μ' h' w') : Snd P NG ρ h o none h' :=
  ⟨hle, fun μ a w r hf hρ ro next Q hn => by
    obtain ⟨w', μ', hrun, hst⟩ := hs μ a w r hf hρ
    refine ⟨fun _ _ => trivial, ?_⟩
    show o.uponIn (Fr ro) 0 P a next Q ((o.semAt ro a.eval).run P w)
    rw [semAt_value P hrun (fun d => by simp) ro]
    exact hn μ' w' undef hst trivial⟩

theorem evalL_rel {μ : Mu} {a : Act} (hρ : EvR μ ρ a) : ∀ (xs : List Operand) (vs : List Value), evalL ρ xs = some vs → LR μ vs (xs.map a.eval)
  | [], vs, he => by simp only [evalL, Option.some.injEq] at he; subst he; exact .nil
  | x :: xs, vs, he => by
    simp only [evalL] at he
    split at he
    · rename_i v hv
      split at he
      · rename_i vs' hvs
        simp only [Option.some.injEq] at he; subst he
        exact .cons (hρ x v hv) (evalL_rel hρ xs vs' hvs)
      · simp at he
    · simp at he

theorem evalO_rel {μ : Mu} {a : Act} (hρ : EvR μ ρ a) {x : Option Operand} {v : Option Value} (he : evalO ρ x = some v) : OR μ v (x.map a.eval) := by
  cases x with
  | none => simp only [evalO, Option.some.injEq] at he; subst he; exact trivial
  | some x =>
    simp only [evalO] at he
    split at he
    · rename_i u hu; simp only [Option.some.injEq] at he; subst he; exact hρ x u hu
    · simp at he

theorem execOp_call_value {a : Act} {c : Call} {f : Operand} {dst : Option Tmp} {type : TypeId} {pos : String} {after : Array Edge} {guard : Option (Nat × Bool)} (hc : c.callee = .value f)
    {g : FuncId} {first cap : Array Value} (hf : a.eval f = .func (.func g) first cap) {fn : Func} (hfn : P.funcs[g]? = some fn) {b : Code} (hb : fn.body = some b) (hn : fn.name ≠ "runtime.NumGoroutine") (w : World) :
    (execOp a.eval ⟨dst, .call c, type, pos, after, guard⟩).run P w = .ok (.enter g (first ++ c.args.map a.eval ++ cap)) w := by
  have : (fn.name == "runtime.NumGoroutine") = false := by simpa using hn
  simp only [execOp, resolve, hc, hf, Deferred.ofValue, Sem.run_bind, Sem.run_pure, Result.andThen_ok, invoke, callFunc, run_program, hfn, this, Bool.false_eq_true, if_false, hb, Option.isNone_some]

theorem execOp_call_extern {a : Act} {c : Call} {f : Operand} {dst : Option Tmp} {type : TypeId} {pos : String} {after : Array Edge} {guard : Option (Nat × Bool)} (hc : c.callee = .value f)
    {g : FuncId} {first cap : Array Value} (hf : a.eval f = .func (.func g) first cap) {cv : Value} {w w' : World} (h : (callFunc g (first ++ c.args.map a.eval ++ cap)).run P w = .ok (.value cv) w') :
    (execOp a.eval ⟨dst, .call c, type, pos, after, guard⟩).run P w = .ok (.value cv) w' := by
  simp only [execOp, resolve, hc, hf, Deferred.ofValue, Sem.run_bind, Sem.run_pure, Result.andThen_ok, invoke, h]

/-- A method that an embedded pointer has. -/
theorem promo_sound {NG : Nat} {μ : Mu} {h : H} {w : World} (r : RH NG μ h w) {t : TypeId} {name : String} {g off : Nat} (hp : promo P t name = some (g, off)) {x p v cx : Value}
    (h1 : A.fieldAddr off x = some p) (h2 : A.load false 1 p h = some v) (rx : VR μ x cx) :
    ∃ u cv, P.underlying t = some (.pointer u) ∧ (Go.method (P.types.size + Made.depth) t cx name).run P w = .ok (g, cv) w ∧ VR μ v cv := by
  unfold promo at hp
  split at hp
  · rename_i u ti hu hti
    split at hp
    · rename_i m hm
      split at hp
      · rename_i st g' hpath hfun
        obtain ⟨hd, hp⟩ := cond_some hp
        split at hp
        · rename_i f hf
          split at hp
          · rename_i e hn hg hue
            simp only [Option.some.injEq, Prod.mk.injEq] at hp
            obtain ⟨rfl, rfl⟩ := hp
            unfold A.fieldAddr at h1
            split at h1
            · rename_i id o
              simp only [Option.some.injEq] at h1
              subst h1
              obtain ⟨l, hl, rfl⟩ := rx.ptr_inv
              have rp : VR μ (.pointer (some ⟨id, o + f.offset, none⟩)) (.pointer (some ⟨l.blk, l.off + (o + f.offset), none⟩)) := .ptr hl
              obtain ⟨cv, hload, rv⟩ := load_sound (P := P) r hg hn h2 rp
              refine ⟨u, cv, hu, ?_, rv⟩
              have hti' : (typeInfo t).run P w = .ok ti w := by simp only [typeInfo, Sem.run_bind, run_program, Result.andThen_ok, hti, Sem.run_pure]
              have hl' : (loadVar f.type ⟨l.blk, l.off + o + f.offset, none⟩).run P w = .ok cv w := by
                simp only [Instr.loadAt, Instr.sureAddr, Sem.run_bind, Sem.run_pure, Result.andThen_ok] at hload
                rw [Nat.add_assoc]; exact hload
              unfold fieldP at hf
              split at hf
              · rename_i fs hus
                show (Go.method (P.types.size + 99 + 1) t _ name).run P w = _
                rw [Go.method]
                simp only [Sem.run_bind, hti', Result.andThen_ok, hm, hpath, follow, run_underlying hus, hf, hd, if_true, Place.get, Sem.run_pure, asAddr, fieldPlace, run_sizeOf P hn, Nat.one_ne_zero, if_false, add_plain, hfun, receiverAt, run_underlying hue, hl']
              · simp at hf
            · simp at h1
          · simp at hp
        · simp at hp
      · simp at hp
    · simp at hp
  · simp at hp

theorem execOp_call_meth {a : Act} {c : Call} {f : Operand} {dst : Option Tmp} {type : TypeId} {pos : String} {after : Array Edge} {guard : Option (Nat × Bool)} (hc : c.callee = .value f)
    {t u : TypeId} {name : String} (hf : a.eval f = .func (.methodOf t name) #[] #[]) {cx cr : Value} {rest : List Value} (ha : c.args.map a.eval = ⟨cx :: rest⟩) (hu : P.underlying t = some (.pointer u)) {g : FuncId} {w : World}
    (hm : (Go.method (P.types.size + Made.depth) t cx name).run P w = .ok (g, cr) w) {x : Next} {w' : World} (h : (callFunc g ⟨cr :: rest⟩).run P w = .ok x w') :
    (execOp a.eval ⟨dst, .call c, type, pos, after, guard⟩).run P w = .ok x w' := by
  have e1 : (⟨cx :: rest⟩ : Array Value).extract 1 (⟨cx :: rest⟩ : Array Value).size = ⟨rest⟩ := by apply Array.ext'; simp
  have e2 : #[cr] ++ (⟨rest⟩ : Array Value) = ⟨cr :: rest⟩ := by apply Array.ext'; simp
  have e3 : (⟨cx :: rest⟩ : Array Value)[0]? = some cx := rfl
  simp only [execOp, resolve, hc, hf, ha, Deferred.ofValue, Sem.run_bind, Sem.run_pure, Result.andThen_ok, Go.invoke, Array.empty_append, e3, run_underlying hu, e1, callMethod, run_program, hm, e2, h]

theorem execOp_call_yield {a : Act} {c : Call} {f : Operand} {dst : Option Tmp} {type : TypeId} {pos : String} {after : Array Edge} {guard : Option (Nat × Bool)} (hc : c.callee = .value f)
    {l : Nat} (hf : a.eval f = .func (.yield l) #[] #[]) {x : Next} {w w' : World} (h : (Instr.yield l (c.args.map a.eval)).run P w = .ok x w') :
    (execOp a.eval ⟨dst, .call c, type, pos, after, guard⟩).run P w = .ok x w' := by
  simp only [execOp, resolve, hc, hf, Deferred.ofValue, Sem.run_bind, Sem.run_pure, Result.andThen_ok, invoke, Array.empty_append, h]

theorem execOp_builtin {a : Act} {c : Call} {b : Builtin} {dst : Option Tmp} {type : TypeId} {pos : String} {after : Array Edge} {guard : Option (Nat × Bool)} (hc : c.callee = .builtin b) (w : World) :
    (execOp a.eval ⟨dst, .call c, type, pos, after, guard⟩).run P w = (builtin b c.argTypes type (c.args.map fun | .const _ => true | _ => false) (c.args.map a.eval)).run P w := by
  simp only [execOp, resolve, hc, Sem.run_bind, Sem.run_pure, Result.andThen_ok, invoke]
  rfl

theorem cond_or {α : Type} {c : Bool} {x y : Option α} {a : α} (h : (bif c then x else y) = some a) : x = some a ∨ y = some a := by
  cases c with
  | false => exact .inr h
  | true => exact .inl h

theorem append_next {q n bs : Nat} {s x v : Value} {h h' : H} (hv : A.append q n bs s x h = some (v, h')) : h.next ≤ h'.next := by
  have e1 : ∀ (a b : Value) (k : H), (some (a, k) : Option (Value × H)) = some (b, h') → h.next ≤ k.next → h.next ≤ h'.next := by
    intro a b k e hle
    simp only [Option.some.injEq, Prod.mk.injEq] at e
    rw [← e.2]; exact hle
  unfold A.append at hv
  split at hv
  · simp at hv
  · split at hv
    · rcases cond_or hv with hv | hv
      · exact e1 _ _ _ hv (Nat.le_refl _)
      · exact e1 _ _ _ (cond_some hv).2 (by simp)
    · rcases cond_or hv with hv | hv
      · exact e1 _ _ _ hv (Nat.le_refl _)
      · split at hv
        · rcases cond_or hv with hv | hv
          · exact e1 _ _ _ (cond_some hv).2 (by simp)
          · rcases cond_or (cond_some hv).2 with hv | hv
            · exact e1 _ _ _ hv (by simp)
            · exact e1 _ _ _ (cond_some hv).2 (by simp)
        · exact e1 _ _ _ (cond_some hv).2 (by simp)
        · simp at hv
    · simp at hv

theorem copy_next {n : Nat} {d x v : Value} {h h' : H} (hv : A.copy n d x h = some (v, h')) : h.next ≤ h'.next := by
  have e1 : ∀ (a b : Value) (k : H), (some (a, k) : Option (Value × H)) = some (b, h') → h.next ≤ k.next → h.next ≤ h'.next := by
    intro a b k e hle
    simp only [Option.some.injEq, Prod.mk.injEq] at e
    rw [← e.2]; exact hle
  unfold A.copy at hv
  split at hv
  · simp at hv
  · split at hv
    · exact e1 _ _ _ hv (Nat.le_refl _)
    · rcases cond_or hv with hv | hv
      · exact e1 _ _ _ hv (Nat.le_refl _)
      · split at hv
        · exact e1 _ _ _ (cond_some hv).2 (by simp)
        · simp at hv
    · simp at hv

theorem bind_some {α β : Type} {x : Option α} {f : α → Option β} {b : β} (h : x.bind f = some b) : ∃ a, x = some a ∧ f a = some b := by
  cases x with
  | none => simp at h
  | some a => exact ⟨a, rfl, h⟩

theorem mapP_eq {t k e : TypeId} (h : mapP P t = some (k, e)) : P.underlying t = some (.map k e) := by
  unfold mapP at h
  split at h
  · rename_i k' e' hu'; simp only [Option.some.injEq, Prod.mk.injEq] at h; rw [hu', h.1, h.2]
  · simp at h

theorem mapUpdate_next {k v x : Value} {h h' : H} (hv : A.mapUpdate k v x h = some h') : h'.next = h.next := by
  unfold A.mapUpdate at hv
  repeat' split at hv
  all_goals (first | (simp only [Option.some.injEq] at hv; rw [← hv]; simp) | simp at hv)

theorem delete_next {k x : Value} {h h' : H} (hv : A.delete k x h = some h') : h'.next = h.next := by
  unfold A.delete at hv
  repeat' split at hv
  all_goals (first | (simp only [Option.some.injEq] at hv; rw [← hv]; try simp) | simp at hv)

theorem clearM_next {x : Value} {h h' : H} (hv : A.clearM x h = some h') : h'.next = h.next := by
  unfold A.clearM at hv
  repeat' split at hv
  all_goals (first | (simp only [Option.some.injEq] at hv; rw [← hv]; try simp) | simp at hv)

theorem range_next {x v : Value} {h h' : H} (hv : A.range x h = some (v, h')) : h'.next = h.next + 1 := by
  unfold A.range at hv
  repeat' split at hv
  all_goals (first | (simp only [Option.some.injEq, Prod.mk.injEq] at hv; rw [← hv.2]; simp) | simp at hv)

theorem nextS_next {x v : Value} {h h' : H} (hv : A.nextS x h = some (v, h')) : h'.next = h.next := by
  unfold A.nextS at hv
  repeat' split at hv
  all_goals (first | (simp only [Option.some.injEq, Prod.mk.injEq] at hv; rw [← hv.2]; try simp) | simp at hv)

theorem nextM_next {x v : Value} {h h' : H} (hv : A.nextM x h = some (v, h')) : h'.next = h.next := by
  unfold A.nextM at hv
  split at hv
  · split at hv
    · simp only [Option.some.injEq, Prod.mk.injEq] at hv; rw [← hv.2]
    · split at hv
      · rcases cond_or hv with hv | hv
        · simp at hv
        · split at hv
          · simp only [Option.some.injEq, Prod.mk.injEq] at hv; rw [← hv.2]
          · have := (cond_some hv).2; simp only [Option.some.injEq, Prod.mk.injEq] at this; rw [← this.2]; simp
          · simp at hv
      · simp at hv
    · simp at hv
  · simp at hv

theorem elemP_eq {t e : TypeId} (h : elemP P t = some e) : P.underlying t = some (.slice e) := by
  unfold elemP at h
  split at h
  · rename_i e' hu'; simp only [Option.some.injEq] at h; subst h; exact hu'
  · simp at h

set_option maxHeartbeats 1000000 in
theorem aop_sound {β : Type} (hzp : zerosPlain P = true) {C : CF} (hC : CallsOK P NG C) {K : Option Value → H → Option β} {r : β} (hr : aop P C ρ h o K = some r) :
    ∃ rv h', K rv h' = some r ∧ Snd P NG ρ h o rv h' := by
  obtain ⟨dst, op, type, pos, after, guard⟩ := o
  cases op with
  | move x =>
    obtain ⟨v, hv, hk⟩ := bind_some hr
    exact ⟨_, _, hk, .pure fun μ a w _ hρ => ⟨_, rfl, hρ x v hv⟩⟩
  | assign x =>
    obtain ⟨v, hv, hk⟩ := bind_some hr
    exact ⟨_, _, hk, .pure fun μ a w _ hρ => ⟨_, rfl, hρ x v hv⟩⟩
  | pick c x y =>
    simp only [aop] at hr
    split at hr
    · rename_i t hc
      have hrun : ∀ (μ : Mu) (a : Act) (w : World), EvR μ ρ a → (execOp a.eval ⟨dst, .pick c x y, type, pos, after, guard⟩).run P w = .ok (.value (if t then a.eval x else a.eval y)) w := by
        intro μ a w hρ
        have := (hρ c _ hc).bool_inv
        simp only [execOp, this, asBool, Sem.run_bind, Sem.run_pure, Result.andThen_ok]
      split at hr
      · rename_i va vb ha hb
        refine ⟨_, _, hr, .pure fun μ a w _ hρ => ⟨_, hrun μ a w hρ, ?_⟩⟩
        cases t
        · exact hρ y vb hb
        · exact hρ x va ha
      · rename_i va ha hb
        cases t with
        | false => simp at hr
        | true => exact ⟨_, _, hr, .pure fun μ a w _ hρ => ⟨_, hrun μ a w hρ, hρ x va ha⟩⟩
      · rename_i vb ha hb
        cases t with
        | true => simp at hr
        | false => exact ⟨_, _, hr, .pure fun μ a w _ hρ => ⟨_, hrun μ a w hρ, hρ y vb hb⟩⟩
      · simp at hr
    · simp at hr
  | alloc t =>
    simp only [aop] at hr
    split at hr
    · rename_i z n hz hn
      obtain ⟨⟨v, h'⟩, hb, hk⟩ := bind_some hr
      refine ⟨_, _, hk, .val ?_ fun μ a w r hf _ => ?_⟩
      · unfold A.box at hb
        split at hb
        · obtain ⟨_, hb⟩ := cond_some hb; simp only [Option.some.injEq, Prod.mk.injEq] at hb; rw [← hb.2]; simp
        · simp at hb
      · have hfr : μ h.next = none := hf _ (Nat.le_refl _) (by
          unfold A.box at hb
          split at hb
          · obtain ⟨_, hb⟩ := cond_some hb; simp only [Option.some.injEq, Prod.mk.injEq] at hb; rw [← hb.2]; simp
          · simp at hb)
        obtain ⟨ad, hrun, μ', hst, hv⟩ := box_sound P r hfr (t := t) hb (VR.of_plain μ z (zeroP_plain P hzp hz))
        refine ⟨_, _, μ', ?_, hst, hv⟩
        simp only [execOp, Instr.alloc, Sem.run_bind, run_zero P hz, Result.andThen_ok, hrun, Sem.run_pure]
    · simp at hr
  | box t x =>
    simp only [aop] at hr
    split at hr
    · rename_i n v hn hx
      obtain ⟨⟨p, h'⟩, hb, hk⟩ := bind_some hr
      have hnx : h'.next = h.next + 1 := by
        unfold A.box at hb
        split at hb
        · obtain ⟨_, hb⟩ := cond_some hb; simp only [Option.some.injEq, Prod.mk.injEq] at hb; rw [← hb.2]; simp
        · simp at hb
      refine ⟨_, _, hk, .val (by show h.next ≤ h'.next; omega) fun μ a w r hf hρ => ?_⟩
      obtain ⟨ad, hrun, μ', hst, hv⟩ := box_sound P r (hf _ (Nat.le_refl _) (by show h.next < h'.next; omega)) (t := t) hb (hρ x v hx)
      refine ⟨_, _, μ', ?_, hst, hv⟩
      simp only [execOp, Instr.box, Sem.run_bind, Result.andThen_ok, hrun, Sem.run_pure]
    · simp at hr
  | build t ps =>
    simp only [aop] at hr
    split at hr
    · rename_i z l hz hl
      obtain ⟨hk0, hr⟩ := cond_some hr
      obtain ⟨v, hv, hk⟩ := bind_some hr
      refine ⟨_, _, hk, .pure fun μ a w _ hρ => ?_⟩
      have hzpl := zeroP_plain P hzp hz
      obtain ⟨cv, hrun, hr'⟩ := build_sound P (μ := μ) (w := w) hρ hz (by simpa [plain, plainC] using hzpl) hl hk0 hv
      exact ⟨cv, by simp only [execOp, Sem.run_bind, hrun, Result.andThen_ok, Sem.run_pure], hr'⟩
    · simp at hr
  | buildSlice t len ps =>
    simp only [aop] at hr
    split at hr
    · simp at hr
    · rename_i e he
      split at hr
      · rename_i n z hn hz
        split at hr
        · rename_i zs l hzs hl
          obtain ⟨hc, hr⟩ := cond_some hr
          simp only [Bool.and_eq_true, beq_iff, blt_iff, ble_iff] at hc
          obtain ⟨⟨v, h'⟩, hb, hk⟩ := bind_some hr
          have hnx : h'.next = h.next + 1 := by
            unfold A.buildSlice at hb
            obtain ⟨_, _, hb⟩ := Option.map_eq_some_iff.1 hb
            simp only [Prod.mk.injEq] at hb; rw [← hb.2]; simp
          refine ⟨_, _, hk, .val (by show h.next ≤ h'.next; omega) fun μ a w r hf hρ => ?_⟩
          obtain ⟨cv, w', μ', hrun, hst, hv⟩ := buildSlice_sound P r (hf _ (Nat.le_refl _) (by show h.next < h'.next; omega)) (t := t) hρ he hn hz hzs (cellsL_plain (zeroP_plain P hzp hz) hzs) hc.1.1.1 hc.1.1.2 hc.1.2 hc.2 hl hb
          exact ⟨cv, w', μ', by simp only [execOp, Sem.run_bind, hrun, Result.andThen_ok, Sem.run_pure], hst, hv⟩
        · simp at hr
      · simp at hr
  | load t x =>
    simp only [aop] at hr
    split at hr
    · rename_i g n p hg hn hp
      obtain ⟨v, hv, hk⟩ := bind_some hr
      refine ⟨_, _, hk, .pure fun μ a w r hρ => ?_⟩
      obtain ⟨cv, hrun, hr'⟩ := load_sound P r hg hn hv (hρ x p hp)
      exact ⟨cv, by simp only [execOp, Sem.run_bind, hrun, Result.andThen_ok, Sem.run_pure], hr'⟩
    · simp at hr
  | store t x y =>
    simp only [aop] at hr
    split at hr
    · rename_i n p v hn hp hv
      obtain ⟨h', hs, hk⟩ := bind_some hr
      have hnx : h'.next = h.next := by
        unfold A.store at hs
        split at hs
        · split at hs
          · obtain ⟨_, hs⟩ := cond_some hs; simp only [Option.some.injEq] at hs; rw [← hs]; simp
          · simp at hs
        · simp at hs
      refine ⟨_, _, hk, .skip (by show h.next ≤ h'.next; omega) fun μ a w r hf hρ => ?_⟩
      obtain ⟨w', hrun, hst⟩ := store_sound P r hn hs (hρ x p hp) (hρ y v hv)
      exact ⟨w', μ, by simp only [execOp, Sem.run_bind, hrun, Result.andThen_ok, Sem.run_pure], hst⟩
    · simp at hr
  | nilCheck x =>
    simp only [aop] at hr
    obtain ⟨v, hv, hr⟩ := bind_some hr
    obtain ⟨u, hu, hk⟩ := bind_some hr
    refine ⟨_, _, hk, .pure fun μ a w r hρ => ?_⟩
    have hx := hρ x v hv
    unfold A.nilCheck at hu
    split at hu
    · simp only [Option.some.injEq] at hu; subst hu
      refine ⟨_, ?_, hx⟩
      have : ∃ b, a.eval x = .pointer (some b) := by
        generalize a.eval x = u at hx
        cases hx; exact ⟨_, rfl⟩
      obtain ⟨b, hb⟩ := this
      simp only [execOp, hb, Sem.run_pure]
    · simp at hu
  | binOp op t x y t2 =>
    simp only [aop] at hr
    split at hr
    · rename_i va vb ha hb
      obtain ⟨v, hv, hk⟩ := bind_some hr
      refine ⟨_, _, hk, .pure fun μ a w r hρ => ?_⟩
      obtain ⟨cv, hrun, hr'⟩ := bin_sound P (w := w) (x := x) (y := y) hv (hρ x va ha) (hρ y vb hb)
      refine ⟨cv, ?_, hr'⟩
      simp only [execOp]
      rw [Sem.run_bind, hrun]
      rfl
    · simp at hr
  | unOp op t x =>
    simp only [aop] at hr
    obtain ⟨va, ha, hr⟩ := bind_some hr
    obtain ⟨v, hv, hk⟩ := bind_some hr
    refine ⟨_, _, hk, .pure fun μ a w r hρ => ?_⟩
    obtain ⟨cv, hrun, hr'⟩ := un_sound P (w := w) hv (hρ x va ha)
    exact ⟨cv, by simp only [execOp, Sem.run_bind, hrun, Result.andThen_ok, Sem.run_pure], hr'⟩
  | convert s d x =>
    simp only [aop] at hr
    split at hr
    · simp at hr
    · rename_i va ha
      split at hr
      · rename_i e hs hd
        split at hr
        · rename_i he
          obtain ⟨⟨v, h'⟩, hb, hk⟩ := bind_some hr
          have hnx : h'.next = h.next + 1 := by
            unfold A.s2b at hb
            split at hb
            · obtain ⟨_, hb⟩ := cond_some hb; simp only [Option.some.injEq, Prod.mk.injEq] at hb; rw [← hb.2]; simp
            · simp at hb
          refine ⟨_, _, hk, .val (by show h.next ≤ h'.next; omega) fun μ a w r hf hρ => ?_⟩
          obtain ⟨cv, w', μ', hrun, hst, hv⟩ := s2b_sound P r (hf _ (Nat.le_refl _) (by show h.next < h'.next; omega)) hs hd he hb (hρ x va ha)
          exact ⟨cv, w', μ', by simp only [execOp, Sem.run_bind, hrun, Result.andThen_ok, Sem.run_pure], hst, hv⟩
        · simp at hr
      · rename_i e hs hd
        split at hr
        · rename_i he
          obtain ⟨v, hv, hk⟩ := bind_some hr
          refine ⟨_, _, hk, .pure fun μ a w r hρ => ?_⟩
          obtain ⟨cv, hrun, hr'⟩ := b2s_sound P r hs hd he hv (hρ x va ha)
          exact ⟨cv, by simp only [execOp, Sem.run_bind, hrun, Result.andThen_ok, Sem.run_pure], hr'⟩
        · simp at hr
      · rename_i t hs hd
        obtain ⟨v, hv, hk⟩ := bind_some hr
        refine ⟨_, _, hk, .pure fun μ a w r hρ => ?_⟩
        obtain ⟨cv, hrun, hr'⟩ := toU_sound r hs hd hv (hρ x va ha)
        exact ⟨cv, by simp only [execOp, Sem.run_bind, hrun, Result.andThen_ok, Sem.run_pure], hr'⟩
      · rename_i u hs hd
        obtain ⟨v, hv, hk⟩ := bind_some hr
        refine ⟨_, _, hk, .pure fun μ a w r hρ => ?_⟩
        obtain ⟨cv, hrun, hr'⟩ := ofU_sound r hs hd hv (hρ x va ha)
        exact ⟨cv, by simp only [execOp, Sem.run_bind, hrun, Result.andThen_ok, Sem.run_pure], hr'⟩
      · obtain ⟨v, hv, hk⟩ := bind_some hr
        refine ⟨_, _, hk, .pure fun μ a w r hρ => ?_⟩
        obtain ⟨cv, hrun, hr'⟩ := conv_sound P (w := w) hv (hρ x va ha)
        exact ⟨cv, by simp only [execOp, Sem.run_bind, hrun, Result.andThen_ok, Sem.run_pure], hr'⟩
  | makeFunc f first captured =>
    cases f with
    | func f =>
      simp only [aop] at hr
      split at hr
      · rename_i va vb ha hb
        refine ⟨_, _, hr, .pure fun μ a w r hρ => ?_⟩
        have r1 := evalL_rel hρ _ _ ha
        have r2 := evalL_rel hρ _ _ hb
        refine ⟨.func (.func f) ⟨first.toList.map a.eval⟩ ⟨captured.toList.map a.eval⟩, ?_, .func f _ _ _ _ r1.1 r2.1 r1.2 r2.2⟩
        have e1 : first.map a.eval = ⟨first.toList.map a.eval⟩ := by apply Array.ext'; simp
        have e2 : captured.map a.eval = ⟨captured.toList.map a.eval⟩ := by apply Array.ext'; simp
        simp only [execOp, Instr.makeFunc, Sem.run_bind, Sem.run_pure, Result.andThen_ok, e1, e2]
      · simp at hr
    | methodOf t m =>
      simp only [aop] at hr
      split at hr
      · rename_i ha hb
        refine ⟨_, _, hr, .pure fun μ a w r hρ => ⟨.func (.methodOf t m) #[] #[], ?_, .methOf t m⟩⟩
        have e1 : first.map a.eval = #[] := by apply Array.ext'; simp [ha]
        have e2 : captured.map a.eval = #[] := by apply Array.ext'; simp [hb]
        simp only [execOp, Instr.makeFunc, Sem.run_bind, Sem.run_pure, Result.andThen_ok, e1, e2]
      · simp at hr
    | _ => simp [aop] at hr
  | makeSlice t l c =>
    simp only [aop] at hr
    split at hr
    · rename_i e vl vc he hl hc
      split at hr
      · rename_i n bs z hn hb hz
        split at hr
        · rename_i zs hzs
          obtain ⟨hcond, hr⟩ := cond_some hr
          simp only [Bool.and_eq_true, beq_iff, blt_iff] at hcond
          obtain ⟨⟨v, h'⟩, hm, hk⟩ := bind_some hr
          have hnx : h'.next = h.next + 1 := by
            unfold A.makeSlice at hm
            split at hm
            · obtain ⟨_, hm⟩ := cond_some hm; simp only [Option.some.injEq, Prod.mk.injEq] at hm; rw [← hm.2]; simp
            · simp at hm
          refine ⟨_, _, hk, .val (by show h.next ≤ h'.next; omega) fun μ a w r hf hρ => ?_⟩
          obtain ⟨cv, w', μ', hrun, hst, hv⟩ := makeSlice_sound P r (hf _ (Nat.le_refl _) (by show h.next < h'.next; omega)) (t := t) he hn hb hz hzs (cellsL_plain (zeroP_plain P hzp hz) hzs) hcond.1.1 hcond.1.2 hcond.2 hm (hρ l vl hl) (hρ c vc hc)
          exact ⟨cv, w', μ', by simp only [execOp, Sem.run_bind, hrun, Result.andThen_ok, Sem.run_pure], hst, hv⟩
        · simp at hr
      · simp at hr
    · simp at hr
  | slice t x lo hi mx =>
    simp only [aop] at hr
    split at hr
    · rename_i v l q m hx hl hq hm
      split at hr
      · rename_i hu
        split at hr
        · obtain ⟨u, hv, hk⟩ := bind_some hr
          refine ⟨_, _, hk, .pure fun μ a w r hρ => ?_⟩
          obtain ⟨cv, hrun, hr'⟩ := sliceStr_sound P (w := w) hu hv (hρ x v hx) (evalO_rel hρ hl) (evalO_rel hρ hq)
          have : mx = none := by
            cases mx with
            | none => rfl
            | some mx => simp only [evalO] at hm; split at hm <;> simp at hm
          subst this
          exact ⟨cv, by simp only [execOp, Option.map_none, Sem.run_bind, hrun, Result.andThen_ok, Sem.run_pure], hr'⟩
        · simp at hr
      · rename_i e hu
        split at hr
        · rename_i n hn
          obtain ⟨u, hv, hk⟩ := bind_some hr
          refine ⟨_, _, hk, .pure fun μ a w r hρ => ?_⟩
          obtain ⟨cv, hrun, hr'⟩ := slice_sound P r hu hn hv (hρ x v hx) (evalO_rel hρ hl) (evalO_rel hρ hq) (evalO_rel hρ hm)
          exact ⟨cv, by simp only [execOp, Sem.run_bind, hrun, Result.andThen_ok, Sem.run_pure], hr'⟩
        · simp at hr
      · rename_i len e hu
        split at hr
        · rename_i n hn
          obtain ⟨u, hv, hk⟩ := bind_some hr
          refine ⟨_, _, hk, .pure fun μ a w r hρ => ?_⟩
          obtain ⟨cv, hrun, hr'⟩ := sliceArr_sound P r hu hn hv (hρ x v hx) (evalO_rel hρ hl) (evalO_rel hρ hq) (evalO_rel hρ hm)
          exact ⟨cv, by simp only [execOp, Sem.run_bind, hrun, Result.andThen_ok, Sem.run_pure], hr'⟩
        · simp at hr
      · simp at hr
    · simp at hr
  | fieldAddr t x i =>
    simp only [aop] at hr
    split at hr
    · rename_i f v hf hx
      split at hr
      · rename_i n hn
        cases h0 : Nat.beq n 0 with
        | true => rw [h0] at hr; simp at hr
        | false =>
          rw [h0] at hr
          simp only [cond_false] at hr
          obtain ⟨u, hv, hk⟩ := bind_some hr
          refine ⟨_, _, hk, .pure fun μ a w r hρ => ?_⟩
          obtain ⟨cv, hrun, hr'⟩ := fieldAddr_sound P (w := w) hf hn (fun e => by rw [e] at h0; simp at h0) hv (hρ x v hx)
          exact ⟨cv, by simp only [execOp, Sem.run_bind, hrun, Result.andThen_ok, Sem.run_pure], hr'⟩
      · simp at hr
    · simp at hr
  | field t x i =>
    simp only [aop] at hr
    split at hr
    · rename_i f v hf hx
      split at hr
      · rename_i g n hg hn
        obtain ⟨u, hv, hk⟩ := bind_some hr
        refine ⟨_, _, hk, .pure fun μ a w r hρ => ?_⟩
        obtain ⟨cv, hrun, hr'⟩ := field_sound P (w := w) hf hg hn hv (hρ x v hx)
        exact ⟨cv, by simp only [execOp, Sem.run_bind, hrun, Result.andThen_ok, Sem.run_pure], hr'⟩
      · simp at hr
    · simp at hr
  | indexAddr t x i =>
    simp only [aop] at hr
    split at hr
    · rename_i v iv hx hi
      split at hr
      · rename_i e hu
        split at hr
        · rename_i n hn
          obtain ⟨u, hv, hk⟩ := bind_some hr
          refine ⟨_, _, hk, .pure fun μ a w r hρ => ?_⟩
          obtain ⟨cv, hrun, hr'⟩ := idxS_sound P (w := w) hu hn hv (hρ x v hx) (hρ i iv hi)
          exact ⟨cv, by simp only [execOp, Sem.run_bind, hrun, Result.andThen_ok, Sem.run_pure], hr'⟩
        · simp at hr
      · rename_i len e hu
        split at hr
        · rename_i n hn
          obtain ⟨u, hv, hk⟩ := bind_some hr
          refine ⟨_, _, hk, .pure fun μ a w r hρ => ?_⟩
          obtain ⟨cv, hrun, hr'⟩ := idxA_sound P (w := w) hu hn hv (hρ x v hx) (hρ i iv hi)
          exact ⟨cv, by simp only [execOp, Sem.run_bind, hrun, Result.andThen_ok, Sem.run_pure], hr'⟩
        · simp at hr
      · simp at hr
    · simp at hr
  | index t x i =>
    simp only [aop] at hr
    split at hr
    · rename_i v iv hx hi
      split at hr
      · rename_i hu
        obtain ⟨u, hv, hk⟩ := bind_some hr
        refine ⟨_, _, hk, .pure fun μ a w r hρ => ?_⟩
        obtain ⟨cv, hrun, hr'⟩ := indexStr_sound P (w := w) hu hv (hρ x v hx) (hρ i iv hi)
        exact ⟨cv, by simp only [execOp, Sem.run_bind, hrun, Result.andThen_ok, Sem.run_pure], hr'⟩
      · rename_i len e hu
        split at hr
        · rename_i g n hg hn
          obtain ⟨u, hv, hk⟩ := bind_some hr
          refine ⟨_, _, hk, .pure fun μ a w r hρ => ?_⟩
          obtain ⟨cv, hrun, hr'⟩ := index_sound P (w := w) hu hg hn hv (hρ x v hx) (hρ i iv hi)
          exact ⟨cv, by simp only [execOp, Sem.run_bind, hrun, Result.andThen_ok, Sem.run_pure], hr'⟩
        · simp at hr
      · simp at hr
    · simp at hr
  | extract x i =>
    simp only [aop] at hr
    obtain ⟨v, hx, hr⟩ := bind_some hr
    obtain ⟨u, hv, hk⟩ := bind_some hr
    refine ⟨_, _, hk, .pure fun μ a w r hρ => ?_⟩
    obtain ⟨cv, hrun, hr'⟩ := extract_sound P (w := w) hv (hρ x v hx)
    exact ⟨cv, by simp only [execOp, Sem.run_bind, hrun, Result.andThen_ok, Sem.run_pure], hr'⟩
  | makeMap t res =>
    cases res with
    | some x => simp [aop] at hr
    | none =>
      simp only [aop, A.makeMap, Option.bind_some] at hr
      refine ⟨_, _, hr, .val (by simp) fun μ a w r hf hρ => ?_⟩
      obtain ⟨cv, w', μ', hrun, hst, hv⟩ := makeMap_sound (P := P) r (hf _ (Nat.le_refl _) (by simp)) t
      exact ⟨cv, w', μ', by simp only [execOp, Option.map_none, Sem.run_bind, hrun, Result.andThen_ok, Sem.run_pure], hst, hv⟩
  | lookup t x k co =>
    simp only [aop] at hr
    split at hr
    · rename_i kt et v kv ht hx hk
      split at hr
      · rename_i s z hs hz
        obtain ⟨u, hv, hk2⟩ := bind_some hr
        obtain ⟨hkk, hv⟩ := cond_some hv
        have hkk := keyS_K hs hkk
        refine ⟨_, _, hk2, .pure fun μ a w r hρ => ?_⟩
        obtain ⟨cv, hrun, hr'⟩ := lookup_sound r (mapP_eq ht) hz (zeroP_plain P hzp hz) hkk hv (hρ x v hx) (hρ k kv hk)
        exact ⟨cv, by simp only [execOp, Sem.run_bind, hrun, Result.andThen_ok, Sem.run_pure], hr'⟩
      · simp at hr
    · simp at hr
  | mapUpdate t x k y =>
    simp only [aop] at hr
    split at hr
    · rename_i kt et v kv yv ht hx hk hy
      split at hr
      · rename_i s hsk
        obtain ⟨h', hs, hk2⟩ := bind_some hr
        obtain ⟨hkk, hs⟩ := cond_some hs
        have hkk := keyS_K hsk hkk
        have hnx := mapUpdate_next hs
        refine ⟨_, _, hk2, .skip (by show h.next ≤ h'.next; omega) fun μ a w r hf hρ => ?_⟩
        obtain ⟨w', hrun, hst⟩ := mapUpdate_sound r (mapP_eq ht) hkk hs (hρ x v hx) (hρ k kv hk) (hρ y yv hy)
        exact ⟨w', μ, by simp only [execOp, Sem.run_bind, hrun, Result.andThen_ok, Sem.run_pure], hst⟩
      · simp at hr
    · simp at hr
  | insert t x k y =>
    simp only [aop] at hr
    split at hr
    · rename_i kt et v kv yv ht hx hk hy
      split at hr
      · rename_i s hsk
        obtain ⟨h', hs, hk2⟩ := bind_some hr
        obtain ⟨hkk, hs⟩ := cond_some hs
        have hkk := keyS_K hsk hkk
        have hnx := mapUpdate_next hs
        refine ⟨_, _, hk2, .skip (by show h.next ≤ h'.next; omega) fun μ a w r hf hρ => ?_⟩
        obtain ⟨w', hrun, hst⟩ := mapUpdate_sound r (mapP_eq ht) hkk hs (hρ x v hx) (hρ k kv hk) (hρ y yv hy)
        exact ⟨w', μ, by simp only [execOp, Sem.run_bind, hrun, Result.andThen_ok, Sem.run_pure], hst⟩
      · simp at hr
    · simp at hr
  | range t x =>
    simp only [aop] at hr
    split at hr
    · rename_i xv hu hx
      obtain ⟨⟨v, h'⟩, hb, hk⟩ := bind_some hr
      obtain ⟨s, rfl⟩ : ∃ s, xv = .string s := by cases xv <;> first | exact ⟨_, rfl⟩ | simp [A.rangeS] at hb
      simp only [A.rangeS] at hb
      have hnx := range_next hb
      refine ⟨_, _, hk, .val (by show h.next ≤ h'.next; omega) fun μ a w r hf hρ => ?_⟩
      obtain ⟨cv, w', μ', hrun, hst, hv⟩ := rangeS_sound r (hf _ (Nat.le_refl _) (by show h.next < h'.next; omega)) hu hb (hρ x _ hx)
      exact ⟨cv, w', μ', by simp only [execOp, Sem.run_bind, hrun, Result.andThen_ok, Sem.run_pure], hst, hv⟩
    · rename_i kt et xv hu hx
      obtain ⟨⟨v, h'⟩, hb, hk⟩ := bind_some hr
      obtain ⟨m, rfl⟩ : ∃ m, xv = .map m := by cases xv <;> first | exact ⟨_, rfl⟩ | simp [A.rangeM] at hb
      simp only [A.rangeM] at hb
      have hnx := range_next hb
      refine ⟨_, _, hk, .val (by show h.next ≤ h'.next; omega) fun μ a w r hf hρ => ?_⟩
      obtain ⟨cv, w', μ', hrun, hst, hv⟩ := rangeM_sound r (hf _ (Nat.le_refl _) (by show h.next < h'.next; omega)) hu hb (hρ x _ hx)
      exact ⟨cv, w', μ', by simp only [execOp, Sem.run_bind, hrun, Result.andThen_ok, Sem.run_pure], hst, hv⟩
    · simp at hr
  | next x str =>
    simp only [aop] at hr
    split at hr
    · rename_i xv hx
      cases str with
      | true =>
        simp only [cond_true] at hr
        obtain ⟨⟨v, h'⟩, hb, hk⟩ := bind_some hr
        have hnx := nextS_next hb
        refine ⟨_, _, hk, .val (by show h.next ≤ h'.next; omega) fun μ a w r hf hρ => ?_⟩
        obtain ⟨cv, w', hrun, hst, hv⟩ := nextS_sound (P := P) r hb (hρ x _ hx) type
        exact ⟨cv, w', μ, by simp only [execOp, Sem.run_bind, hrun, Result.andThen_ok, Sem.run_pure], hst, hv⟩
      | false =>
        simp only [cond_false] at hr
        obtain ⟨⟨v, h'⟩, hb, hk⟩ := bind_some hr
        have hnx := nextM_next hb
        refine ⟨_, _, hk, .val (by show h.next ≤ h'.next; omega) fun μ a w r hf hρ => ?_⟩
        obtain ⟨cv, w', hrun, hst, hv⟩ := nextM_sound (P := P) r hb (hρ x _ hx) type
        exact ⟨cv, w', μ, by simp only [execOp, Sem.run_bind, hrun, Result.andThen_ok, Sem.run_pure], hst, hv⟩
    · simp at hr
  | entry x =>
    simp only [aop] at hr
    obtain ⟨xv, hx, hr⟩ := bind_some hr
    obtain ⟨u, hv, hk⟩ := bind_some hr
    refine ⟨_, _, hk, .pure fun μ a w r hρ => ?_⟩
    obtain ⟨cv, hrun, hr'⟩ := entry_sound (P := P) r hv (hρ x xv hx)
    exact ⟨cv, by simp only [execOp, Sem.run_bind, hrun, Result.andThen_ok, Sem.run_pure], hr'⟩
  | call c =>
    obtain ⟨callee, args, argTypes⟩ := c
    cases callee with
    | value f =>
      simp only [aop] at hr
      split at hr
      · rename_i fv vs hf hvs
        obtain ⟨⟨v, h'⟩, hb, hk⟩ := bind_some hr
        have r3 : ∀ (μ : Mu) (a : Act), EvR μ ρ a → LR μ vs (args.toList.map a.eval) := fun μ a hρ => evalL_rel hρ _ _ hvs
        have eargs : ∀ a : Act, args.map a.eval = ⟨args.toList.map a.eval⟩ := fun a => by apply Array.ext'; simp
        unfold callM at hb
        split at hb
        · rename_i t name fa fb
          split at hb
          · rename_i g off x xs hp
            obtain ⟨hg, hb⟩ := cond_some hb
            have hg := blt_iff.1 hg
            obtain ⟨p, hp1, hb⟩ := bind_some hb
            obtain ⟨v0, hp2, hb⟩ := bind_some hb
            obtain ⟨hle, hfun, _⟩ := hC _ _ _ _ _ hb
            obtain ⟨fn, hfn, hnm, hfun⟩ := hfun hg
            refine ⟨_, _, hk, hle, fun μ a w r hfr hρ ro next Q hn => ?_⟩
            have hfv := hρ f _ hf
            have hef : a.eval f = .func (.methodOf t name) #[] #[] := by
              generalize he : a.eval f = u at hfv
              cases hfv with
              | methOf => rfl
            have hl := r3 μ a hρ
            obtain ⟨cx, rest, hcr, rx, rl⟩ : ∃ cx rest, args.toList.map a.eval = cx :: rest ∧ VR μ x cx ∧ LR μ xs rest := by
              generalize args.toList.map a.eval = ds at hl
              cases ds with
              | nil => have := hl.1; simp at this
              | cons d ds => exact ⟨d, ds, rfl, hl.2 0 x d rfl rfl, ⟨by have := hl.1; simpa using this, fun i a b ha hb => hl.2 (i + 1) a b (by simpa using ha) (by simpa using hb)⟩⟩
            have hargs : args.map a.eval = ⟨cx :: rest⟩ := by rw [eargs a, hcr]
            obtain ⟨u, cv0, hu, hm, rv0⟩ := promo_sound r hp hp1 hp2 rx
            have e := fun {y : Next} {w' : World} (hh : (callFunc g ⟨cv0 :: rest⟩).run P w = .ok y w') => execOp_call_meth (dst := dst) (type := type) (pos := pos) (after := after) (guard := guard) (c := ⟨.value f, args, argTypes⟩) rfl hef hargs hu hm hh
            refine ⟨fun _ _ => trivial, ?_⟩
            show Oper.uponIn (Fr ro) 0 P _ a next Q ((Oper.semAt ro a.eval _).run P w)
            rcases hfun with ⟨⟨b, hbd⟩, hcall⟩ | ⟨hbd, hcall⟩
            · have hne : (fn.name == "runtime.NumGoroutine") = false := by simpa using hnm
              have hen : (callFunc g ⟨cv0 :: rest⟩).run P w = .ok (.enter g ⟨cv0 :: rest⟩) w := by
                simp only [callFunc, Sem.run_bind, run_program, Result.andThen_ok, hfn, hne, Bool.false_eq_true, if_false, hbd, Option.isNone_some, Sem.run_pure]
              rw [semAt_value P (e hen) (fun d => by simp) ro]
              simp only [Oper.uponIn]
              exact ⟨fun h => by simp [Fr, Fence.wide] at h, callsIn_Fr.2 ((hcall μ w _ r hfr (rl.cons rv0)).mono fun e w' ⟨cv, μ', he, hst, hv⟩ => by
                subst he
                exact hn μ' w' cv hst hv)⟩
            · obtain ⟨cv, w', μ', hrun, hst, hv⟩ := hcall μ w _ r hfr (rl.cons rv0)
              rw [semAt_value P (e hrun) (fun d => by simp) ro]
              exact hn μ' w' cv hst hv
          · simp at hb
        unfold callV at hb
        split at hb
        · rename_i g first cap _
          obtain ⟨hg, hb⟩ := cond_some hb
          have hg := blt_iff.1 hg
          obtain ⟨hle, hfun, _⟩ := hC _ _ _ _ _ hb
          obtain ⟨fn, hfn, hnm, hfun⟩ := hfun hg
          refine ⟨_, _, hk, hle, fun μ a w r hfr hρ ro next Q hn => ?_⟩
          have hfv := hρ f _ hf
          have : ∃ cf cc, a.eval f = .func (.func g) ⟨cf⟩ ⟨cc⟩ ∧ LR μ first cf ∧ LR μ cap cc := by
            generalize he : a.eval f = u at hfv
            cases hfv with
            | func _ _ _ cs' ds' h1 h2 g1 g2 => exact ⟨cs', ds', rfl, ⟨h1, g1⟩, ⟨h2, g2⟩⟩
          obtain ⟨cf, cc, hef, r1, r2⟩ := this
          have e : ((⟨cf⟩ : Array Value) ++ args.map a.eval ++ (⟨cc⟩ : Array Value)) = ⟨cf ++ args.toList.map a.eval ++ cc⟩ := by apply Array.ext'; simp
          refine ⟨fun _ _ => trivial, ?_⟩
          show Oper.uponIn (Fr ro) 0 P _ a next Q ((Oper.semAt ro a.eval _).run P w)
          rcases hfun with ⟨⟨b, hbd⟩, hcall⟩ | ⟨hbd, hcall⟩
          · rw [semAt_value P (execOp_call_value (c := ⟨.value f, args, argTypes⟩) rfl hef hfn hbd hnm w) (fun d => by simp) ro]
            simp only [Oper.uponIn, e]
            exact ⟨fun h => by simp [Fr, Fence.wide] at h, callsIn_Fr.2 ((hcall μ w _ r hfr ((r1.append (r3 μ a hρ)).append r2)).mono fun e w' ⟨cv, μ', he, hst, hv⟩ => by
              subst he
              exact hn μ' w' cv hst hv)⟩
          · obtain ⟨cv, w', μ', hrun, hst, hv⟩ := hcall μ w _ r hfr ((r1.append (r3 μ a hρ)).append r2)
            rw [← e] at hrun
            rw [semAt_value P (execOp_call_extern (c := ⟨.value f, args, argTypes⟩) rfl hef hrun) (fun d => by simp) ro]
            exact hn μ' w' cv hst hv
        · rename_i id fa fb _
          obtain ⟨hle, _, hround⟩ := hC _ _ _ _ _ hb
          refine ⟨_, _, hk, hle, fun μ a w r hfr hρ ro next Q hn => ?_⟩
          have hfv := hρ f _ hf
          have : ∃ l, μ id = some l ∧ a.eval f = .func (.yield l.blk) #[] #[] := by
            generalize he : a.eval f = u at hfv
            cases hfv with
            | yield hl => exact ⟨_, hl, rfl⟩
          obtain ⟨l, hl, hef⟩ := this
          obtain ⟨g, tm, as, bd, hy, hro⟩ := hround id vs rfl rfl μ w _ l r hfr (r3 μ a hρ) hl
          rw [← eargs a] at hy
          refine ⟨fun _ _ => trivial, ?_⟩
          show Oper.uponIn (Fr ro) 0 P _ a next Q ((Oper.semAt ro a.eval _).run P w)
          rw [semAt_value P (execOp_call_yield (c := ⟨.value f, args, argTypes⟩) rfl hef hy) (fun d => by simp) ro]
          refine ⟨fun h => by simp [Fr, Fence.wide] at h, ?_⟩
          have hro' : RoundIn (Fr ro) 0 P l.blk g tm as bd w (CallR NG μ h w v h') := hro
          exact hro'.mono fun e w' ⟨cv, μ', he, hst, hv⟩ => by
            subst he
            exact hn μ' w' cv hst hv
        · simp at hb
      · simp at hr
    | invoke x m => simp [aop] at hr
    | builtin b =>
      simp only [aop] at hr
      split at hr
      · simp at hr
      · rename_i vs hvs
        have hargs : ∀ (μ : Mu) (a : Act), EvR μ ρ a → LR μ vs (args.toList.map a.eval) ∧ args.map a.eval = ⟨args.toList.map a.eval⟩ := fun μ a hρ =>
          ⟨evalL_rel hρ _ _ hvs, by apply Array.ext'; simp⟩
        have one : ∀ (μ : Mu) (v : Value) (cs : List Value), LR μ [v] cs → ∃ c, cs = [c] ∧ VR μ v c := by
          intro μ v cs hl
          match cs, hl with
          | [c], hl => exact ⟨c, rfl, hl.2 0 v c rfl rfl⟩
          | [], hl => have := hl.1; simp at this
          | _ :: _ :: _, hl => have := hl.1; simp at this
        have two : ∀ (μ : Mu) (v u : Value) (cs : List Value), LR μ [v, u] cs → ∃ c d, cs = [c, d] ∧ VR μ v c ∧ VR μ u d := by
          intro μ v u cs hl
          match cs, hl with
          | [c, d], hl => exact ⟨c, d, rfl, hl.2 0 v c rfl rfl, hl.2 1 u d rfl rfl⟩
          | [], hl => have := hl.1; simp at this
          | [_], hl => have := hl.1; simp at this
          | _ :: _ :: _ :: _, hl => have := hl.1; simp at this
        split at hr
        · rename_i v
          split at hr
          · rename_i e hu
            obtain ⟨u, hv, hk⟩ := bind_some hr
            refine ⟨_, _, hk, .pure fun μ a w r hρ => ?_⟩
            obtain ⟨hl, hae⟩ := hargs μ a hρ
            obtain ⟨c, hc, hvc⟩ := one μ v _ hl
            obtain ⟨t, ht, hu⟩ := bind_some hu
            have hrun := lenS_sound P (w := w) hu hv hvc type
            refine ⟨u, ?_, hrun.2⟩
            have ea : ∃ ts : List TypeId, argTypes = ⟨t :: ts⟩ := by
              obtain ⟨l⟩ := argTypes
              cases l with
              | nil => simp at ht
              | cons t' ts => simp at ht; subst ht; exact ⟨ts, rfl⟩
            obtain ⟨ts, rfl⟩ := ea
            rw [execOp_builtin rfl, hae, hc]
            have e2 : Builtin.len_ ⟨t :: ts⟩ type #[c] = Builtin.len_ #[t] type #[c] := by simp [Builtin.len_]
            simp only [builtin, e2, Sem.run_bind, hrun.1, Result.andThen_ok, Sem.run_pure]
          · rename_i hu
            obtain ⟨u, hv, hk⟩ := bind_some hr
            refine ⟨_, _, hk, .pure fun μ a w r hρ => ?_⟩
            obtain ⟨hl, hae⟩ := hargs μ a hρ
            obtain ⟨c, hc, hvc⟩ := one μ v _ hl
            obtain ⟨t, ht, hu⟩ := bind_some hu
            have hrun := lenStr_sound P (w := w) hu hv hvc type
            refine ⟨u, ?_, hrun.2⟩
            have ea : ∃ ts : List TypeId, argTypes = ⟨t :: ts⟩ := by
              obtain ⟨l⟩ := argTypes
              cases l with
              | nil => simp at ht
              | cons t' ts => simp at ht; subst ht; exact ⟨ts, rfl⟩
            obtain ⟨ts, rfl⟩ := ea
            rw [execOp_builtin rfl, hae, hc]
            have e2 : Builtin.len_ ⟨t :: ts⟩ type #[c] = Builtin.len_ #[t] type #[c] := by simp [Builtin.len_]
            simp only [builtin, e2, Sem.run_bind, hrun.1, Result.andThen_ok, Sem.run_pure]
          · rename_i k e hu
            obtain ⟨u, hv, hk⟩ := bind_some hr
            refine ⟨_, _, hk, .pure fun μ a w r hρ => ?_⟩
            obtain ⟨hl, hae⟩ := hargs μ a hρ
            obtain ⟨c, hc, hvc⟩ := one μ v _ hl
            obtain ⟨t, ht, hu⟩ := bind_some hu
            have hrun := lenM_sound P (w := w) r hu hv hvc type
            refine ⟨u, ?_, hrun.2⟩
            have ea : ∃ ts : List TypeId, argTypes = ⟨t :: ts⟩ := by
              obtain ⟨l⟩ := argTypes
              cases l with
              | nil => simp at ht
              | cons t' ts => simp at ht; subst ht; exact ⟨ts, rfl⟩
            obtain ⟨ts, rfl⟩ := ea
            rw [execOp_builtin rfl, hae, hc]
            have e2 : Builtin.len_ ⟨t :: ts⟩ type #[c] = Builtin.len_ #[t] type #[c] := by simp [Builtin.len_]
            simp only [builtin, e2, Sem.run_bind, hrun.1, Result.andThen_ok, Sem.run_pure]
          · simp at hr
        · rename_i s x
          split at hr
          · rename_i e d he hd
            split at hr
            · simp at hr
            · rename_i hnot
              split at hr
              · rename_i n bs zs hn hb hz
                obtain ⟨hc, hr⟩ := cond_some hr
                simp only [Bool.and_eq_true, beq_iff, blt_iff] at hc
                obtain ⟨⟨v, h'⟩, hv, hk⟩ := bind_some hr
                obtain ⟨t, ht, he⟩ := bind_some he
                obtain ⟨t2, ht2, hd⟩ := bind_some hd
                obtain ⟨z, hz1, hz2⟩ := bind_some hz
                refine ⟨_, _, hk, .val (append_next hv) fun μ a w r hf hρ => ?_⟩
                obtain ⟨hl, hae⟩ := hargs μ a hρ
                obtain ⟨c1, c2, hcs, r1, r2⟩ := two μ s x _ hl
                obtain ⟨cv, w', μ', hrun, hst, hv'⟩ := append_sound P r hf (elemP_eq he) hn hb hz1 hz2 hc.1.1.2 hd (fun k e => hnot k e) hc.1.2 hc.1.1.1 hc.2 hv r1 r2 type
                refine ⟨cv, w', μ', ?_, hst, hv'⟩
                rw [execOp_builtin rfl, hae, hcs]
                have e2 : Builtin.append_ argTypes type #[c1, c2] = Builtin.append_ #[t, t2] type #[c1, c2] := by simp [Builtin.append_, ht, ht2]
                simp only [builtin]
                rw [show (⟨[c1, c2]⟩ : Array Value) = #[c1, c2] from rfl, e2]
                simp only [Sem.run_bind, hrun, Result.andThen_ok, Sem.run_pure]
              · simp at hr
          · simp at hr
        · rename_i d x
          split at hr
          · rename_i e he
            split at hr
            · rename_i n hn
              obtain ⟨⟨v, h'⟩, hv, hk⟩ := bind_some hr
              obtain ⟨t, ht, he⟩ := bind_some he
              refine ⟨_, _, hk, .val (copy_next hv) fun μ a w r hf hρ => ?_⟩
              obtain ⟨hl, hae⟩ := hargs μ a hρ
              obtain ⟨c1, c2, hcs, r1, r2⟩ := two μ d x _ hl
              obtain ⟨cv, w', hrun, hst, hv'⟩ := copy_sound P (t2 := 0) r (elemP_eq he) hn hv r1 r2 type
              refine ⟨cv, w', μ, ?_, hst, hv'⟩
              rw [execOp_builtin rfl, hae, hcs]
              have e2 : Builtin.copy_ argTypes type #[c1, c2] = Builtin.copy_ #[t, 0] type #[c1, c2] := by simp [Builtin.copy_, ht]
              simp only [builtin]
              rw [show (⟨[c1, c2]⟩ : Array Value) = #[c1, c2] from rfl, e2]
              simp only [Sem.run_bind, hrun, Result.andThen_ok, Sem.run_pure]
            · simp at hr
          · simp at hr
        · rename_i m k
          split at hr
          · rename_i kt et he
            split at hr
            · rename_i s hsk
              obtain ⟨h', hv, hk⟩ := bind_some hr
              obtain ⟨hkk, hv⟩ := cond_some hv
              have hkk := keyS_K hsk hkk
              obtain ⟨t, ht, he⟩ := bind_some he
              have hnx := delete_next hv
              refine ⟨_, _, hk, .val (by show h.next ≤ h'.next; omega) fun μ a w r hf hρ => ?_⟩
              obtain ⟨hl, hae⟩ := hargs μ a hρ
              obtain ⟨c1, c2, hcs, r1, r2⟩ := two μ m k _ hl
              obtain ⟨w', hrun, hst⟩ := delete_sound r ht (mapP_eq he) hkk hv r1 r2 type
              refine ⟨.tuple #[], w', μ, ?_, hst, .tuple [] [] rfl (by simp)⟩
              rw [execOp_builtin rfl, hae, hcs]
              simp only [builtin]
              rw [show (⟨[c1, c2]⟩ : Array Value) = #[c1, c2] from rfl]
              simp only [Sem.run_bind, hrun, Result.andThen_ok, Sem.run_pure]
            · simp at hr
          · simp at hr
        · rename_i x
          split at hr
          · rename_i kt et he
            obtain ⟨h', hv, hk⟩ := bind_some hr
            obtain ⟨t, ht, he⟩ := bind_some he
            have hnx := clearM_next hv
            refine ⟨_, _, hk, .val (by show h.next ≤ h'.next; omega) fun μ a w r hf hρ => ?_⟩
            obtain ⟨hl, hae⟩ := hargs μ a hρ
            obtain ⟨c1, hcs, r1⟩ := one μ x _ hl
            obtain ⟨w', hrun, hst⟩ := clearM_sound r ht he hv r1 type
            refine ⟨.tuple #[], w', μ, ?_, hst, .tuple [] [] rfl (by simp)⟩
            rw [execOp_builtin rfl, hae, hcs]
            simp only [builtin]
            rw [show (⟨[c1]⟩ : Array Value) = #[c1] from rfl]
            simp only [Sem.run_bind, hrun, Result.andThen_ok, Sem.run_pure]
          · rename_i e he
            split at hr
            · rename_i n zs hn hz
              obtain ⟨hc, hr⟩ := cond_some hr
              simp only [Bool.and_eq_true, beq_iff, blt_iff] at hc
              obtain ⟨h', hv, hk⟩ := bind_some hr
              obtain ⟨t, ht, he⟩ := bind_some he
              obtain ⟨z, hz1, hz2⟩ := bind_some hz
              have hnx : h'.next = h.next := by
                unfold A.clear at hv
                split at hv
                · simp only [Option.some.injEq] at hv; rw [hv]
                · rcases cond_or hv with hv | hv
                  · simp only [Option.some.injEq] at hv; rw [hv]
                  · split at hv
                    · have := (cond_some hv).2; simp only [Option.some.injEq] at this; rw [← this]; simp
                    · simp at hv
                · simp at hv
              refine ⟨_, _, hk, .val (by show h.next ≤ h'.next; omega) fun μ a w r hf hρ => ?_⟩
              obtain ⟨hl, hae⟩ := hargs μ a hρ
              obtain ⟨c1, hcs, r1⟩ := one μ x _ hl
              obtain ⟨w', hrun, hst⟩ := clear_sound P r he hz1 hz2 (cellsL_plain (zeroP_plain P hzp hz1) hz2) hc.1 hc.2 hv r1 type
              refine ⟨.tuple #[], w', μ, ?_, hst, .tuple [] [] rfl (by simp)⟩
              rw [execOp_builtin rfl, hae, hcs]
              have e2 : Builtin.clear_ argTypes type #[c1] = Builtin.clear_ #[t] type #[c1] := by simp [Builtin.clear_, ht]
              simp only [builtin]
              rw [show (⟨[c1]⟩ : Array Value) = #[c1] from rfl, e2]
              simp only [Sem.run_bind, hrun, Result.andThen_ok, Sem.run_pure]
            · simp at hr
          · simp at hr
        · rename_i x
          split at hr
          · rename_i e he
            obtain ⟨u, hv, hk⟩ := bind_some hr
            obtain ⟨t, ht, heT⟩ := bind_some he
            refine ⟨_, _, hk, .pure fun μ a w r hρ => ?_⟩
            obtain ⟨hl, hae⟩ := hargs μ a hρ
            obtain ⟨c1, hcs, r1⟩ := one μ x _ hl
            have ea : ∃ ts : List TypeId, argTypes = ⟨t :: ts⟩ := by
              obtain ⟨l⟩ := argTypes
              cases l with
              | nil => simp at ht
              | cons t' ts => simp at ht; subst ht; exact ⟨ts, rfl⟩
            obtain ⟨ts, rfl⟩ := ea
            obtain ⟨cv, hrun, hr'⟩ := capS_sound (w := w) heT hv r1 type ts
            refine ⟨cv, ?_, hr'⟩
            rw [execOp_builtin rfl, hae, hcs]
            simp only [builtin]
            rw [show (⟨[c1]⟩ : Array Value) = #[c1] from rfl]
            simp only [Sem.run_bind, hrun, Result.andThen_ok, Sem.run_pure]
          · simp at hr
        · rename_i x
          obtain ⟨u, hv, hk⟩ := bind_some hr
          refine ⟨_, _, hk, .pure fun μ a w r hρ => ?_⟩
          obtain ⟨hl, hae⟩ := hargs μ a hρ
          obtain ⟨c1, hcs, r1⟩ := one μ x _ hl
          obtain ⟨cv, hrun, hr'⟩ := sliceData_sound (P := P) (w := w) hv r1 argTypes type
          refine ⟨cv, ?_, hr'⟩
          rw [execOp_builtin rfl, hae, hcs]
          simp only [builtin]
          rw [show (⟨[c1]⟩ : Array Value) = #[c1] from rfl]
          simp only [Sem.run_bind, hrun, Result.andThen_ok, Sem.run_pure]
        · rename_i p n
          split at hr
          · rename_i e he
            obtain ⟨⟨v, h'⟩, hv, hk⟩ := bind_some hr
            obtain ⟨t, ht, heT⟩ := bind_some he
            have hnx := unsafeStr_next hv
            refine ⟨_, _, hk, .val (by show h.next ≤ h'.next; omega) fun μ a w r hf hρ => ?_⟩
            obtain ⟨hl, hae⟩ := hargs μ a hρ
            obtain ⟨c1, c2, hcs, r1, r2⟩ := two μ p n _ hl
            have ea : ∃ ts : List TypeId, argTypes = ⟨t :: ts⟩ := by
              obtain ⟨l⟩ := argTypes
              cases l with
              | nil => simp at ht
              | cons t' ts => simp at ht; subst ht; exact ⟨ts, rfl⟩
            obtain ⟨ts, rfl⟩ := ea
            obtain ⟨cv, w', hrun, hst, hv'⟩ := unsafeStr_sound (rest := ts) r heT hv r1 r2 type
            refine ⟨cv, w', μ, ?_, hst, hv'⟩
            rw [execOp_builtin rfl, hae, hcs]
            simp only [builtin]
            rw [show (⟨[c1, c2]⟩ : Array Value) = #[c1, c2] from rfl]
            simp only [Sem.run_bind, hrun, Result.andThen_ok, Sem.run_pure]
          · simp at hr
        · obtain ⟨u, hv, hk⟩ := bind_some hr
          refine ⟨_, _, hk, .pure fun μ a w r hρ => ?_⟩
          obtain ⟨hl, hae⟩ := hargs μ a hρ
          obtain ⟨cv, hrun, hr'⟩ := pureB_sound P (w := w) (consts := args.map fun | .const _ => true | _ => false) hv hl
          exact ⟨cv, by rw [execOp_builtin rfl, hae]; exact hrun, hr'⟩
  | _ => simp [aop] at hr

end Go.AM
