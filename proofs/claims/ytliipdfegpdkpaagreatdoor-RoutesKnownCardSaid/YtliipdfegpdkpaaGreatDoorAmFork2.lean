/-
  An abstract machine for the model: calls of which all orders are run; a run in pieces with such calls.
-/
import Derived.Test.YtliipdfegpdkpaaGreatDoorAmFork
namespace Go.AM
open Go Go.RowKit

/-! Tries. -/
namespace T
variable {α : Type}
/-- Only what lies at places below lo stays; the k-th of this trie is the place a + b * k. -/
def keepLt (lo : Nat) : Nat → Nat → T α → T α
  | _, _, .nil => .nil
  | a, b, .node l v r => .node (keepLt lo (Nat.add a b) (Nat.add b b) l) (bif Nat.blt a lo then v else none) (keepLt lo (Nat.add a (Nat.add b b)) (Nat.add b b) r)
theorem keepLt_get (lo : Nat) : ∀ (t : T α) (a b k : Nat), (keepLt lo a b t).get k = if a + b * k < lo then t.get k else none
  | .nil, a, b, k => by simp [keepLt]
  | .node l v r, a, b, k => by
    have e1 : Nat.add a b = a + b := rfl
    have e2 : Nat.add b b = b + b := rfl
    have e3 : Nat.add a (b + b) = a + (b + b) := rfl
    simp only [keepLt, get_node, e1, e2, e3, keepLt_get lo l, keepLt_get lo r]
    by_cases h0 : k = 0
    · subst h0
      simp only [if_true, Nat.mul_zero, Nat.add_zero]
      cases hb : Nat.blt a lo with
      | true => rw [if_pos (blt_iff.1 hb)]; rfl
      | false =>
        have : ¬ a < lo := fun h => by rw [blt_iff.2 h] at hb; simp at hb
        rw [if_neg this]; rfl
    · simp only [h0, if_false]
      by_cases h1 : k % 2 = 1
      · simp only [h1, if_true]
        have : a + b + (b + b) * ((k - 1) / 2) = a + b * k := by
          obtain ⟨j, hj⟩ : ∃ j, k = 2 * j + 1 := ⟨k / 2, by omega⟩
          subst hj
          have : (2 * j + 1 - 1) / 2 = j := by omega
          rw [this, Nat.add_mul, Nat.mul_add, Nat.mul_one]
          have : b * (2 * j) = b * j + b * j := by rw [Nat.mul_left_comm, Nat.two_mul]
          omega
        rw [this]
      · simp only [h1, if_false]
        have : a + (b + b) + (b + b) * ((k - 2) / 2) = a + b * k := by
          obtain ⟨j, hj⟩ : ∃ j, k = 2 * j + 2 := ⟨(k - 2) / 2, by omega⟩
          subst hj
          have : (2 * j + 2 - 2) / 2 = j := by omega
          rw [this, Nat.add_mul, Nat.mul_add]
          have : b * (2 * j) = b * j + b * j := by rw [Nat.mul_left_comm, Nat.two_mul]
          omega
        rw [this]

def optP (p : α → Bool) : Option α → Bool
  | some x => p x
  | none => false
/-- What p tells of, at places from lo on, goes. -/
def dropP (p : α → Bool) (lo : Nat) : Nat → Nat → T α → T α
  | _, _, .nil => .nil
  | a, b, .node l v r => .node (dropP p lo (Nat.add a b) (Nat.add b b) l) (bif Nat.ble lo a && optP p v then none else v) (dropP p lo (Nat.add a (Nat.add b b)) (Nat.add b b) r)
theorem dropP_get (p : α → Bool) (lo : Nat) : ∀ (t : T α) (a b k : Nat), (dropP p lo a b t).get k = if lo ≤ a + b * k ∧ optP p (t.get k) = true then none else t.get k
  | .nil, a, b, k => by simp [dropP, optP]
  | .node l v r, a, b, k => by
    have e1 : Nat.add a b = a + b := rfl
    have e2 : Nat.add b b = b + b := rfl
    have e3 : Nat.add a (b + b) = a + (b + b) := rfl
    simp only [dropP, get_node, e1, e2, e3, dropP_get p lo l, dropP_get p lo r]
    by_cases h0 : k = 0
    · subst h0
      simp only [if_true, Nat.mul_zero, Nat.add_zero]
      cases hb : Nat.ble lo a with
      | true =>
        have := ble_iff.1 hb
        cases hv : optP p v with
        | true => rw [if_pos ⟨this, rfl⟩]; rfl
        | false => rw [if_neg (by simp)]; rfl
      | false =>
        have : ¬ lo ≤ a := fun h => by rw [ble_iff.2 h] at hb; simp at hb
        rw [if_neg (by simp [this])]; rfl
    · simp only [h0, if_false]
      by_cases h1 : k % 2 = 1
      · simp only [h1, if_true]
        have : a + b + (b + b) * ((k - 1) / 2) = a + b * k := by
          obtain ⟨j, hj⟩ : ∃ j, k = 2 * j + 1 := ⟨k / 2, by omega⟩
          subst hj
          have : (2 * j + 1 - 1) / 2 = j := by omega
          rw [this, Nat.add_mul, Nat.mul_add, Nat.mul_one]
          have : b * (2 * j) = b * j + b * j := by rw [Nat.mul_left_comm, Nat.two_mul]
          omega
        rw [this]
      · simp only [h1, if_false]
        have : a + (b + b) + (b + b) * ((k - 2) / 2) = a + b * k := by
          obtain ⟨j, hj⟩ : ∃ j, k = 2 * j + 2 := ⟨(k - 2) / 2, by omega⟩
          subst hj
          have : (2 * j + 2 - 2) / 2 = j := by omega
          rw [this, Nat.add_mul, Nat.mul_add]
          have : b * (2 * j) = b * j + b * j := by rw [Nat.mul_left_comm, Nat.two_mul]
          omega
        rw [this]

def emptyT : T α → Bool
  | .nil => true
  | .node l v r => v.isNone && emptyT l && emptyT r
theorem emptyT_get : ∀ (t : T α) (k : Nat), emptyT t = true → t.get k = none
  | .nil, k, _ => rfl
  | .node l v r, k, h => by
    simp only [emptyT, Bool.and_eq_true] at h
    rw [get_node, emptyT_get l _ h.1.2, emptyT_get r _ h.2]
    have : v = none := by cases v <;> simp_all
    subst this
    split
    · rfl
    · split <;> rfl
def optB (p : α → α → Bool) : Option α → Option α → Bool
  | none, none => true
  | some a, some b => p a b
  | _, _ => false
def eqT (p : α → α → Bool) : T α → T α → Bool
  | .nil, t => emptyT t
  | .node l v r, .nil => emptyT (.node l v r)
  | .node l v r, .node l' v' r' => optB p v v' && eqT p l l' && eqT p r r'
theorem eqT_get {p : α → α → Bool} (hp : ∀ a b, p a b = true → a = b) : ∀ (t u : T α) (k : Nat), eqT p t u = true → t.get k = u.get k
  | .nil, u, k, h => by rw [emptyT_get u k h]; rfl
  | .node l v r, .nil, k, h => emptyT_get _ k h
  | .node l v r, .node l' v' r', k, h => by
    simp only [eqT, Bool.and_eq_true] at h
    have hv : v = v' := by
      have := h.1.1
      cases v <;> cases v' <;> simp only [optB, Bool.false_eq_true] at this
      · rfl
      · rw [hp _ _ this]
    rw [get_node, get_node, eqT_get hp l l' _ h.1.2, eqT_get hp r r' _ h.2, hv]
end T

def natsB : List Nat → List Nat → Bool
  | [], [] => true
  | a :: r, b :: s => Nat.beq a b && natsB r s
  | _, _ => false
theorem natsB_eq : ∀ {a b : List Nat}, natsB a b = true → a = b
  | [], [], _ => rfl
  | [], _ :: _, h => by simp [natsB] at h
  | _ :: _, [], h => by simp [natsB] at h
  | a :: r, b :: s, h => by
    simp only [natsB, Bool.and_eq_true] at h
    rw [beq_iff.1 h.1, natsB_eq h.2]

def blkB2 : Blk → Blk → Bool
  | .cells a o, .cells b p => sameL a b && F.ownB o p
  | .map a c, .map b d => F.entB a b && Nat.beq c d
  | .miter m s l x, .miter m' s' l' x' => F.ownB m m' && Nat.beq s s' && natsB l l' && Nat.beq x x'
  | .siter s p, .siter s' p' => same (.string s) (.string s') && Nat.beq p p'
  | _, _ => false
theorem ownB_eq {a b : Option Nat} (h : F.ownB a b = true) : a = b := by
  cases a <;> cases b <;> simp_all [F.ownB]
theorem blkB2_eq (a b : Blk) (h : blkB2 a b = true) : a = b := by
  cases a <;> cases b <;> simp only [blkB2, Bool.and_eq_true, Bool.false_eq_true] at h
  · rw [sameL_eq _ _ h.1, ownB_eq h.2]
  · rw [F.entB_eq h.1, beq_iff.1 h.2]
  · obtain ⟨h1, h2⟩ := h
    have := same_eq _ _ h1
    injection this with this
    rw [this, beq_iff.1 h2]
  · rw [ownB_eq h.1.1.1, beq_iff.1 h.1.1.2, natsB_eq h.1.2, beq_iff.1 h.2]

def isIter : Blk → Bool
  | .siter .. => true
  | .miter .. => true
  | .loop .. => true
  | _ => false

/-! Calls. -/
def resM (P : Program) (fn : Func) : OL → Option (List (Value × H))
  | [] => some []
  | (ex, fr, h) :: r => match ex with
    | .exit _ => none
    | _ => match resA P fr h fn.results.toList, resM P fn r with
      | some vs, some l => some ((packA vs, h) :: l)
      | _, _ => none

def mergeM (lo : Nat) : List (Value × H) → Option (Value × H)
  | [] => none
  | (v, h1) :: r => bif plain v && Nat.ble h1.next (Nat.add lo 1024) && r.all (fun x => same v x.1 && Nat.ble x.2.next (Nat.add lo 1024) && T.eqT blkB2 (T.keepLt lo 0 1 h1.m) (T.keepLt lo 0 1 x.2.m)) then
      some (v, ⟨T.keepLt lo 0 1 h1.m, Nat.add lo 1024⟩) else none

noncomputable def callBodyM (P : Program) (C : CF) (L NG : Nat) (fn : Func) (args : List Value) (h : H) : Option (Value × H) :=
  match fn.body with
  | none => none
  | some c => bif Nat.ble args.length fn.ntmps then
      (match execM (F.execF P C L NG fn.ntmps true) P C L NG fn.ntmps (Nat.add h.next 1024) c (argsA 0 args) h with
       | some l => (match resM P fn l with | some rs => mergeM h.next rs | none => none)
       | none => none)
    else none

section
variable {P : Program} {NG : Nat} {C : CF}

/-- What a call must be good for. -/
def CallOK (P : Program) (NG : Nat) (f : FuncId) (args : List Value) (h : H) (v : Value) (h' : H) : Prop :=
  h.next ≤ h'.next ∧
    (f < Y0 → ∃ fn, P.funcs[f]? = some fn ∧ fn.name ≠ "runtime.NumGoroutine" ∧
      (((∃ c, fn.body = some c) ∧ ∀ μ w cargs, RH NG μ h w → Fresh μ h.next h'.next → LR μ args cargs → Calls P f ⟨cargs⟩ w (CallR NG μ h w v h')) ∨
       (fn.body = none ∧ ∀ μ w cargs, RH NG μ h w → Fresh μ h.next h'.next → LR μ args cargs → ∃ cv w' μ', (callFunc f ⟨cargs⟩).run P w = .ok (.value cv) w' ∧ Step NG μ h w μ' h' w' ∧ VR μ' v cv))) ∧
    (∀ id vs, f = Y0 → args = .int .i64 (.ofNat id) :: vs → ∀ μ w cargs l, RH NG μ h w → Fresh μ h.next h'.next → LR μ vs cargs → μ id = some l →
      ∃ g tm a b, (Instr.yield l.blk ⟨cargs⟩).run P w = .ok (.round l.blk g tm a b) w ∧ RoundIn Fence.wide 0 P l.blk g tm a b w (CallR NG μ h w v h'))

theorem CallOK.weaken {f : FuncId} {args : List Value} {h h1 hf : H} {v : Value} (x : CallOK P NG f args h v h1) (hlt : f < Y0) (hsub : ∀ id b, hf.get id = some b → h1.get id = some b) (hold : ∀ id, id < h.next → hf.get id = h1.get id) (hn : h1.next ≤ hf.next) : CallOK P NG f args h v hf := by
  obtain ⟨x1, x2, _⟩ := x
  have fr : ∀ {μ : Mu}, Fresh μ h.next hf.next → Fresh μ h.next h1.next := fun hfr id e1 e2 => hfr id e1 (Nat.lt_of_lt_of_le e2 hn)
  refine ⟨Nat.le_trans x1 hn, fun hy => ?_, fun id us e => absurd hlt (not_Y0 e)⟩
  obtain ⟨fn, e1, e2, ⟨e3, e4⟩ | ⟨e3, e4⟩⟩ := x2 hy
  · refine ⟨fn, e1, e2, .inl ⟨e3, fun μ w cargs rh hfr hl => (e4 μ w cargs rh (fr hfr) hl).mono fun e w' ⟨cv, μ', he, hst, hv⟩ => ⟨cv, μ', he, hst.weaken hsub hold hn, hv⟩⟩⟩
  · refine ⟨fn, e1, e2, .inr ⟨e3, fun μ w cargs rh hfr hl => ?_⟩⟩
    obtain ⟨cv, w', μ', a1, a2, a3⟩ := e4 μ w cargs rh (fr hfr) hl
    exact ⟨cv, w', μ', a1, a2.weaken hsub hold hn, a3⟩

theorem resM_mem {fn : Func} : ∀ {l : OL} {rs : List (Value × H)}, resM P fn l = some rs → ∀ o ∈ l, (o.1 = .normal ∨ o.1 = .ret) ∧ ∃ vs, resA P o.2.1 o.2.2 fn.results.toList = some vs ∧ (packA vs, o.2.2) ∈ rs
  | [], rs, h, o, ho => by simp at ho
  | (ex, fr, h0) :: r, rs, h, o, ho => by
    have key : ∀ (hr : (match resA P fr h0 fn.results.toList, resM P fn r with | some vs, some l => some ((packA vs, h0) :: l) | _, _ => none) = some rs), (ex = .normal ∨ ex = .ret) → (o.1 = .normal ∨ o.1 = .ret) ∧ ∃ vs, resA P o.2.1 o.2.2 fn.results.toList = some vs ∧ (packA vs, o.2.2) ∈ rs := by
      intro hr hex
      split at hr
      · rename_i vs l hvs hl
        simp only [Option.some.injEq] at hr
        subst hr
        rcases List.mem_cons.1 ho with rfl | ho
        · exact ⟨hex, vs, hvs, List.mem_cons_self⟩
        · obtain ⟨a, vs, b, c⟩ := resM_mem hl o ho
          exact ⟨a, vs, b, List.mem_cons_of_mem _ c⟩
      · simp at hr
    cases ex with
    | normal => exact key h (.inl rfl)
    | ret => exact key h (.inr rfl)
    | exit j => simp [resM] at h

theorem mergeM_mem {h : H} {rs : List (Value × H)} {v : Value} {h' : H} (hm : mergeM h.next rs = some (v, h')) : h.next ≤ h'.next ∧ plain v = true ∧ ∀ x ∈ rs, x.1 = v ∧ x.2.next ≤ h'.next ∧ (∀ id b, h'.get id = some b → x.2.get id = some b) ∧ ∀ id, id < h.next → h'.get id = x.2.get id := by
  cases rs with
  | nil => simp [mergeM] at hm
  | cons x r =>
    obtain ⟨v0, h1⟩ := x
    simp only [mergeM] at hm
    obtain ⟨hc, hm⟩ := cond_some hm
    simp only [Option.some.injEq, Prod.mk.injEq] at hm
    obtain ⟨rfl, rfl⟩ := hm
    simp only [Bool.and_eq_true, List.all_eq_true] at hc
    obtain ⟨⟨hp, hn⟩, hall⟩ := hc
    have en : Nat.add h.next 1024 = h.next + 1024 := rfl
    have gk : ∀ (m : T Blk) (id : Nat), (T.keepLt h.next 0 1 m).get id = if id < h.next then m.get id else none := fun m id => by
      rw [T.keepLt_get]; simp
    have one : ∀ (h2 : H), T.eqT blkB2 (T.keepLt h.next 0 1 h1.m) (T.keepLt h.next 0 1 h2.m) = true ∨ h2 = h1 → ∀ id, (T.keepLt h.next 0 1 h1.m).get id = if id < h.next then h2.m.get id else none := fun h2 he id => by
      rcases he with he | rfl
      · rw [T.eqT_get blkB2_eq _ _ id he, gk]
      · rw [gk]
    refine ⟨by show h.next ≤ Nat.add h.next 1024; omega, hp, fun x hx => ?_⟩
    have hx2 : x.1 = v0 ∧ x.2.next ≤ h.next + 1024 ∧ (T.eqT blkB2 (T.keepLt h.next 0 1 h1.m) (T.keepLt h.next 0 1 x.2.m) = true ∨ x.2 = h1) := by
      rcases List.mem_cons.1 hx with rfl | hx
      · exact ⟨rfl, ble_iff.1 hn, .inr rfl⟩
      · obtain ⟨⟨a, b⟩, c⟩ := hall x hx
        exact ⟨(same_eq _ _ a).symm, ble_iff.1 b, .inl c⟩
    refine ⟨hx2.1, hx2.2.1, fun id b hb => ?_, fun id hid => ?_⟩
    · have := one x.2 hx2.2.2 id
      have hb : (T.keepLt h.next 0 1 h1.m).get id = some b := hb
      rw [this] at hb
      split at hb
      · exact hb
      · simp at hb
    · have := one x.2 hx2.2.2 id
      show (T.keepLt h.next 0 1 h1.m).get id = x.2.m.get id
      rw [this, if_pos hid]

theorem mergeM_next {lo : Nat} {rs : List (Value × H)} {v : Value} {h' : H} (hm : mergeM lo rs = some (v, h')) : h'.next = lo + 1024 := by
  cases rs with
  | nil => simp [mergeM] at hm
  | cons x r =>
    obtain ⟨v0, h1⟩ := x
    simp only [mergeM] at hm
    obtain ⟨hc, hm⟩ := cond_some hm
    simp only [Option.some.injEq, Prod.mk.injEq] at hm
    obtain ⟨rfl, rfl⟩ := hm
    rfl

theorem callM_sound (hzp : zerosPlain P = true) (hm : P.follows .mixedOrders = true) (hn : namesOK P = true) (hC : CallsOK P NG C) {f : FuncId} {fn : Func} (hfn : P.funcs[f]? = some fn) {L : Nat} {args : List Value} {h h' : H} {v : Value} (hr : callBodyM P C L NG fn args h = some (v, h')) : CallOK P NG f args h v h' := by
  obtain ⟨hname, hlt⟩ := names_fn hn hfn
  unfold callBodyM at hr
  split at hr
  · simp at hr
  rename_i c hc
  obtain ⟨hlen, hr⟩ := cond_some hr
  have hlen := ble_iff.1 hlen
  split at hr
  · rename_i l hex
    split at hr
    · rename_i rs hrs
      obtain ⟨hle, hpl, hmem⟩ := mergeM_mem hr
      have cn := execM_sound (nt := fn.ntmps) hzp hC (fun c fr h ex fr' h' he => by
        rw [F.execF_eq P C L NG fn.ntmps [] c (.inl rfl) [] [] fr h] at he
        exact exec_sound hzp hm hC c _ _ _ _ _ _ _ he) c _ _ _ hex
      refine ⟨hle, fun _ => ⟨fn, hfn, hname, .inl ⟨⟨c, hc⟩, fun μ w cargs rh hf hl => callsIn_Fr.1 (callsIn_of_wp_marks (F := Fr none) (n := 0) hfn hc trivial ?_)⟩⟩, fun id us e => absurd hlt (not_Y0 e)⟩
      have hcl : cargs.length = args.length := hl.1.symm
      have f0 : FR fn.ntmps μ (argsA 0 args) { tmps := (⟨cargs⟩ : Array Value) ++ Array.replicate (fn.ntmps - (⟨cargs⟩ : Array Value).size) undef, defers := [] } := by
        refine ⟨by simp; omega, fun (t : Nat) u hu => ?_⟩
        obtain ⟨_, h2⟩ := argsA_get args 0 t u hu
        simp only [Nat.sub_zero] at h2
        have hlt : t < args.length := (List.getElem?_eq_some_iff.1 h2).1
        refine ⟨Nat.lt_of_lt_of_le hlt hlen, ?_⟩
        obtain ⟨b, hb, hr'⟩ := hl.get h2
        have hlt2 : t < cargs.length := by rw [hcl]; exact hlt
        have : ((⟨cargs⟩ : Array Value) ++ Array.replicate (fn.ntmps - (⟨cargs⟩ : Array Value).size) undef)[t]? = some b := by
          rw [Array.getElem?_append_left (by simpa using hlt2)]; simpa using hb
        simp only [Array.getD_eq_getD_getElem?, this, Option.getD_some]
        exact hr'
      have hnx : h'.next = h.next + 1024 := mergeM_next hr
      refine wpIn_mono (cn.2 μ _ w rh (by rw [hnx] at hf; exact hf) f0) fun e a' w' ⟨o, ho, he, μ', st, f', ms, ed, nd, gd⟩ => ?_
      obtain ⟨hnr, vs, hres, hin⟩ := resM_mem hrs o ho
      obtain ⟨hv1, hv2, hv3, hv4⟩ := hmem _ hin
      have fin : LeavesInM (Fr none) 0 P fn a'.tmps (CallR NG μ h w v h') a'.defers .returning w' := by
        have ed' : a'.defers = ms.map (fun r => (⟨.collected r, #[]⟩ : Deferred)) := by rw [ed]; simp
        rw [ed']
        refine leaves_marks ms w' st nd gd fun w'' st'' => ?_
        obtain ⟨cv, hrun, hvr⟩ := results_sound (w := w'') st''.rh f' hres
        have hv1 : packA vs = v := hv1
        rw [hv1] at hvr
        exact ⟨cv, hrun, cv, μ', rfl, st''.weaken hv3 hv4 hv2, hvr⟩
      obtain ⟨ex, fr', h1⟩ := o
      have hnr : ex = .normal ∨ ex = .ret := hnr
      rcases hnr with rfl | rfl
      · cases e with
        | normal => exact fin
        | _ => exact he.elim
      · cases e with
        | ret => exact fin
        | _ => exact he.elim
    · simp at hr
  · simp at hr

/-- A function's body, run. -/
theorem callBody_ok (hzp : zerosPlain P = true) (hm : P.follows .mixedOrders = true) (hn : namesOK P = true) (hC : CallsOK P NG C) {f : FuncId} {fn : Func} (hfn : P.funcs[f]? = some fn) {L : Nat} {lv : Bool} {args : List Value} {h h' : H} {v : Value} (hr : callBody P C L NG lv fn args h = some (v, h')) : CallOK P NG f args h v h' := by
  unfold callBody at hr
  split at hr
  · rename_i hb
    exact extern_ok hn hfn hb hr
  · rename_i c hc
    obtain ⟨hlen, hr⟩ := cond_some hr
    have hlen := ble_iff.1 hlen
    split at hr
    · rename_i fr h1 hex
      split at hr
      · rename_i vs hres
        simp only [Option.some.injEq, Prod.mk.injEq] at hr
        obtain ⟨rfl, rfl⟩ := hr
        exact call_sound hn hfn hc hlen (exec_sound hzp hm hC (nt := fn.ntmps) c _ _ _ _ _ _ _ hex) (.inl rfl) hres
      · simp at hr
    · rename_i fr h1 hex
      split at hr
      · rename_i vs hres
        simp only [Option.some.injEq, Prod.mk.injEq] at hr
        obtain ⟨rfl, rfl⟩ := hr
        exact call_sound hn hfn hc hlen (exec_sound hzp hm hC (nt := fn.ntmps) c _ _ _ _ _ _ _ hex) (.inr rfl) hres
      · simp at hr
    · simp at hr

/-- Iterators that a call made are forgotten. -/
def forgetI (lo : Nat) (r : Option (Value × H)) : Option (Value × H) :=
  match r with
  | some (v, h) => some (v, ⟨T.dropP isIter lo 0 1 h.m, h.next⟩)
  | none => none

/-- pf: functions of which all orders are run; df: functions behind which iterators are forgotten. -/
noncomputable def callX (P : Program) (NG : Nat) (fs pf df : List Nat) : Nat → CF
  | 0 => fun _ _ _ => none
  | n + 1 => fun f args h =>
    match P.funcs[f]? with
    | none => bif Nat.beq f 1099511627776 then yArg args fun id vs => roundA (fun nt c _ fr h => F.execF P (callX P NG fs pf df n) n NG nt true c fr h) id vs h else none
    | some fn => bif pf.any (Nat.beq f) then callBodyM P (callX P NG fs pf df n) n NG fn args h
      else bif df.any (Nat.beq f) then forgetI h.next (F.bodyF P (callX P NG fs pf df n) n NG (!fs.any (Nat.beq f)) fn args h)
      else F.bodyF P (callX P NG fs pf df n) n NG (!fs.any (Nat.beq f)) fn args h

theorem callX_sound (hzp : zerosPlain P = true) (hm : P.follows .mixedOrders = true) (hn : namesOK P = true) {fs pf df : List Nat} (hfs : F.drsAll P fs = true) : ∀ (n : Nat), CallsOK P NG (callX P NG fs pf df n) := by
  intro n
  induction n with
  | zero => intro f args h v h' hr; simp [callX] at hr
  | succ n ih =>
    intro f args h v h' hr
    simp only [callX] at hr
    split at hr
    · obtain ⟨hf0, hr⟩ := cond_some hr
      exact round_ok hn (beq_iff.1 hf0) (E := fun nt c _ fr h => F.execF P (callX P NG fs pf df n) n NG nt true c fr h) (fun nt c out fr h ex fr' h' he => by
        have he : F.execF P (callX P NG fs pf df n) n NG nt true c fr h = some (ex, fr', h') := he
        rw [F.execF_eq P (callX P NG fs pf df n) n NG nt [] c (.inl rfl) [] [] fr h] at he
        exact exec_sound hzp hm ih (nt := nt) c _ _ _ _ _ _ _ he) hr
    · rename_i fn hfn
      have hd : (!fs.any (Nat.beq f)) = true ∨ ∀ c, fn.body = some c → F.drs P c = true := by
        cases hq : fs.any (Nat.beq f) with
        | false => exact .inl rfl
        | true =>
          refine .inr fun c hc => ?_
          obtain ⟨g, hg, hgf⟩ := List.any_eq_true.1 hq
          have hgf := beq_iff.1 hgf
          subst hgf
          have := List.all_eq_true.1 hfs _ hg
          simp only [hfn, hc] at this
          exact this
      have hb := F.bodyF_eq P (callX P NG fs pf df n) n NG fn hd args h
      cases hp : pf.any (Nat.beq f) with
      | true =>
        rw [hp] at hr
        simp only [cond_true] at hr
        exact callM_sound hzp hm hn ih hfn hr
      | false =>
        rw [hp] at hr
        simp only [cond_false] at hr
        cases hq : df.any (Nat.beq f) with
        | true =>
          rw [hq] at hr
          simp only [cond_true, hb] at hr
          unfold forgetI at hr
          split at hr
          · rename_i v1 h1 hr1
            simp only [Option.some.injEq, Prod.mk.injEq] at hr
            obtain ⟨rfl, rfl⟩ := hr
            have gk : ∀ id, H.get ⟨T.dropP isIter h.next 0 1 h1.m, h1.next⟩ id = if h.next ≤ id ∧ T.optP isIter (h1.m.get id) = true then none else h1.m.get id := fun id => by
              show (T.dropP isIter h.next 0 1 h1.m).get id = _
              rw [T.dropP_get]; simp only [Nat.zero_add, Nat.one_mul]
            refine (callBody_ok hzp hm hn ih hfn hr1).weaken (names_fn hn hfn).2 (fun id b hb => ?_) (fun id hid => ?_) (Nat.le_refl _)
            · rw [gk] at hb
              split at hb
              · simp at hb
              · exact hb
            · rw [gk, if_neg (fun h => by have := h.1; omega)]; rfl
          · simp at hr
        | false =>
          rw [hq] at hr
          simp only [cond_false, hb] at hr
          exact callBody_ok hzp hm hn ih hfn hr
end

namespace F
theorem segX {P : Program} {NG nt n : Nat} {fs pf df : List Nat} (hfs : drsAll P fs = true) (hzp : zerosPlain P = true) (hm : P.follows .mixedOrders = true) (hn : namesOK P = true) {L : Nat} {c : Code} {l l2 : List (Nat × Value)} {hl hl2 : List (Nat × Blk)} {k k2 : Nat} {ex : Ex}
    (h : segB (execF P (callX P NG fs pf df n) L NG nt true c (frL l) (hL hl k)) ex l2 hl2 k2 = true) (w0 : World) : Cl P NG nt w0 c (frL l) (hL hl k) ex (frL l2) (hL hl2 k2) := by
  obtain ⟨fr', h', hr, h1, h2⟩ := segB_some h
  rw [execF_eq P (callX P NG fs pf df n) L NG nt [] c (.inl rfl) [] [] (frL l) (hL hl k)] at hr
  exact cl_sub (cl_codes (exec_sound hzp hm (callX_sound hzp hm hn hfs n) c _ _ _ _ _ _ _ hr)) h1 h2
end F
end Go.AM
