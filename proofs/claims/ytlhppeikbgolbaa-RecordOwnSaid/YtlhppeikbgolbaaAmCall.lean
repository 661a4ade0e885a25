/-
  An abstract machine for the model: code and calls.
-/
import Derived.Test.YtlhppeikbgolbaaAmDraw
namespace Go.AM
open Go

inductive Ex where
  | normal
  | exit (id : Nat)
  | ret

def loopN (f : T Value → H → Option (Ex × T Value × H)) : Nat → T Value → H → Option (Ex × T Value × H)
  | 0, _, _ => none
  | n + 1, fr, h =>
    match f fr h with
    | some (.normal, fr', h') => loopN f n fr' h'
    | r => r

/-- What code does; L: how many rounds a loop has at most; lv: forget what is not read later. -/
def exec (P : Program) (C : CF) (L NG nt : Nat) (RR : List Tmp) (lv : Bool) : Code → List Tmp → List (Nat × List Tmp) → T Value → H → Option (Ex × T Value × H)
  | .skip, _, _, fr, h => some (.normal, fr, h)
  | .region _ ops draw, out, _, fr, h =>
    bif dstOK nt ops then
      bif draw then
        (bif drawOK P ops (before ops) then runD P C NG ops (before ops) 0 ops.toList fr h [] [] fun fr h => some (.normal, restrict lv out fr, h) else none)
      else runOps P C NG ops ops.toList fr h fun fr h => some (.normal, restrict lv out fr, h)
    else none
  | .seq a b, out, env, fr, h =>
    match exec P C L NG nt RR lv a (live RR b out env) env fr h with
    | some (.normal, fr', h') => exec P C L NG nt RR lv b out env fr' h'
    | r => r
  | .cond c a b, out, env, fr, h =>
    match evalA NG fr h c with
    | some (.bool t) => bif t then exec P C L NG nt RR lv a out env fr h else exec P C L NG nt RR lv b out env fr h
    | _ => none
  | .block id b, out, env, fr, h =>
    match exec P C L NG nt RR lv b out ((id, out) :: env) fr h with
    | some (.exit j, fr', h') => bif Nat.beq j id then some (.normal, fr', h') else some (.exit j, fr', h')
    | r => r
  | .loop b, _, env, fr, h => loopN (exec P C L NG nt RR lv b (live RR b [] env) env) L fr h
  | .exit id, _, _, fr, h => some (.exit id, fr, h)
  | .label _, _, _, fr, h => some (.normal, fr, h)
  | .ret, _, _, fr, h => some (.ret, fr, h)
  | _, _, _, _, _ => none

def resRegs (fn : Func) : List Tmp := fn.results.toList.map fun | .tmp t => t | .cell t _ => t

def resA (P : Program) (fr : T Value) (h : H) : List ResultVar → Option (List Value)
  | [] => some []
  | .tmp t :: r => match fr.get t with
    | some v => (match resA P fr h r with | some vs => some (v :: vs) | none => none)
    | none => none
  | .cell t ty :: r => match fr.get t, aggP P ty, szP P ty with
    | some p, some g, some n => (match A.load g n p h with
      | some v => (match resA P fr h r with | some vs => some (v :: vs) | none => none)
      | none => none)
    | _, _, _ => none

def packA : List Value → Value
  | [v] => v
  | vs => .tuple ⟨vs⟩

def argsA : Nat → List Value → T Value
  | _, [] => .nil
  | i, v :: r => (argsA (i + 1) r).set i (some v)

def callBody (P : Program) (C : CF) (L NG : Nat) (lv : Bool) (fn : Func) (args : List Value) (h : H) : Option (Value × H) :=
  match fn.body with
  | none => none
  | some c =>
    bif Nat.ble args.length fn.ntmps then
    match exec P C L NG fn.ntmps (resRegs fn) lv c (resRegs fn) [] (argsA 0 args) h with
    | some (.normal, fr, h') => (match resA P fr h' fn.results.toList with | some vs => some (packA vs, h') | none => none)
    | some (.ret, fr, h') => (match resA P fr h' fn.results.toList with | some vs => some (packA vs, h') | none => none)
    | _ => none
    else none

def callA (P : Program) (NG : Nat) (lv : Bool) : Nat → CF
  | 0 => fun _ _ _ => none
  | n + 1 => fun f args h =>
    match P.funcs[f]? with
    | none => none
    | some fn => callBody P (callA P NG lv n) n NG lv fn args h

def namesOK (P : Program) : Bool := P.funcs.toList.all fun fn => fn.name != "runtime.NumGoroutine"

section
variable {P : Program} {NG nt : Nat} {C : CF}

def ExR : Ex → Exit → Prop
  | .normal, .normal => True
  | .exit i, .exit j => i = j
  | .ret, .ret => True
  | _, _ => False

/-- What is proved of a piece of code. -/
def Codes (P : Program) (NG nt : Nat) (c : Code) (fr : T Value) (h : H) (ex : Ex) (fr' : T Value) (h' : H) : Prop :=
  h.next ≤ h'.next ∧ ∀ (μ : Mu) (a : Act) (w : World), RH NG μ h w → Fresh μ h.next h'.next → FR nt μ fr a →
    c.wp P (fun e a' w' => ExR ex e ∧ StepTo NG nt μ h w a fr' h' a' w') a w

theorem StepTo.trans {μ μ1 : Mu} {h h1 h2 : H} {w w1 w2 : World} {a a1 a2 : Act} {fr2 : T Value} (s : Step NG μ h w μ1 h1 w1) (e : a1.defers = a.defers)
    (s2 : StepTo NG nt μ1 h1 w1 a1 fr2 h2 a2 w2) : StepTo NG nt μ h w a fr2 h2 a2 w2 := by
  obtain ⟨μ2, st, f, d⟩ := s2
  exact ⟨μ2, s.trans st, f, d.trans e⟩

theorem Fresh.second {μ μ1 : Mu} {h h1 h2 : H} {w w1 : World} (hf : Fresh μ h.next h2.next) (s : Step NG μ h w μ1 h1 w1) : Fresh μ1 h1.next h2.next := fun id h1' h2' => by
  rw [s.out id h1']; exact hf id (Nat.le_trans s.next h1') h2'

theorem loopN_sound {f : T Value → H → Option (Ex × T Value × H)} {b : Code} (hb : ∀ fr h ex fr' h', f fr h = some (ex, fr', h') → Codes P NG nt b fr h ex fr' h') :
    ∀ (n : Nat) (fr : T Value) (h : H) (ex : Ex) (fr' : T Value) (h' : H), loopN f n fr h = some (ex, fr', h') → h.next ≤ h'.next ∧
      ∀ (μ : Mu) (a : Act) (w : World), RH NG μ h w → Fresh μ h.next h'.next → FR nt μ fr a →
        Code.rounds P b (fun e a' w' => ExR ex e ∧ StepTo NG nt μ h w a fr' h' a' w') n a w := by
  intro n
  induction n with
  | zero => intro fr h ex fr' h' hr; simp [loopN] at hr
  | succ n ih =>
    intro fr h ex fr' h' hr
    simp only [loopN] at hr
    cases hfh : f fr h with
    | none => rw [hfh] at hr; simp at hr
    | some p =>
      obtain ⟨ex1, fr1, h1⟩ := p
      rw [hfh] at hr
      have hc := hb _ _ _ _ _ hfh
      cases ex1 with
      | normal =>
        simp only at hr
        obtain ⟨hle, hs⟩ := ih _ _ _ _ _ hr
        refine ⟨Nat.le_trans hc.1 hle, fun μ a w rh hf f0 => ?_⟩
        rw [rounds_succ]
        refine wp_mono (hc.2 μ a w rh (fun id e1 e2 => hf id e1 (Nat.lt_of_lt_of_le e2 hle)) f0) fun e a1 w1 ⟨he, μ1, st, f1, d1⟩ => ?_
        cases e with
        | normal =>
          have := hs μ1 a1 w1 st.rh (hf.second st) f1
          clear hs ih
          have mono : ∀ (m : Nat) (a2 : Act) (w2 : World), Code.rounds P b (fun e a' w' => ExR ex e ∧ StepTo NG nt μ1 h1 w1 a1 fr' h' a' w') m a2 w2 →
              Code.rounds P b (fun e a' w' => ExR ex e ∧ StepTo NG nt μ h w a fr' h' a' w') m a2 w2 := by
            intro m
            induction m with
            | zero => intro a2 w2 hh; exact hh
            | succ m ihm =>
              intro a2 w2 hh
              rw [rounds_succ] at hh ⊢
              refine wp_mono hh fun e a3 w3 hh => ?_
              cases e with
              | normal => exact ihm _ _ hh
              | _ => exact ⟨hh.1, hh.2.trans st d1⟩
          exact mono n a1 w1 this
        | _ => exact he.elim
      | exit id =>
        simp only [Option.some.injEq, Prod.mk.injEq] at hr
        obtain ⟨rfl, rfl, rfl⟩ := hr
        refine ⟨hc.1, fun μ a w rh hf f0 => ?_⟩
        rw [rounds_succ]
        refine wp_mono (hc.2 μ a w rh hf f0) fun e a1 w1 ⟨he, hst⟩ => ?_
        cases e with
        | normal => exact he.elim
        | _ => exact ⟨he, hst⟩
      | ret =>
        simp only [Option.some.injEq, Prod.mk.injEq] at hr
        obtain ⟨rfl, rfl, rfl⟩ := hr
        refine ⟨hc.1, fun μ a w rh hf f0 => ?_⟩
        rw [rounds_succ]
        refine wp_mono (hc.2 μ a w rh hf f0) fun e a1 w1 ⟨he, hst⟩ => ?_
        cases e with
        | normal => exact he.elim
        | _ => exact ⟨he, hst⟩

theorem exec_sound (hzp : zerosPlain P = true) (hm : P.follows .mixedOrders = true) (hC : CallsOK P NG C) {L : Nat} {RR : List Tmp} {lv : Bool} :
    ∀ (c : Code) (out : List Tmp) (env : List (Nat × List Tmp)) (fr : T Value) (h : H) (ex : Ex) (fr' : T Value) (h' : H),
      exec P C L NG nt RR lv c out env fr h = some (ex, fr', h') → Codes P NG nt c fr h ex fr' h' := by
  intro c
  induction c with
  | skip =>
    intro out env fr h ex fr' h' hr
    simp only [exec, Option.some.injEq, Prod.mk.injEq] at hr
    obtain ⟨rfl, rfl, rfl⟩ := hr
    exact ⟨Nat.le_refl _, fun μ a w rh _ f => wp_skip ⟨trivial, μ, Step.refl rh, f, rfl⟩⟩
  | label l =>
    intro out env fr h ex fr' h' hr
    simp only [exec, Option.some.injEq, Prod.mk.injEq] at hr
    obtain ⟨rfl, rfl, rfl⟩ := hr
    exact ⟨Nat.le_refl _, fun μ a w rh _ f => wp_label ⟨trivial, μ, Step.refl rh, f, rfl⟩⟩
  | exit id =>
    intro out env fr h ex fr' h' hr
    simp only [exec, Option.some.injEq, Prod.mk.injEq] at hr
    obtain ⟨rfl, rfl, rfl⟩ := hr
    exact ⟨Nat.le_refl _, fun μ a w rh _ f => wp_exit ⟨rfl, μ, Step.refl rh, f, rfl⟩⟩
  | ret =>
    intro out env fr h ex fr' h' hr
    simp only [exec, Option.some.injEq, Prod.mk.injEq] at hr
    obtain ⟨rfl, rfl, rfl⟩ := hr
    exact ⟨Nat.le_refl _, fun μ a w rh _ f => wp_ret ⟨trivial, μ, Step.refl rh, f, rfl⟩⟩
  | region id ops draw =>
    intro out env fr h ex fr' h' hr
    simp only [exec] at hr
    obtain ⟨hd, hr⟩ := cond_some hr
    cases draw with
    | false =>
      simp only [cond_false] at hr
      obtain ⟨fr1, h1, hk, hle, hs⟩ := runOps_sound hzp hC hd ops.toList 0 fr h rfl hr
      simp only [Option.some.injEq, Prod.mk.injEq] at hk
      obtain ⟨rfl, rfl, rfl⟩ := hk
      refine ⟨hle, fun μ a w rh hf f => wp_region ?_⟩
      have := hs μ a w rh hf f (fun e a' w' => ExR .normal e ∧ StepTo NG nt μ h w a (restrict lv out fr1) h1 a' w') fun a' w' ⟨μ', st, f', d⟩ => ⟨trivial, μ', st, f'.restrict, d⟩
      rw [Nat.sub_zero, ← List.range_eq_range'] at this
      exact this
    | true =>
      simp only [cond_true] at hr
      obtain ⟨hdr, hr⟩ := cond_some hr
      obtain ⟨fr1, h1, hk, hle, hs⟩ := runD_sound hzp hC hd hdr hr
      simp only [Option.some.injEq, Prod.mk.injEq] at hk
      obtain ⟨rfl, rfl, rfl⟩ := hk
      refine ⟨hle, fun μ a w rh hf f => wp_region_any hm ?_⟩
      refine hs μ a w rh hf f _ fun a' w' ⟨μ', st, f', d⟩ => ⟨trivial, μ', st, f'.restrict, d⟩
  | seq x y ihx ihy =>
    intro out env fr h ex fr' h' hr
    simp only [exec] at hr
    cases hx : exec P C L NG nt RR lv x (live RR y out env) env fr h with
    | none => rw [hx] at hr; simp at hr
    | some p =>
      obtain ⟨ex1, fr1, h1⟩ := p
      rw [hx] at hr
      have hcx := ihx _ _ _ _ _ _ _ hx
      cases ex1 with
      | normal =>
        simp only at hr
        have hcy := ihy _ _ _ _ _ _ _ hr
        refine ⟨Nat.le_trans hcx.1 hcy.1, fun μ a w rh hf f => wp_seq (wp_mono (hcx.2 μ a w rh (fun id e1 e2 => hf id e1 (Nat.lt_of_lt_of_le e2 hcy.1)) f) fun e a1 w1 ⟨he, μ1, st, f1, d1⟩ => ?_)⟩
        cases e with
        | normal => exact wp_mono (hcy.2 μ1 a1 w1 st.rh (hf.second st) f1) fun e a2 w2 ⟨he2, hst⟩ => ⟨he2, hst.trans st d1⟩
        | _ => exact he.elim
      | exit id =>
        simp only [Option.some.injEq, Prod.mk.injEq] at hr
        obtain ⟨rfl, rfl, rfl⟩ := hr
        refine ⟨hcx.1, fun μ a w rh hf f => wp_seq (wp_mono (hcx.2 μ a w rh hf f) fun e a1 w1 ⟨he, hst⟩ => ?_)⟩
        cases e with
        | normal => exact he.elim
        | _ => exact ⟨he, hst⟩
      | ret =>
        simp only [Option.some.injEq, Prod.mk.injEq] at hr
        obtain ⟨rfl, rfl, rfl⟩ := hr
        refine ⟨hcx.1, fun μ a w rh hf f => wp_seq (wp_mono (hcx.2 μ a w rh hf f) fun e a1 w1 ⟨he, hst⟩ => ?_)⟩
        cases e with
        | normal => exact he.elim
        | _ => exact ⟨he, hst⟩
  | cond c x y ihx ihy =>
    intro out env fr h ex fr' h' hr
    simp only [exec] at hr
    split at hr
    · rename_i t hc
      cases t with
      | true =>
        simp only [cond_true] at hr
        have hx := ihx _ _ _ _ _ _ _ hr
        exact ⟨hx.1, fun μ a w rh hf f => wp_cond_true ((f.ev rh c _ hc).bool_inv) (hx.2 μ a w rh hf f)⟩
      | false =>
        simp only [cond_false] at hr
        have hy := ihy _ _ _ _ _ _ _ hr
        exact ⟨hy.1, fun μ a w rh hf f => wp_cond_false ((f.ev rh c _ hc).bool_inv) (hy.2 μ a w rh hf f)⟩
    · simp at hr
  | block id b ih =>
    intro out env fr h ex fr' h' hr
    simp only [exec] at hr
    cases hx : exec P C L NG nt RR lv b out ((id, out) :: env) fr h with
    | none => rw [hx] at hr; simp at hr
    | some p =>
      obtain ⟨ex1, fr1, h1⟩ := p
      rw [hx] at hr
      have hcx := ih _ _ _ _ _ _ _ hx
      cases ex1 with
      | normal =>
        simp only [Option.some.injEq, Prod.mk.injEq] at hr
        obtain ⟨rfl, rfl, rfl⟩ := hr
        refine ⟨hcx.1, fun μ a w rh hf f => wp_block (wp_mono (hcx.2 μ a w rh hf f) fun e a1 w1 ⟨he, hst⟩ => ?_)⟩
        cases e with
        | normal => exact ⟨trivial, hst⟩
        | _ => exact he.elim
      | ret =>
        simp only [Option.some.injEq, Prod.mk.injEq] at hr
        obtain ⟨rfl, rfl, rfl⟩ := hr
        refine ⟨hcx.1, fun μ a w rh hf f => wp_block (wp_mono (hcx.2 μ a w rh hf f) fun e a1 w1 ⟨he, hst⟩ => ?_)⟩
        cases e with
        | ret => exact ⟨trivial, hst⟩
        | _ => exact he.elim
      | exit j =>
        simp only at hr
        cases hj : Nat.beq j id with
        | true =>
          rw [hj] at hr
          simp only [cond_true, Option.some.injEq, Prod.mk.injEq] at hr
          obtain ⟨rfl, rfl, rfl⟩ := hr
          have hj := beq_iff.1 hj
          refine ⟨hcx.1, fun μ a w rh hf f => wp_block (wp_mono (hcx.2 μ a w rh hf f) fun e a1 w1 ⟨he, hst⟩ => ?_)⟩
          cases e with
          | exit k =>
            simp only [ExR] at he
            simp only [Exit.inBlock, ← he, hj, if_true]
            exact ⟨trivial, hst⟩
          | _ => exact he.elim
        | false =>
          rw [hj] at hr
          simp only [cond_false, Option.some.injEq, Prod.mk.injEq] at hr
          obtain ⟨rfl, rfl, rfl⟩ := hr
          have hj : j ≠ id := fun e => by rw [beq_iff.2 e] at hj; simp at hj
          refine ⟨hcx.1, fun μ a w rh hf f => wp_block (wp_mono (hcx.2 μ a w rh hf f) fun e a1 w1 ⟨he, hst⟩ => ?_)⟩
          cases e with
          | exit k =>
            simp only [ExR] at he
            simp only [Exit.inBlock, ← he, hj, if_false]
            exact ⟨rfl, hst⟩
          | _ => exact he.elim
  | loop b ih =>
    intro out env fr h ex fr' h' hr
    simp only [exec] at hr
    obtain ⟨hle, hs⟩ := loopN_sound (fun fr h ex fr' h' hh => ih _ _ fr h ex fr' h' hh) L fr h ex fr' h' hr
    exact ⟨hle, fun μ a w rh hf f => wp_loop_rounds L (hs μ a w rh hf f)⟩
  | _ => intro out env fr h ex fr' h' hr; simp [exec] at hr

theorem argsA_get : ∀ (args : List Value) (i t : Nat) (v : Value), (argsA i args).get t = some v → i ≤ t ∧ args[t - i]? = some v
  | [], i, t, v, h => by simp [argsA] at h
  | x :: r, i, t, v, h => by
    simp only [argsA, T.get_set] at h
    split at h
    · rename_i e; subst e; simp at h; subst h; simp
    · rename_i e
      obtain ⟨h1, h2⟩ := argsA_get r (i + 1) t v h
      refine ⟨by omega, ?_⟩
      rw [show t - i = (t - (i + 1)) + 1 by omega]; simpa using h2

theorem resA_sound {fr : T Value} {h : H} {μ : Mu} {w : World} {a : Act} (rh : RH NG μ h w) (f : FR nt μ fr a) : ∀ (rs : List ResultVar) (vs : List Value), resA P fr h rs = some vs →
    ∃ cs, (rs.mapM (m := Sem) fun | .tmp t => pure (a.tmps.getD t undef) | .cell ad t => do loadVar t (← asAddr (a.tmps.getD ad undef))).run P w = .ok cs w ∧ LR μ vs cs
  | [], vs, hr => by
    simp only [resA, Option.some.injEq] at hr; subst hr
    exact ⟨[], rfl, .nil⟩
  | .tmp t :: rs, vs, hr => by
    simp only [resA] at hr
    split at hr
    · rename_i v hv
      split at hr
      · rename_i vs' hvs
        simp only [Option.some.injEq] at hr; subst hr
        obtain ⟨cs, hrun, hl⟩ := resA_sound rh f rs vs' hvs
        exact ⟨_ :: cs, by simp only [List.mapM_cons, Sem.run_bind, Sem.run_pure, Result.andThen_ok, hrun], .cons (f.2 t v hv).2 hl⟩
      · simp at hr
    · simp at hr
  | .cell t ty :: rs, vs, hr => by
    simp only [resA] at hr
    split at hr
    · rename_i p g n hp hg hn
      split at hr
      · rename_i v hv
        split at hr
        · rename_i vs' hvs
          simp only [Option.some.injEq] at hr; subst hr
          obtain ⟨cs, hrun, hl⟩ := resA_sound rh f rs vs' hvs
          obtain ⟨cv, hld, hr'⟩ := load_sound P rh hg hn hv (f.2 t p hp).2
          have : ∃ ad, a.tmps.getD t undef = .pointer (some ad) := by
            have hpp := (f.2 t p hp).2
            have : ∃ q, p = .pointer (some q) := by
              cases g with
              | true => simp only [A.load, cond_true] at hv; unfold A.loadN at hv; split at hv
                        · exact ⟨_, rfl⟩
                        · simp at hv
              | false => simp only [A.load, cond_false] at hv; unfold A.load1 at hv; split at hv
                         · exact ⟨_, rfl⟩
                         · simp at hv
            obtain ⟨q, rfl⟩ := this
            generalize a.tmps.getD t undef = u at hpp
            cases hpp; exact ⟨_, rfl⟩
          obtain ⟨ad, had⟩ := this
          rw [had] at hld
          simp only [Instr.loadAt, Instr.sureAddr, Sem.run_bind, Sem.run_pure, Result.andThen_ok] at hld
          have ha : (asAddr (a.tmps.getD t undef)).run P w = .ok ad w := by rw [had]; rfl
          exact ⟨cv :: cs, by simp only [List.mapM_cons, Sem.run_bind, ha, Sem.run_pure, Result.andThen_ok, hld, hrun], .cons hr' hl⟩
        · simp at hr
      · simp at hr
    · simp at hr

theorem results_sound {fn : Func} {fr : T Value} {h : H} {μ : Mu} {w : World} {a : Act} (rh : RH NG μ h w) (f : FR nt μ fr a) {vs : List Value} (hr : resA P fr h fn.results.toList = some vs) :
    ∃ cv, (results fn a.tmps).run P w = .ok cv w ∧ VR μ (packA vs) cv := by
  obtain ⟨cs, hrun, hl⟩ := resA_sound rh f _ _ hr
  have e1 : (fn.results.mapM (m := Sem) fun | .tmp t => pure (a.tmps.getD t undef) | .cell ad t => do loadVar t (← asAddr (a.tmps.getD ad undef))).run P w = .ok cs.toArray w := by
    rw [Array.mapM_eq_mapM_toList]
    simp only [Sem.run_map]
    have := hrun
    rw [this]; rfl
  clear hrun hr
  match vs, cs, hl, e1 with
  | [v], [c], hl, e1 =>
    refine ⟨c, ?_, hl.2 0 v c rfl rfl⟩
    simp only [results, Sem.run_bind]
    exact (congrArg (fun q => Result.andThen q _) e1).trans rfl
  | [], [], hl, e1 =>
    refine ⟨.tuple ⟨[]⟩, ?_, .tuple [] [] rfl (by simp)⟩
    simp only [results, Sem.run_bind]
    exact (congrArg (fun q => Result.andThen q _) e1).trans rfl
  | v :: v2 :: vs, c :: c2 :: cs, hl, e1 =>
    refine ⟨.tuple ⟨c :: c2 :: cs⟩, ?_, .tuple _ _ hl.1 hl.2⟩
    simp only [results, Sem.run_bind]
    refine (congrArg (fun q => Result.andThen q _) e1).trans ?_
    simp only [Result.andThen_ok, Sem.run_pure]
    rw [dif_neg (by simp)]
  | [], _ :: _, hl, _ => exact absurd hl.1 (by simp)
  | _ :: _, [], hl, _ => exact absurd hl.1 (by simp)
  | [_], _ :: _ :: _, hl, _ => exact absurd hl.1 (by simp)
  | _ :: _ :: _, [_], hl, _ => exact absurd hl.1 (by simp)

theorem callA_sound (hzp : zerosPlain P = true) (hm : P.follows .mixedOrders = true) (hn : namesOK P = true) {lv : Bool} : ∀ (n : Nat), CallsOK P NG (callA P NG lv n) := by
  intro n
  induction n with
  | zero => intro f args h v h' hr; simp [callA] at hr
  | succ n ih =>
    intro f args h v h' hr
    simp only [callA] at hr
    split at hr
    · simp at hr
    · rename_i fn hfn
      unfold callBody at hr
      split at hr
      · simp at hr
      · rename_i c hc
        have hname : fn.name ≠ "runtime.NumGoroutine" := by
          have hmem : fn ∈ P.funcs.toList := by rw [Array.mem_toList_iff]; exact Array.mem_of_getElem? hfn
          have := List.all_eq_true.1 hn fn hmem
          simpa using this
        obtain ⟨hlen, hr⟩ := cond_some hr
        have hlen := ble_iff.1 hlen
        have main : ∀ (ex : Ex) (fr : T Value) (vs : List Value), exec P (callA P NG lv n) n NG fn.ntmps (resRegs fn) lv c (resRegs fn) [] (argsA 0 args) h = some (ex, fr, h') → (ex = .normal ∨ ex = .ret) →
            resA P fr h' fn.results.toList = some vs → v = packA vs → h.next ≤ h'.next ∧ (∃ fn c, P.funcs[f]? = some fn ∧ fn.body = some c ∧ fn.name ≠ "runtime.NumGoroutine") ∧
            ∀ μ w cargs, RH NG μ h w → Fresh μ h.next h'.next → LR μ args cargs →
            Calls P f ⟨cargs⟩ w fun e w' => ∃ cv μ', e = .returned cv ∧ Step NG μ h w μ' h' w' ∧ VR μ' v cv := by
          intro ex fr vs hex hnr hres hv
          have hcs := exec_sound hzp hm ih (nt := fn.ntmps) c _ _ _ _ _ _ _ hex
          refine ⟨hcs.1, ⟨fn, c, hfn, hc, hname⟩, fun μ w cargs rh hf hl => calls_of_wp hfn hc ?_⟩
          have hcl : cargs.length = args.length := hl.1.symm
          have f0 : FR fn.ntmps μ (argsA 0 args) { tmps := (⟨cargs⟩ : Array Value) ++ Array.replicate (fn.ntmps - (⟨cargs⟩ : Array Value).size) undef, defers := [] } := by
            refine ⟨by simp; omega, fun (t : Nat) u hu => ?_⟩
            obtain ⟨_, h2⟩ := argsA_get args 0 t u hu
            simp only [Nat.sub_zero] at h2
            have hlt : t < args.length := (List.getElem?_eq_some_iff.1 h2).1
            refine ⟨Nat.lt_of_lt_of_le hlt hlen, ?_⟩
            obtain ⟨b, hb, hr'⟩ := hl.get h2
            have hlt2 : t < cargs.length := by rw [hcl]; exact hlt
            have : ((⟨cargs⟩ : Array Value) ++ Array.replicate (fn.ntmps - (⟨cargs⟩ : Array Value).size) undef)[t]? = some b := by
              rw [Array.getElem?_append_left (by simpa using hlt2)]; simpa using hb
            simp only [Array.getD_eq_getD_getElem?, this, Option.getD_some]
            exact hr'
          refine wp_mono (hcs.2 μ _ w rh hf f0) fun e a' w' ⟨he, μ', st, f', d⟩ => ?_
          obtain ⟨cv, hrun, hvr⟩ := results_sound st.rh f' hres
          subst hv
          rcases hnr with rfl | rfl
          · cases e with
            | normal => exact ⟨d, cv, hrun, cv, μ', rfl, st, hvr⟩
            | _ => exact he.elim
          · cases e with
            | ret => exact ⟨d, cv, hrun, cv, μ', rfl, st, hvr⟩
            | _ => exact he.elim
        split at hr
        · rename_i fr h1 hex
          split at hr
          · rename_i vs hres
            simp only [Option.some.injEq, Prod.mk.injEq] at hr
            obtain ⟨rfl, rfl⟩ := hr
            exact main _ _ vs hex (.inl rfl) hres rfl
          · simp at hr
        · rename_i fr h1 hex
          split at hr
          · rename_i vs hres
            simp only [Option.some.injEq, Prod.mk.injEq] at hr
            obtain ⟨rfl, rfl⟩ := hr
            exact main _ _ vs hex (.inr rfl) hres rfl
          · simp at hr
        · simp at hr
end
end Go.AM
