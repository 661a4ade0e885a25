/-
  An abstract machine for the model: code and calls.
-/
import Derived.Test.YtkiagdpknegcbaaGreatDoorAdRound
import Derived.DefersIn
namespace Go.AM
open Go

def loopN (f : T Value → H → Option (Ex × T Value × H)) : Nat → T Value → H → Option (Ex × T Value × H)
  | 0, _, _ => none
  | n + 1, fr, h =>
    match f fr h with
    | some (.normal, fr', h') => loopN f n fr' h'
    | r => r

/-- What code does; L: how many rounds a loop has at most; lv: forget what is not read later. -/
def exec (P : Program) (C : CF) (L NG nt : Nat) (RR : List Tmp) (lv : Bool) : Code → List Tmp → List (Nat × List Tmp) → T Value → H → Option (Ex × T Value × H)
  | .skip, _, _, fr, h => some (.normal, fr, h)
  | .region _ ops draw, out, _, fr, h =>
    bif dstOK nt ops then
      bif draw then
        (bif drawOK P ops (before ops) then runD P C NG ops (before ops) 0 ops.toList fr h [] [] fun fr h => some (.normal, restrict lv out fr, h) else none)
      else runOps P C NG ops ops.toList fr h fun fr h => some (.normal, restrict lv out fr, h)
    else none
  | .seq a b, out, env, fr, h =>
    match exec P C L NG nt RR lv a (live RR b out env) env fr h with
    | some (.normal, fr', h') => exec P C L NG nt RR lv b out env fr' h'
    | r => r
  | .cond c a b, out, env, fr, h =>
    match evalA NG fr h c with
    | some (.bool t) => bif t then exec P C L NG nt RR lv a out env fr h else exec P C L NG nt RR lv b out env fr h
    | _ => none
  | .block id b, out, env, fr, h =>
    match exec P C L NG nt RR lv b out ((id, out) :: env) fr h with
    | some (.exit j, fr', h') => bif Nat.beq j id then some (.normal, fr', h') else some (.exit j, fr', h')
    | r => r
  | .loop b, _, env, fr, h => loopN (exec P C L NG nt RR lv b (live RR b [] env) env) L fr h
  | .exit id, _, _, fr, h => some (.exit id, fr, h)
  | .label _, _, _, fr, h => some (.normal, fr, h)
  | .ret, _, _, fr, h => some (.ret, fr, h)
  | .rangeFunc g ps assign body, _, _, fr, h =>
    match evalA NG fr h g with
    | some gv =>
      bif isFn P gv then
        match callV C gv [.func (.yield h.next) #[] #[]] (h.push (.loop nt fr ps.toList assign body .ready)) with
        | some (_, h2) => (match h2.get h.next with
          | some (.loop nt' fr' ps' as' bd' st) => (match leftEx st with
            | some ex => some (ex, fr, h2.put h.next (.loop nt' fr' ps' as' bd' .exhausted))
            | none => none)
          | _ => none)
        | none => none
      else none
    | none => none
  | _, _, _, _, _ => none

def resRegs (fn : Func) : List Tmp := fn.results.toList.map fun | .tmp t => t | .cell t _ => t

def resA (P : Program) (fr : T Value) (h : H) : List ResultVar → Option (List Value)
  | [] => some []
  | .tmp t :: r => match fr.get t with
    | some v => (match resA P fr h r with | some vs => some (v :: vs) | none => none)
    | none => none
  | .cell t ty :: r => match fr.get t, aggP P ty, szP P ty with
    | some p, some g, some n => (match A.load g n p h with
      | some v => (match resA P fr h r with | some vs => some (v :: vs) | none => none)
      | none => none)
    | _, _, _ => none

def packA : List Value → Value
  | [v] => v
  | vs => .tuple ⟨vs⟩

def argsA : Nat → List Value → T Value
  | _, [] => .nil
  | i, v :: r => (argsA (i + 1) r).set i (some v)

def callBody (P : Program) (C : CF) (L NG : Nat) (lv : Bool) (fn : Func) (args : List Value) (h : H) : Option (Value × H) :=
  match fn.body with
  | none => externA (extK P fn) args h
  | some c =>
    bif Nat.ble args.length fn.ntmps then
    match exec P C L NG fn.ntmps (resRegs fn) lv c (resRegs fn) [] (argsA 0 args) h with
    | some (.normal, fr, h') => (match resA P fr h' fn.results.toList with | some vs => some (packA vs, h') | none => none)
    | some (.ret, fr, h') => (match resA P fr h' fn.results.toList with | some vs => some (packA vs, h') | none => none)
    | _ => none
    else none

/-! Deferred calls: a function whose code defers calls of functions that are straight code. -/
abbrev DS := List (Nat × List Value)
def deferC (o : Oper) : Option Call :=
  match o.op, o.guard, o.dst with
  | .defer c, none, none => some c
  | _, _, _ => none
def deferV (NG : Nat) (c : Call) (fr : T Value) (h : H) : Option (Nat × List Value) :=
  match c.callee with
  | .value f => (match evalA NG fr h f, evalL (evalA NG fr h) c.args.toList with
    | some (.func (.func g) ⟨[]⟩ ⟨[]⟩), some vs => some (g, vs)
    | _, _ => none)
  | _ => none

/-- Regions one behind the other. -/
def execS (P : Program) (C : CF) (NG nt : Nat) : Code → T Value → H → Option (T Value × H)
  | .skip, fr, h => some (fr, h)
  | .region _ ops draw, fr, h => bif dstOK nt ops && !draw then runOps P C NG ops ops.toList fr h fun fr h => some (fr, h) else none
  | .seq a b, fr, h => match execS P C NG nt a fr h with
    | some (fr', h') => execS P C NG nt b fr' h'
    | none => none
  | _, _, _ => none

def execD (P : Program) (C : CF) (L NG nt : Nat) : Code → T Value → H → DS → Option (Ex × T Value × H × DS)
  | .seq a b, fr, h, ds => match execD P C L NG nt a fr h ds with
    | some (.normal, fr', h', ds') => execD P C L NG nt b fr' h' ds'
    | r => r
  | .cond c a b, fr, h, ds => match evalA NG fr h c with
    | some (.bool t) => bif t then execD P C L NG nt a fr h ds else execD P C L NG nt b fr h ds
    | _ => none
  | .region id ops draw, fr, h, ds => match (ops[ops.size - 1]?).bind deferC with
    | some c => bif dstOK nt ops && !draw then
        runOps P C NG ops (ops.toList.take (ops.size - 1)) fr h fun fr h => (deferV NG c fr h).map fun d => (.normal, fr, h, d :: ds)
      else none
    | none => (exec P C L NG nt [] false (.region id ops draw) [] [] fr h).map fun (ex, fr, h) => (ex, fr, h, ds)
  | c, fr, h, ds => (exec P C L NG nt [] false c [] [] fr h).map fun (ex, fr, h) => (ex, fr, h, ds)

def runDs (P : Program) (C : CF) (NG : Nat) : DS → H → Option H
  | [], h => some h
  | (g, vs) :: r, h => match P.funcs[g]? with
    | some fn => (match fn.body with
      | some c => bif Nat.ble vs.length fn.ntmps then
          (match execS P C NG fn.ntmps c (argsA 0 vs) h with
          | some (fr, h') => (match resA P fr h' fn.results.toList with
            | some _ => runDs P C NG r h'
            | none => none)
          | none => none)
        else none
      | none => none)
    | none => none

def exEnd : Ex → Bool
  | .normal => true
  | .ret => true
  | _ => false

def callD (P : Program) (C : CF) (L NG : Nat) (fn : Func) (args : List Value) (h : H) : Option (Value × H) :=
  match fn.body with
  | none => none
  | some c => bif Nat.ble args.length fn.ntmps then
      (match execD P C L NG fn.ntmps c (argsA 0 args) h [] with
      | some (ex, fr, h1, ds) => bif exEnd ex then
          (match runDs P C NG ds h1 with
          | some h2 => (match resA P fr h2 fn.results.toList with
            | some vs => some (packA vs, h2)
            | none => none)
          | none => none)
        else none
      | none => none)
    else none

def orD (a b : Option (Value × H)) : Option (Value × H) :=
  match a with
  | some r => some r
  | none => b

/-- A round of a loop over a function: E: what runs code. -/
def roundA (E : Nat → Code → List Tmp → T Value → H → Option (Ex × T Value × H)) (id : Nat) (args : List Value) (h : H) : Option (Value × H) :=
  match h.get id with
  | some (.loop nt fr ps assign body .ready) =>
    bif Nat.beq ps.length args.length && ps.all (fun t => Nat.blt t nt) && noRange assign && noRange body then
      match E nt assign (live [] body [] []) (setPs fr ps args) h with
      | some (.normal, fr2, h2) => (match h2.get id with
        | some (.loop nt2 f2 p2 a2 b2 .ready) => (match E nt body [] fr2 (h2.put id (.loop nt2 f2 p2 a2 b2 .busy)) with
          | some (ex, _, h4) => (match h4.get id with
            | some (.loop nt4 f4 p4 a4 b4 _) => some (.bool (endSt ex).1, h4.put id (.loop nt4 f4 p4 a4 b4 (endSt ex).2))
            | _ => none)
          | none => none)
        | _ => none)
      | _ => none
    else none
  | _ => none

def callA (P : Program) (NG : Nat) (lv : Bool) : Nat → CF
  | 0 => fun _ _ _ => none
  | n + 1 => fun f args h =>
    match P.funcs[f]? with
    | none => bif Nat.beq f 1099511627776 then yArg args fun id vs => roundA (fun nt c out fr h => exec P (callA P NG lv n) n NG nt [] lv c out [] fr h) id vs h else none
    | some fn => orD (callBody P (callA P NG lv n) n NG lv fn args h) (callD P (callA P NG lv n) n NG fn args h)

def namesOK (P : Program) : Bool := (P.funcs.toList.all fun fn => fn.name != "runtime.NumGoroutine") && Nat.ble P.funcs.size 1099511627776

theorem names_fn {P : Program} (hn : namesOK P = true) {f : Nat} {fn : Func} (hfn : P.funcs[f]? = some fn) : fn.name ≠ "runtime.NumGoroutine" ∧ f < Y0 := by
  unfold namesOK at hn
  simp only [Bool.and_eq_true] at hn
  have hmem : fn ∈ P.funcs.toList := by rw [Array.mem_toList_iff]; exact Array.mem_of_getElem? hfn
  have h1 := List.all_eq_true.1 hn.1 fn hmem
  have h2 := Nat.le_of_ble_eq_true hn.2
  have h3 := (Array.getElem?_eq_some_iff.1 hfn).1
  exact ⟨by simpa using h1, by show f < 1099511627776; omega⟩

section
variable {P : Program} {NG nt : Nat} {C : CF}

theorem loopN_sound {f : T Value → H → Option (Ex × T Value × H)} {b : Code} (hb : ∀ fr h ex fr' h', f fr h = some (ex, fr', h') → Codes P NG nt b fr h ex fr' h') :
    ∀ (n : Nat) (fr : T Value) (h : H) (ex : Ex) (fr' : T Value) (h' : H), loopN f n fr h = some (ex, fr', h') → h.next ≤ h'.next ∧
      ∀ (μ : Mu) (a : Act) (w : World), RH NG μ h w → Fresh μ h.next h'.next → FR nt μ fr a → ∀ (ro : Option Nat), (ro = none ∨ noRange b = true) →
        Code.roundsIn (Fr ro) 0 P b (fun e a' w' => ExR ex e ∧ StepTo NG nt μ h w a fr' h' a' w') n a w := by
  intro n
  induction n with
  | zero => intro fr h ex fr' h' hr; simp [loopN] at hr
  | succ n ih =>
    intro fr h ex fr' h' hr
    simp only [loopN] at hr
    cases hfh : f fr h with
    | none => rw [hfh] at hr; simp at hr
    | some p =>
      obtain ⟨ex1, fr1, h1⟩ := p
      rw [hfh] at hr
      have hc := hb _ _ _ _ _ hfh
      cases ex1 with
      | normal =>
        simp only at hr
        obtain ⟨hle, hs⟩ := ih _ _ _ _ _ hr
        refine ⟨Nat.le_trans hc.1 hle, fun μ a w rh hf f0 ro hro => ?_⟩
        rw [roundsIn_succ]
        refine wpIn_mono (hc.2 μ a w rh (fun id e1 e2 => hf id e1 (Nat.lt_of_lt_of_le e2 hle)) f0 ro hro) fun e a1 w1 ⟨he, μ1, st, f1, d1⟩ => ?_
        cases e with
        | normal =>
          have := hs μ1 a1 w1 st.rh (hf.second st) f1 ro hro
          clear hs ih
          have mono : ∀ (m : Nat) (a2 : Act) (w2 : World), Code.roundsIn (Fr ro) 0 P b (fun e a' w' => ExR ex e ∧ StepTo NG nt μ1 h1 w1 a1 fr' h' a' w') m a2 w2 →
              Code.roundsIn (Fr ro) 0 P b (fun e a' w' => ExR ex e ∧ StepTo NG nt μ h w a fr' h' a' w') m a2 w2 := by
            intro m
            induction m with
            | zero => intro a2 w2 hh; exact hh
            | succ m ihm =>
              intro a2 w2 hh
              rw [roundsIn_succ] at hh ⊢
              refine wpIn_mono hh fun e a3 w3 hh => ?_
              cases e with
              | normal => exact ihm _ _ hh
              | _ => exact ⟨hh.1, hh.2.trans st d1⟩
          exact mono n a1 w1 this
        | _ => exact he.elim
      | exit id =>
        simp only [Option.some.injEq, Prod.mk.injEq] at hr
        obtain ⟨rfl, rfl, rfl⟩ := hr
        refine ⟨hc.1, fun μ a w rh hf f0 ro hro => ?_⟩
        rw [roundsIn_succ]
        refine wpIn_mono (hc.2 μ a w rh hf f0 ro hro) fun e a1 w1 ⟨he, hst⟩ => ?_
        cases e with
        | normal => exact he.elim
        | _ => exact ⟨he, hst⟩
      | ret =>
        simp only [Option.some.injEq, Prod.mk.injEq] at hr
        obtain ⟨rfl, rfl, rfl⟩ := hr
        refine ⟨hc.1, fun μ a w rh hf f0 ro hro => ?_⟩
        rw [roundsIn_succ]
        refine wpIn_mono (hc.2 μ a w rh hf f0 ro hro) fun e a1 w1 ⟨he, hst⟩ => ?_
        cases e with
        | normal => exact he.elim
        | _ => exact ⟨he, hst⟩

theorem exec_sound (hzp : zerosPlain P = true) (hm : P.follows .mixedOrders = true) (hC : CallsOK P NG C) {L : Nat} {RR : List Tmp} {lv : Bool} :
    ∀ (c : Code) (out : List Tmp) (env : List (Nat × List Tmp)) (fr : T Value) (h : H) (ex : Ex) (fr' : T Value) (h' : H),
      exec P C L NG nt RR lv c out env fr h = some (ex, fr', h') → Codes P NG nt c fr h ex fr' h' := by
  intro c
  induction c with
  | skip =>
    intro out env fr h ex fr' h' hr
    simp only [exec, Option.some.injEq, Prod.mk.injEq] at hr
    obtain ⟨rfl, rfl, rfl⟩ := hr
    exact ⟨Nat.le_refl _, fun μ a w rh _ f ro _ => wpIn_skip ⟨trivial, μ, Step.refl rh, f, Marks.refl _ _ _⟩⟩
  | label l =>
    intro out env fr h ex fr' h' hr
    simp only [exec, Option.some.injEq, Prod.mk.injEq] at hr
    obtain ⟨rfl, rfl, rfl⟩ := hr
    exact ⟨Nat.le_refl _, fun μ a w rh _ f ro _ => wpIn_label ⟨trivial, μ, Step.refl rh, f, Marks.refl _ _ _⟩⟩
  | exit id =>
    intro out env fr h ex fr' h' hr
    simp only [exec, Option.some.injEq, Prod.mk.injEq] at hr
    obtain ⟨rfl, rfl, rfl⟩ := hr
    exact ⟨Nat.le_refl _, fun μ a w rh _ f ro _ => wpIn_exit ⟨rfl, μ, Step.refl rh, f, Marks.refl _ _ _⟩⟩
  | ret =>
    intro out env fr h ex fr' h' hr
    simp only [exec, Option.some.injEq, Prod.mk.injEq] at hr
    obtain ⟨rfl, rfl, rfl⟩ := hr
    exact ⟨Nat.le_refl _, fun μ a w rh _ f ro _ => wpIn_ret ⟨trivial, μ, Step.refl rh, f, Marks.refl _ _ _⟩⟩
  | region id ops draw =>
    intro out env fr h ex fr' h' hr
    simp only [exec] at hr
    obtain ⟨hd, hr⟩ := cond_some hr
    cases draw with
    | false =>
      simp only [cond_false] at hr
      obtain ⟨fr1, h1, hk, hle, hs⟩ := runOps_sound hzp hC hd ops.toList 0 fr h rfl hr
      simp only [Option.some.injEq, Prod.mk.injEq] at hk
      obtain ⟨rfl, rfl, rfl⟩ := hk
      refine ⟨hle, fun μ a w rh hf f ro hro => wpIn_region ?_⟩
      have := hs μ a w rh hf f ro (fun e a' w' => ExR .normal e ∧ StepTo NG nt μ h w a (restrict lv out fr1) h1 a' w') fun a' w' ⟨μ', st, f', d⟩ => ⟨trivial, μ', st, f'.restrict, by rw [d]; exact Marks.refl _ _ _⟩
      rw [Nat.sub_zero, ← List.range_eq_range'] at this
      exact this
    | true =>
      simp only [cond_true] at hr
      obtain ⟨hdr, hr⟩ := cond_some hr
      obtain ⟨fr1, h1, hk, hle, hs⟩ := runD_sound hzp hC hd hdr hr
      simp only [Option.some.injEq, Prod.mk.injEq] at hk
      obtain ⟨rfl, rfl, rfl⟩ := hk
      refine ⟨hle, fun μ a w rh hf f ro hro => wpIn_region_any hm ?_⟩
      refine hs μ a w rh hf f ro _ fun a' w' ⟨μ', st, f', d⟩ => ⟨trivial, μ', st, f'.restrict, by rw [d]; exact Marks.refl _ _ _⟩
  | seq x y ihx ihy =>
    intro out env fr h ex fr' h' hr
    simp only [exec] at hr
    cases hx : exec P C L NG nt RR lv x (live RR y out env) env fr h with
    | none => rw [hx] at hr; simp at hr
    | some p =>
      obtain ⟨ex1, fr1, h1⟩ := p
      rw [hx] at hr
      have hcx := ihx _ _ _ _ _ _ _ hx
      cases ex1 with
      | normal =>
        simp only at hr
        have hcy := ihy _ _ _ _ _ _ _ hr
        refine ⟨Nat.le_trans hcx.1 hcy.1, fun μ a w rh hf f ro hro => wpIn_seq (wpIn_mono (hcx.2 μ a w rh (fun id e1 e2 => hf id e1 (Nat.lt_of_lt_of_le e2 hcy.1)) f ro (nr_and hro).1) fun e a1 w1 ⟨he, μ1, st, f1, d1⟩ => ?_)⟩
        cases e with
        | normal => exact wpIn_mono (hcy.2 μ1 a1 w1 st.rh (hf.second st) f1 ro (nr_and hro).2) fun e a2 w2 ⟨he2, hst⟩ => ⟨he2, hst.trans st d1⟩
        | _ => exact he.elim
      | exit id =>
        simp only [Option.some.injEq, Prod.mk.injEq] at hr
        obtain ⟨rfl, rfl, rfl⟩ := hr
        refine ⟨hcx.1, fun μ a w rh hf f ro hro => wpIn_seq (wpIn_mono (hcx.2 μ a w rh hf f ro (nr_and hro).1) fun e a1 w1 ⟨he, hst⟩ => ?_)⟩
        cases e with
        | normal => exact he.elim
        | _ => exact ⟨he, hst⟩
      | ret =>
        simp only [Option.some.injEq, Prod.mk.injEq] at hr
        obtain ⟨rfl, rfl, rfl⟩ := hr
        refine ⟨hcx.1, fun μ a w rh hf f ro hro => wpIn_seq (wpIn_mono (hcx.2 μ a w rh hf f ro (nr_and hro).1) fun e a1 w1 ⟨he, hst⟩ => ?_)⟩
        cases e with
        | normal => exact he.elim
        | _ => exact ⟨he, hst⟩
  | cond c x y ihx ihy =>
    intro out env fr h ex fr' h' hr
    simp only [exec] at hr
    split at hr
    · rename_i t hc
      cases t with
      | true =>
        simp only [cond_true] at hr
        have hx := ihx _ _ _ _ _ _ _ hr
        exact ⟨hx.1, fun μ a w rh hf f ro hro => wpIn_cond_true ((f.ev rh c _ hc).bool_inv) (hx.2 μ a w rh hf f ro (nr_and hro).1)⟩
      | false =>
        simp only [cond_false] at hr
        have hy := ihy _ _ _ _ _ _ _ hr
        exact ⟨hy.1, fun μ a w rh hf f ro hro => wpIn_cond_false ((f.ev rh c _ hc).bool_inv) (hy.2 μ a w rh hf f ro (nr_and hro).2)⟩
    · simp at hr
  | block id b ih =>
    intro out env fr h ex fr' h' hr
    simp only [exec] at hr
    cases hx : exec P C L NG nt RR lv b out ((id, out) :: env) fr h with
    | none => rw [hx] at hr; simp at hr
    | some p =>
      obtain ⟨ex1, fr1, h1⟩ := p
      rw [hx] at hr
      have hcx := ih _ _ _ _ _ _ _ hx
      cases ex1 with
      | normal =>
        simp only [Option.some.injEq, Prod.mk.injEq] at hr
        obtain ⟨rfl, rfl, rfl⟩ := hr
        refine ⟨hcx.1, fun μ a w rh hf f ro hro => wpIn_block (wpIn_mono (hcx.2 μ a w rh hf f ro hro) fun e a1 w1 ⟨he, hst⟩ => ?_)⟩
        cases e with
        | normal => exact ⟨trivial, hst⟩
        | _ => exact he.elim
      | ret =>
        simp only [Option.some.injEq, Prod.mk.injEq] at hr
        obtain ⟨rfl, rfl, rfl⟩ := hr
        refine ⟨hcx.1, fun μ a w rh hf f ro hro => wpIn_block (wpIn_mono (hcx.2 μ a w rh hf f ro hro) fun e a1 w1 ⟨he, hst⟩ => ?_)⟩
        cases e with
        | ret => exact ⟨trivial, hst⟩
        | _ => exact he.elim
      | exit j =>
        simp only at hr
        cases hj : Nat.beq j id with
        | true =>
          rw [hj] at hr
          simp only [cond_true, Option.some.injEq, Prod.mk.injEq] at hr
          obtain ⟨rfl, rfl, rfl⟩ := hr
          have hj := beq_iff.1 hj
          refine ⟨hcx.1, fun μ a w rh hf f ro hro => wpIn_block (wpIn_mono (hcx.2 μ a w rh hf f ro hro) fun e a1 w1 ⟨he, hst⟩ => ?_)⟩
          cases e with
          | exit k =>
            simp only [ExR] at he
            simp only [Exit.inBlock, ← he, hj, if_true]
            exact ⟨trivial, hst⟩
          | _ => exact he.elim
        | false =>
          rw [hj] at hr
          simp only [cond_false, Option.some.injEq, Prod.mk.injEq] at hr
          obtain ⟨rfl, rfl, rfl⟩ := hr
          have hj : j ≠ id := fun e => by rw [beq_iff.2 e] at hj; simp at hj
          refine ⟨hcx.1, fun μ a w rh hf f ro hro => wpIn_block (wpIn_mono (hcx.2 μ a w rh hf f ro hro) fun e a1 w1 ⟨he, hst⟩ => ?_)⟩
          cases e with
          | exit k =>
            simp only [ExR] at he
            simp only [Exit.inBlock, ← he, hj, if_false]
            exact ⟨rfl, hst⟩
          | _ => exact he.elim
  | loop b ih =>
    intro out env fr h ex fr' h' hr
    simp only [exec] at hr
    obtain ⟨hle, hs⟩ := loopN_sound (fun fr h ex fr' h' hh => ih _ _ fr h ex fr' h' hh) L fr h ex fr' h' hr
    exact ⟨hle, fun μ a w rh hf f ro hro => wpIn_loop_rounds L (hs μ a w rh hf f ro hro)⟩
  | rangeFunc g ps assign body iha ihb =>
    intro out env fr h ex fr' h' hr
    simp only [exec] at hr
    split at hr
    · rename_i gv hgv
      obtain ⟨hfn, hr⟩ := cond_some hr
      split at hr
      · rename_i v h2 hcall
        split at hr
        · rename_i nt' f' ps' as' bd' st hst
          split at hr
          · rename_i ex' hex
            simp only [Option.some.injEq, Prod.mk.injEq] at hr
            obtain ⟨rfl, rfl, rfl⟩ := hr
            exact codes_rangeFunc hC hgv hfn hcall hst hex fun _ _ h => h
          · simp at hr
        · simp at hr
      · simp at hr
    · simp at hr
  | _ => intro out env fr h ex fr' h' hr; simp [exec] at hr

theorem argsA_get : ∀ (args : List Value) (i t : Nat) (v : Value), (argsA i args).get t = some v → i ≤ t ∧ args[t - i]? = some v
  | [], i, t, v, h => by simp [argsA] at h
  | x :: r, i, t, v, h => by
    simp only [argsA, T.get_set] at h
    split at h
    · rename_i e; subst e; simp at h; subst h; simp
    · rename_i e
      obtain ⟨h1, h2⟩ := argsA_get r (i + 1) t v h
      refine ⟨by omega, ?_⟩
      rw [show t - i = (t - (i + 1)) + 1 by omega]; simpa using h2

theorem resA_sound {fr : T Value} {h : H} {μ : Mu} {w : World} {a : Act} (rh : RH NG μ h w) (f : FR nt μ fr a) : ∀ (rs : List ResultVar) (vs : List Value), resA P fr h rs = some vs →
    ∃ cs, (rs.mapM (m := Sem) fun | .tmp t => pure (a.tmps.getD t undef) | .cell ad t => do loadVar t (← asAddr (a.tmps.getD ad undef))).run P w = .ok cs w ∧ LR μ vs cs
  | [], vs, hr => by
    simp only [resA, Option.some.injEq] at hr; subst hr
    exact ⟨[], rfl, .nil⟩
  | .tmp t :: rs, vs, hr => by
    simp only [resA] at hr
    split at hr
    · rename_i v hv
      split at hr
      · rename_i vs' hvs
        simp only [Option.some.injEq] at hr; subst hr
        obtain ⟨cs, hrun, hl⟩ := resA_sound rh f rs vs' hvs
        exact ⟨_ :: cs, by simp only [List.mapM_cons, Sem.run_bind, Sem.run_pure, Result.andThen_ok, hrun], .cons (f.2 t v hv).2 hl⟩
      · simp at hr
    · simp at hr
  | .cell t ty :: rs, vs, hr => by
    simp only [resA] at hr
    split at hr
    · rename_i p g n hp hg hn
      split at hr
      · rename_i v hv
        split at hr
        · rename_i vs' hvs
          simp only [Option.some.injEq] at hr; subst hr
          obtain ⟨cs, hrun, hl⟩ := resA_sound rh f rs vs' hvs
          obtain ⟨cv, hld, hr'⟩ := load_sound P rh hg hn hv (f.2 t p hp).2
          have : ∃ ad, a.tmps.getD t undef = .pointer (some ad) := by
            have hpp := (f.2 t p hp).2
            have : ∃ q, p = .pointer (some q) := by
              cases g with
              | true => simp only [A.load, cond_true] at hv; unfold A.loadN at hv; split at hv
                        · exact ⟨_, rfl⟩
                        · simp at hv
              | false => simp only [A.load, cond_false] at hv; unfold A.load1 at hv; split at hv
                         · exact ⟨_, rfl⟩
                         · simp at hv
            obtain ⟨q, rfl⟩ := this
            generalize a.tmps.getD t undef = u at hpp
            cases hpp; exact ⟨_, rfl⟩
          obtain ⟨ad, had⟩ := this
          rw [had] at hld
          simp only [Instr.loadAt, Instr.sureAddr, Sem.run_bind, Sem.run_pure, Result.andThen_ok] at hld
          have ha : (asAddr (a.tmps.getD t undef)).run P w = .ok ad w := by rw [had]; rfl
          exact ⟨cv :: cs, by simp only [List.mapM_cons, Sem.run_bind, ha, Sem.run_pure, Result.andThen_ok, hld, hrun], .cons hr' hl⟩
        · simp at hr
      · simp at hr
    · simp at hr

theorem results_sound {fn : Func} {fr : T Value} {h : H} {μ : Mu} {w : World} {a : Act} (rh : RH NG μ h w) (f : FR nt μ fr a) {vs : List Value} (hr : resA P fr h fn.results.toList = some vs) :
    ∃ cv, (results fn a.tmps).run P w = .ok cv w ∧ VR μ (packA vs) cv := by
  obtain ⟨cs, hrun, hl⟩ := resA_sound rh f _ _ hr
  have e1 : (fn.results.mapM (m := Sem) fun | .tmp t => pure (a.tmps.getD t undef) | .cell ad t => do loadVar t (← asAddr (a.tmps.getD ad undef))).run P w = .ok cs.toArray w := by
    rw [Array.mapM_eq_mapM_toList]
    simp only [Sem.run_map]
    have := hrun
    rw [this]; rfl
  clear hrun hr
  match vs, cs, hl, e1 with
  | [v], [c], hl, e1 =>
    refine ⟨c, ?_, hl.2 0 v c rfl rfl⟩
    simp only [results, Sem.run_bind]
    exact (congrArg (fun q => Result.andThen q _) e1).trans rfl
  | [], [], hl, e1 =>
    refine ⟨.tuple ⟨[]⟩, ?_, .tuple [] [] rfl (by simp)⟩
    simp only [results, Sem.run_bind]
    exact (congrArg (fun q => Result.andThen q _) e1).trans rfl
  | v :: v2 :: vs, c :: c2 :: cs, hl, e1 =>
    refine ⟨.tuple ⟨c :: c2 :: cs⟩, ?_, .tuple _ _ hl.1 hl.2⟩
    simp only [results, Sem.run_bind]
    refine (congrArg (fun q => Result.andThen q _) e1).trans ?_
    simp only [Result.andThen_ok, Sem.run_pure]
    rw [dif_neg (by simp)]
  | [], _ :: _, hl, _ => exact absurd hl.1 (by simp)
  | _ :: _, [], hl, _ => exact absurd hl.1 (by simp)
  | [_], _ :: _ :: _, hl, _ => exact absurd hl.1 (by simp)
  | _ :: _ :: _, [_], hl, _ => exact absurd hl.1 (by simp)

theorem yArg_some {α : Type} {args : List Value} {K : Nat → List Value → Option α} {r : α} (h : yArg args K = some r) : ∃ id vs k, args = .int k (.ofNat id) :: vs ∧ K id vs = some r := by
  unfold yArg at h
  split at h
  · exact ⟨_, _, _, rfl, h⟩
  · simp at h

theorem not_Y0 {f : Nat} (e : f = Y0) : ¬ f < Y0 := by rw [e]; exact Nat.lt_irrefl _

theorem call_sound (hn : namesOK P = true) {f : FuncId} {fn : Func} (hfn : P.funcs[f]? = some fn) {c : Code} (hc : fn.body = some c) {args : List Value} {h : H} (hlen : args.length ≤ fn.ntmps)
    {ex : Ex} {fr : T Value} {h' : H} (hcs : Codes P NG fn.ntmps c (argsA 0 args) h ex fr h') (hnr : ex = .normal ∨ ex = .ret) {vs : List Value} (hres : resA P fr h' fn.results.toList = some vs) :
    h.next ≤ h'.next ∧
    (f < Y0 → ∃ fn, P.funcs[f]? = some fn ∧ fn.name ≠ "runtime.NumGoroutine" ∧
      (((∃ c, fn.body = some c) ∧ ∀ μ w cargs, RH NG μ h w → Fresh μ h.next h'.next → LR μ args cargs → Calls P f ⟨cargs⟩ w (CallR NG μ h w (packA vs) h')) ∨
       (fn.body = none ∧ ∀ μ w cargs, RH NG μ h w → Fresh μ h.next h'.next → LR μ args cargs → ∃ cv w' μ', (callFunc f ⟨cargs⟩).run P w = .ok (.value cv) w' ∧ Step NG μ h w μ' h' w' ∧ VR μ' (packA vs) cv))) ∧
    (∀ id us, f = Y0 → args = .int .i64 (.ofNat id) :: us → ∀ μ w cargs l, RH NG μ h w → Fresh μ h.next h'.next → LR μ us cargs → μ id = some l →
      ∃ g tm a b, (Instr.yield l.blk ⟨cargs⟩).run P w = .ok (.round l.blk g tm a b) w ∧ RoundIn Fence.wide 0 P l.blk g tm a b w (CallR NG μ h w (packA vs) h')) := by
  obtain ⟨hname, hlt⟩ := names_fn hn hfn
  refine ⟨hcs.1, fun _ => ⟨fn, hfn, hname, .inl ⟨⟨c, hc⟩, fun μ w cargs rh hf hl => callsIn_Fr.1 (callsIn_of_wp_marks (F := Fr none) (n := 0) hfn hc trivial ?_)⟩⟩, fun id us e => absurd hlt (not_Y0 e)⟩
  have hcl : cargs.length = args.length := hl.1.symm
  have f0 : FR fn.ntmps μ (argsA 0 args) { tmps := (⟨cargs⟩ : Array Value) ++ Array.replicate (fn.ntmps - (⟨cargs⟩ : Array Value).size) undef, defers := [] } := by
    refine ⟨by simp; omega, fun (t : Nat) u hu => ?_⟩
    obtain ⟨_, h2⟩ := argsA_get args 0 t u hu
    simp only [Nat.sub_zero] at h2
    have hlt : t < args.length := (List.getElem?_eq_some_iff.1 h2).1
    refine ⟨Nat.lt_of_lt_of_le hlt hlen, ?_⟩
    obtain ⟨b, hb, hr'⟩ := hl.get h2
    have hlt2 : t < cargs.length := by rw [hcl]; exact hlt
    have : ((⟨cargs⟩ : Array Value) ++ Array.replicate (fn.ntmps - (⟨cargs⟩ : Array Value).size) undef)[t]? = some b := by
      rw [Array.getElem?_append_left (by simpa using hlt2)]; simpa using hb
    simp only [Array.getD_eq_getD_getElem?, this, Option.getD_some]
    exact hr'
  refine wpIn_mono (hcs.2 μ _ w rh hf f0 none (.inl rfl)) fun e a' w' ⟨he, μ', st, f', ms, ed, nd, gd⟩ => ?_
  have fin : LeavesInM (Fr none) 0 P fn a'.tmps (CallR NG μ h w (packA vs) h') a'.defers .returning w' := by
    have ed' : a'.defers = ms.map (fun r => (⟨.collected r, #[]⟩ : Deferred)) := by rw [ed]; simp
    rw [ed']
    refine leaves_marks ms w' st nd gd fun w'' st'' => ?_
    obtain ⟨cv, hrun, hvr⟩ := results_sound (w := w'') st''.rh f' hres
    exact ⟨cv, hrun, cv, μ', rfl, st'', hvr⟩
  rcases hnr with rfl | rfl
  · cases e with
    | normal => exact fin
    | _ => exact he.elim
  · cases e with
    | ret => exact fin
    | _ => exact he.elim

theorem extern_ok (hn : namesOK P = true) {f : FuncId} {fn : Func} (hfn : P.funcs[f]? = some fn) (hb : fn.body = none) {args : List Value} {h h' : H} {v : Value} (hr : externA (extK P fn) args h = some (v, h')) :
    h.next ≤ h'.next ∧
    (f < Y0 → ∃ fn, P.funcs[f]? = some fn ∧ fn.name ≠ "runtime.NumGoroutine" ∧
      (((∃ c, fn.body = some c) ∧ ∀ μ w cargs, RH NG μ h w → Fresh μ h.next h'.next → LR μ args cargs → Calls P f ⟨cargs⟩ w (CallR NG μ h w v h')) ∨
       (fn.body = none ∧ ∀ μ w cargs, RH NG μ h w → Fresh μ h.next h'.next → LR μ args cargs → ∃ cv w' μ', (callFunc f ⟨cargs⟩).run P w = .ok (.value cv) w' ∧ Step NG μ h w μ' h' w' ∧ VR μ' v cv))) ∧
    (∀ id us, f = Y0 → args = .int .i64 (.ofNat id) :: us → ∀ μ w cargs l, RH NG μ h w → Fresh μ h.next h'.next → LR μ us cargs → μ id = some l →
      ∃ g tm a b, (Instr.yield l.blk ⟨cargs⟩).run P w = .ok (.round l.blk g tm a b) w ∧ RoundIn Fence.wide 0 P l.blk g tm a b w (CallR NG μ h w v h')) := by
  obtain ⟨hname, hlt⟩ := names_fn hn hfn
  obtain ⟨hle, hs⟩ := externA_sound (NG := NG) hfn hname hb hr
  exact ⟨hle, fun _ => ⟨fn, hfn, hname, .inr ⟨hb, fun μ w cargs rh hf hl => hs μ w cargs rh hf hl⟩⟩, fun id us e => absurd hlt (not_Y0 e)⟩

theorem round_ok (hn : namesOK P = true) {f : FuncId} (hf0 : f = Y0) {E : Nat → Code → List Tmp → T Value → H → Option (Ex × T Value × H)}
    (hE : ∀ nt c out fr h ex fr' h', E nt c out fr h = some (ex, fr', h') → Codes P NG nt c fr h ex fr' h') {args : List Value} {h h' : H} {v : Value} (hr : (yArg args fun id vs => roundA E id vs h) = some (v, h')) :
    h.next ≤ h'.next ∧
    (f < Y0 → ∃ fn, P.funcs[f]? = some fn ∧ fn.name ≠ "runtime.NumGoroutine" ∧
      (((∃ c, fn.body = some c) ∧ ∀ μ w cargs, RH NG μ h w → Fresh μ h.next h'.next → LR μ args cargs → Calls P f ⟨cargs⟩ w (CallR NG μ h w v h')) ∨
       (fn.body = none ∧ ∀ μ w cargs, RH NG μ h w → Fresh μ h.next h'.next → LR μ args cargs → ∃ cv w' μ', (callFunc f ⟨cargs⟩).run P w = .ok (.value cv) w' ∧ Step NG μ h w μ' h' w' ∧ VR μ' v cv))) ∧
    (∀ id us, f = Y0 → args = .int .i64 (.ofNat id) :: us → ∀ μ w cargs l, RH NG μ h w → Fresh μ h.next h'.next → LR μ us cargs → μ id = some l →
      ∃ g tm a b, (Instr.yield l.blk ⟨cargs⟩).run P w = .ok (.round l.blk g tm a b) w ∧ RoundIn Fence.wide 0 P l.blk g tm a b w (CallR NG μ h w v h')) := by
  obtain ⟨id0, us, k0, rfl, hr2⟩ := yArg_some hr; replace hr := hr2; clear hr2
  unfold roundA at hr
  split at hr
  · rename_i nt fr ps assign body hb
    obtain ⟨hc, hr⟩ := cond_some hr
    simp only [Bool.and_eq_true, List.all_eq_true] at hc
    obtain ⟨⟨⟨h1, h2⟩, h3⟩, h4⟩ := hc
    split at hr
    · rename_i fr2 h2' he1
      split at hr
      · rename_i nt2 f2 p2 a2 b2 hb2
        split at hr
        · rename_i ex fr4 h4' he2
          split at hr
          · rename_i nt4 f4 p4 a4 b4 st4 hb4
            simp only [Option.some.injEq, Prod.mk.injEq] at hr
            obtain ⟨rfl, rfl⟩ := hr
            obtain ⟨hle, hro⟩ := round_sound hb (beq_iff.1 h1) (fun t ht => blt_iff.1 (h2 t ht)) h3 h4 (hE _ _ _ _ _ _ _ _ he1) hb2 (hE _ _ _ _ _ _ _ _ he2) hb4
            refine ⟨hle, fun hlt => absurd hlt (not_Y0 hf0), fun id us' _ e => ?_⟩
            simp only [List.cons.injEq, Value.int.injEq, Int.ofNat.injEq] at e
            obtain ⟨⟨_, rfl⟩, rfl⟩ := e
            exact hro
          · simp at hr
        · simp at hr
      · simp at hr
    · simp at hr
  · simp at hr

/-! Deferred calls. -/
inductive DR (μ : Mu) : DS → List Nat → List Deferred → Prop
  | nil : DR μ [] [] []
  | mark {ds : DS} {ms : List Nat} {l : List Deferred} (r : Nat) (d : DR μ ds ms l) : DR μ ds (r :: ms) (⟨.collected r, #[]⟩ :: l)
  | call {ds : DS} {ms : List Nat} {l : List Deferred} {g : Nat} {vs cvs : List Value} (hv : LR μ vs cvs) (d : DR μ ds ms l) : DR μ ((g, vs) :: ds) ms (⟨.fn (.func g) #[], ⟨cvs⟩⟩ :: l)

theorem DR.mono {μ μ' : Mu} (hle : μ.le μ') {ds : DS} {ms : List Nat} {l : List Deferred} (d : DR μ ds ms l) : DR μ' ds ms l := by
  induction d with
  | nil => exact .nil
  | mark r _ ih => exact .mark r ih
  | call hv _ ih => exact .call (hv.mono hle) ih

theorem DR.marks {μ : Mu} {ds : DS} {ms : List Nat} {l : List Deferred} (d : DR μ ds ms l) : ∀ (ms2 : List Nat), DR μ ds (ms2 ++ ms) (ms2.map (fun r => (⟨.collected r, #[]⟩ : Deferred)) ++ l)
  | [] => d
  | r :: ms2 => .mark r (d.marks ms2)

def DRg (μ : Mu) (n0 : Nat) (w : World) (ds : DS) (l : List Deferred) : Prop :=
  ∃ ms, DR μ ds ms l ∧ ms.Nodup ∧ ∀ r ∈ ms, n0 ≤ r ∧ w.heap[r]? = some (.deferred (some []))

theorem DRg.after {μ μ' : Mu} {h h' : H} {w w' : World} {n0 : Nat} {ds : DS} {l l' : List Deferred} (d : DRg μ n0 w ds l) (rh : RH NG μ h w) (st : Step NG μ h w μ' h' w') (hn : n0 ≤ w.heap.size) (m : Marks l l' w.heap.size w') : DRg μ' n0 w' ds l' := by
  obtain ⟨ms, hd, hnd, hg⟩ := d
  obtain ⟨ms2, rfl, n2, g2⟩ := m
  refine ⟨ms2 ++ ms, (hd.mono st.le).marks ms2, ?_, fun r hr => ?_⟩
  · rw [List.nodup_append]
    refine ⟨n2, hnd, fun x hx y hy hxy => ?_⟩
    subst hxy
    have h1 := (g2 x hx).1
    have h2 := (Array.getElem?_eq_some_iff.1 (hg x hy).2).1
    omega
  · rcases List.mem_append.1 hr with hr | hr
    · exact ⟨Nat.le_trans hn (g2 r hr).1, (g2 r hr).2⟩
    · exact ⟨(hg r hr).1, st.deferred rh (hg r hr).2⟩

/-- Operations up to some place. -/
theorem runOps_take {β : Type} (hzp : zerosPlain P = true) (hC : CallsOK P NG C) {ops : Array Oper} (hd : dstOK nt ops = true) {K : T Value → H → Option β} {r : β} {m : Nat} (hm : m ≤ ops.size) :
    ∀ (l : List Oper) (k : Nat) (fr : T Value) (h : H), k ≤ m → (ops.toList.take m).drop k = l → runOps P C NG ops l fr h K = some r →
      ∃ fr' h', K fr' h' = some r ∧ h.next ≤ h'.next ∧ ∀ (μ : Mu) (a : Act) (w : World), RH NG μ h w → Fresh μ h.next h'.next → FR nt μ fr a →
        ∀ (ro : Option Nat) (Q : Exit → Act → World → Prop), (∀ a' w', StepTo0 NG nt μ h w a fr' h' a' w' → wpOpsIn (Fr ro) 0 P ops Q (List.range' m (ops.size - m)) a' w') → wpOpsIn (Fr ro) 0 P ops Q (List.range' k (ops.size - k)) a w := by
  intro l
  induction l with
  | nil =>
    intro k fr h hkm hl hr
    refine ⟨fr, h, hr, Nat.le_refl _, fun μ a w rh _ f ro Q hQ => ?_⟩
    have hk : k = m := by
      have := congrArg List.length hl
      simp at this; omega
    subst hk
    exact hQ a w ⟨μ, Step.refl rh, f, rfl⟩
  | cons o rest ih =>
    intro k fr h hkm hl hr
    have hkm2 : k < m := by
      have := congrArg List.length hl
      simp at this; omega
    have hlt : k < ops.size := by omega
    have ho : ops[k]? = some o := by
      have : ((ops.toList.take m).drop k)[0]? = some o := by rw [hl]; rfl
      rw [List.getElem?_drop, Nat.add_zero, List.getElem?_take_of_lt hkm2] at this
      simpa using this
    have hrest : (ops.toList.take m).drop (k + 1) = rest := by
      have : ((ops.toList.take m).drop k).drop 1 = rest := by rw [hl]; rfl
      rw [List.drop_drop] at this; exact this
    have hdo := dst_lt hd ho
    have hrange : List.range' k (ops.size - k) = k :: List.range' (k + 1) (ops.size - (k + 1)) := by
      rw [show ops.size - k = (ops.size - (k + 1)) + 1 by omega, List.range'_succ]
    have run : ∀ (fr1 : T Value), (∀ μ a, FR nt μ fr a → FR nt μ fr1 a) → (∀ μ a, FR nt μ fr a → Region.wanted o (yielded ops a.tmps) = true) →
        (aop P C (evalA NG fr1 h) h o (typedK P o fun rv h' => runOps P C NG ops rest (putA fr1 o.dst rv) h' K)) = some r →
        ∃ fr' h', K fr' h' = some r ∧ h.next ≤ h'.next ∧ ∀ (μ : Mu) (a : Act) (w : World), RH NG μ h w → Fresh μ h.next h'.next → FR nt μ fr a →
        ∀ (ro : Option Nat) (Q : Exit → Act → World → Prop), (∀ a' w', StepTo0 NG nt μ h w a fr' h' a' w' → wpOpsIn (Fr ro) 0 P ops Q (List.range' m (ops.size - m)) a' w') → wpOpsIn (Fr ro) 0 P ops Q (List.range' k (ops.size - k)) a w := by
      intro fr1 hfr hw hr
      obtain ⟨rv, h1, hk, hle, hs⟩ := aop_sound hzp hC hr
      have hk := typedK_some hk
      obtain ⟨fr', h', hK, hle', hs'⟩ := ih (k + 1) _ h1 hkm2 hrest hk
      refine ⟨fr', h', hK, Nat.le_trans hle hle', fun μ a w rh hf f ro Q hQ => ?_⟩
      rw [hrange, wpOpsIn_cons]
      unfold wpOpIn
      simp only [ho, hw μ a f, if_true]
      refine hs μ a w rh (fun id h1 h2 => hf id h1 (Nat.lt_of_lt_of_le h2 hle')) ((hfr μ a f).ev rh) ro _ _ fun μ1 w1 cv hst hv => ?_
      refine hs' μ1 _ w1 hst.rh (fun id h2 h3 => ?_) (((hfr μ a f).mono hst.le).put hdo hv) ro Q fun a' w' ⟨μ2, hst2, f2, e2⟩ => hQ a' w' ⟨μ2, hst.trans hst2, f2, e2.trans (put_defers _ _ _)⟩
      rw [hst.out id h2]
      exact hf id (Nat.le_trans hle h2) h3
    have pass : ∀ (fr1 : T Value), (∀ μ a, FR nt μ fr a → FR nt μ fr1 a) → (∀ μ a, FR nt μ fr a → Region.wanted o (yielded ops a.tmps) = false) →
        runOps P C NG ops rest (putA fr1 o.dst (some undef)) h K = some r →
        ∃ fr' h', K fr' h' = some r ∧ h.next ≤ h'.next ∧ ∀ (μ : Mu) (a : Act) (w : World), RH NG μ h w → Fresh μ h.next h'.next → FR nt μ fr a →
        ∀ (ro : Option Nat) (Q : Exit → Act → World → Prop), (∀ a' w', StepTo0 NG nt μ h w a fr' h' a' w' → wpOpsIn (Fr ro) 0 P ops Q (List.range' m (ops.size - m)) a' w') → wpOpsIn (Fr ro) 0 P ops Q (List.range' k (ops.size - k)) a w := by
      intro fr1 hfr hw hr
      obtain ⟨fr', h', hK, hle', hs'⟩ := ih (k + 1) _ h hkm2 hrest hr
      refine ⟨fr', h', hK, hle', fun μ a w rh hf f ro Q hQ => ?_⟩
      rw [hrange, wpOpsIn_cons]
      unfold wpOpIn
      simp only [ho, hw μ a f, Bool.false_eq_true, if_false]
      exact ⟨fun _ _ => trivial, hs' μ _ w rh hf ((hfr μ a f).put hdo (undef_RV μ)) ro Q fun a' w' ⟨μ2, hst2, f2, e2⟩ => hQ a' w' ⟨μ2, hst2, f2, e2.trans (put_defers _ _ _)⟩⟩
    simp only [runOps] at hr
    split at hr
    · rename_i hg
      exact run fr (fun _ _ f => f) (fun _ _ _ => by simp [Region.wanted, hg]) hr
    · rename_i j want hg
      split at hr
      · simp at hr
      · rename_i d hdj
        split at hr
        · rename_i b hb
          have hy : ∀ μ a, FR nt μ fr a → Region.wanted o (yielded ops a.tmps) = (b == want) := fun μ a f => by
            simp only [Region.wanted, hg, f.yielded hdj hb]
            cases b <;> cases want <;> rfl
          cases b with
          | true =>
            simp only [cond_true] at hr
            cases want with
            | true => exact run _ (fun μ a f => f.same hb) (fun μ a f => (hy μ a f).trans rfl) hr
            | false => exact pass _ (fun μ a f => f.same hb) (fun μ a f => (hy μ a f).trans rfl) hr
          | false =>
            simp only [cond_false] at hr
            cases want with
            | true => exact pass _ (fun μ a f => f.same hb) (fun μ a f => (hy μ a f).trans rfl) hr
            | false => exact run _ (fun μ a f => f.same hb) (fun μ a f => (hy μ a f).trans rfl) hr
        · rename_i vs hb
          exact pass fr (fun _ _ f => f) (fun μ a f => by simp [Region.wanted, hg, f.yielded_none hdj hb]) hr
        · simp at hr

/-- Straight code. -/
theorem execS_sound (hzp : zerosPlain P = true) (hC : CallsOK P NG C) : ∀ (c : Code) (fr : T Value) (h : H) (fr' : T Value) (h' : H), execS P C NG nt c fr h = some (fr', h') →
    h.next ≤ h'.next ∧ ∀ (μ : Mu) (a : Act) (w : World), RH NG μ h w → Fresh μ h.next h'.next → FR nt μ fr a → c.wpIn (Fr none) 0 P (fun e a' w' => e = .normal ∧ StepTo0 NG nt μ h w a fr' h' a' w') a w := by
  intro c
  induction c with
  | skip =>
    intro fr h fr' h' hr
    simp only [execS, Option.some.injEq, Prod.mk.injEq] at hr
    obtain ⟨rfl, rfl⟩ := hr
    exact ⟨Nat.le_refl _, fun μ a w rh _ f => wpIn_skip ⟨rfl, μ, Step.refl rh, f, rfl⟩⟩
  | region id ops draw =>
    intro fr h fr' h' hr
    simp only [execS] at hr
    obtain ⟨hc, hr2⟩ := cond_some hr
    clear hr
    simp only [Bool.and_eq_true] at hc
    cases draw with
    | true => simp at hc
    | false =>
      obtain ⟨fr1, h1, hk, hle, hs⟩ := runOps_sound hzp hC hc.1 ops.toList 0 fr h rfl hr2
      simp only [Option.some.injEq, Prod.mk.injEq] at hk
      obtain ⟨rfl, rfl⟩ := hk
      refine ⟨hle, fun μ a w rh hf f => wpIn_region ?_⟩
      have := hs μ a w rh hf f none (fun e a' w' => e = .normal ∧ StepTo0 NG nt μ h w a fr1 h1 a' w') fun a' w' st => ⟨rfl, st⟩
      rw [Nat.sub_zero, ← List.range_eq_range'] at this
      exact this
  | seq x y ihx ihy =>
    intro fr h fr' h' hr
    simp only [execS] at hr
    cases hx : execS P C NG nt x fr h with
    | none => rw [hx] at hr; simp at hr
    | some p =>
      obtain ⟨fr1, h1⟩ := p
      rw [hx] at hr
      obtain ⟨hle1, hs1⟩ := ihx _ _ _ _ hx
      obtain ⟨hle2, hs2⟩ := ihy _ _ _ _ hr
      refine ⟨Nat.le_trans hle1 hle2, fun μ a w rh hf f => wpIn_seq (wpIn_mono (hs1 μ a w rh (fun id e1 e2 => hf id e1 (Nat.lt_of_lt_of_le e2 hle2)) f) fun e a1 w1 ⟨he, μ1, st, f1, d1⟩ => ?_)⟩
      subst he
      exact wpIn_mono (hs2 μ1 a1 w1 st.rh (hf.second st) f1) fun e a2 w2 ⟨he2, μ2, st2, f2, d2⟩ => ⟨he2, μ2, st.trans st2, f2, d2.trans d1⟩
  | _ => intro fr h fr' h' hr; simp [execS] at hr

def CodesD (P : Program) (NG nt : Nat) (c : Code) (fr : T Value) (h : H) (ds : DS) (ex : Ex) (fr' : T Value) (h' : H) (ds' : DS) : Prop :=
  h.next ≤ h'.next ∧ ∀ (μ : Mu) (a : Act) (w : World) (n0 : Nat), RH NG μ h w → Fresh μ h.next h'.next → FR nt μ fr a → DRg μ n0 w ds a.defers → n0 ≤ w.heap.size →
    c.wpIn (Fr none) 0 P (fun e a' w' => ExR ex e ∧ ∃ μ', Step NG μ h w μ' h' w' ∧ FR nt μ' fr' a' ∧ DRg μ' n0 w' ds' a'.defers) a w

theorem CodesD.of {c : Code} {fr : T Value} {h : H} {ex : Ex} {fr' : T Value} {h' : H} (hc : Codes P NG nt c fr h ex fr' h') (ds : DS) : CodesD P NG nt c fr h ds ex fr' h' ds :=
  ⟨hc.1, fun μ a w _ rh hf f hd hn => wpIn_mono (hc.2 μ a w rh hf f none (.inl rfl)) fun _ _ _ ⟨he, μ', st, f', m⟩ => ⟨he, μ', st, f', hd.after rh st hn m⟩⟩

theorem execD_other (hzp : zerosPlain P = true) (hm : P.follows .mixedOrders = true) (hC : CallsOK P NG C) {L : Nat} {c : Code} {fr : T Value} {h : H} {ds : DS} {ex : Ex} {fr' : T Value} {h' : H} {ds' : DS}
    (hr : ((exec P C L NG nt [] false c [] [] fr h).map fun (ex, fr, h) => (ex, fr, h, ds)) = some (ex, fr', h', ds')) : CodesD P NG nt c fr h ds ex fr' h' ds' := by
  obtain ⟨⟨ex1, fr1, h1⟩, hx, he⟩ := Option.map_eq_some_iff.1 hr
  simp only [Prod.mk.injEq] at he
  obtain ⟨rfl, rfl, rfl, rfl⟩ := he
  exact .of (exec_sound hzp hm hC c _ _ _ _ _ _ _ hx) ds

theorem deferC_some {o : Oper} {c : Call} (h : deferC o = some c) : o.op = .defer c ∧ o.guard = none ∧ o.dst = none := by
  unfold deferC at h
  split at h
  · rename_i h1 h2 h3; simp only [Option.some.injEq] at h; subst h; exact ⟨h1, h2, h3⟩
  · simp at h

theorem deferV_some {c : Call} {fr : T Value} {h : H} {d : Nat × List Value} (hd : deferV NG c fr h = some d) : ∃ f, c.callee = .value f ∧ evalA NG fr h f = some (.func (.func d.1) ⟨[]⟩ ⟨[]⟩) ∧ evalL (evalA NG fr h) c.args.toList = some d.2 := by
  unfold deferV at hd
  split at hd
  · rename_i f hf
    split at hd
    · rename_i g vs h1 h2
      simp only [Option.some.injEq] at hd
      subst hd
      exact ⟨f, hf, h1, h2⟩
    · simp at hd
  · simp at hd

theorem execD_sound (hzp : zerosPlain P = true) (hm : P.follows .mixedOrders = true) (hC : CallsOK P NG C) {L : Nat} : ∀ (c : Code) (fr : T Value) (h : H) (ds : DS) (ex : Ex) (fr' : T Value) (h' : H) (ds' : DS),
    execD P C L NG nt c fr h ds = some (ex, fr', h', ds') → CodesD P NG nt c fr h ds ex fr' h' ds' := by
  intro c
  induction c with
  | seq x y ihx ihy =>
    intro fr h ds ex fr' h' ds' hr
    simp only [execD] at hr
    cases hx : execD P C L NG nt x fr h ds with
    | none => rw [hx] at hr; simp at hr
    | some p =>
      obtain ⟨ex1, fr1, h1, ds1⟩ := p
      rw [hx] at hr
      have hcx := ihx _ _ _ _ _ _ _ hx
      cases ex1 with
      | normal =>
        simp only at hr
        have hcy := ihy _ _ _ _ _ _ _ hr
        refine ⟨Nat.le_trans hcx.1 hcy.1, fun μ a w n0 rh hf f hd hn => wpIn_seq (wpIn_mono (hcx.2 μ a w n0 rh (fun id e1 e2 => hf id e1 (Nat.lt_of_lt_of_le e2 hcy.1)) f hd hn) fun e a1 w1 ⟨he, μ1, st, f1, d1⟩ => ?_)⟩
        cases e with
        | normal => exact wpIn_mono (hcy.2 μ1 a1 w1 n0 st.rh (hf.second st) f1 d1 (Nat.le_trans hn st.size)) fun e a2 w2 ⟨he2, μ2, st2, f2, d2⟩ => ⟨he2, μ2, st.trans st2, f2, d2⟩
        | _ => exact he.elim
      | exit id =>
        simp only [Option.some.injEq, Prod.mk.injEq] at hr
        obtain ⟨rfl, rfl, rfl, rfl⟩ := hr
        refine ⟨hcx.1, fun μ a w n0 rh hf f hd hn => wpIn_seq (wpIn_mono (hcx.2 μ a w n0 rh hf f hd hn) fun e a1 w1 ⟨he, hst⟩ => ?_)⟩
        cases e with
        | normal => exact he.elim
        | _ => exact ⟨he, hst⟩
      | ret =>
        simp only [Option.some.injEq, Prod.mk.injEq] at hr
        obtain ⟨rfl, rfl, rfl, rfl⟩ := hr
        refine ⟨hcx.1, fun μ a w n0 rh hf f hd hn => wpIn_seq (wpIn_mono (hcx.2 μ a w n0 rh hf f hd hn) fun e a1 w1 ⟨he, hst⟩ => ?_)⟩
        cases e with
        | normal => exact he.elim
        | _ => exact ⟨he, hst⟩
  | cond c x y ihx ihy =>
    intro fr h ds ex fr' h' ds' hr
    simp only [execD] at hr
    split at hr
    · rename_i t hc
      cases t with
      | true =>
        simp only [cond_true] at hr
        have hx := ihx _ _ _ _ _ _ _ hr
        exact ⟨hx.1, fun μ a w n0 rh hf f hd hn => wpIn_cond_true ((f.ev rh c _ hc).bool_inv) (hx.2 μ a w n0 rh hf f hd hn)⟩
      | false =>
        simp only [cond_false] at hr
        have hy := ihy _ _ _ _ _ _ _ hr
        exact ⟨hy.1, fun μ a w n0 rh hf f hd hn => wpIn_cond_false ((f.ev rh c _ hc).bool_inv) (hy.2 μ a w n0 rh hf f hd hn)⟩
    · simp at hr
  | region id ops draw =>
    intro fr h ds ex fr' h' ds' hr
    simp only [execD] at hr
    split at hr
    · rename_i c hlast
      obtain ⟨o, ho, hoc⟩ := Option.bind_eq_some_iff.1 hlast
      obtain ⟨hop, hog, hod⟩ := deferC_some hoc
      obtain ⟨hc, hr2⟩ := cond_some hr
      clear hr
      simp only [Bool.and_eq_true] at hc
      cases draw with
      | true => simp at hc
      | false =>
        obtain ⟨fr1, h1, hk, hle, hs⟩ := runOps_take hzp hC hc.1 (m := ops.size - 1) (by omega) _ 0 fr h (Nat.zero_le _) rfl hr2
        obtain ⟨d, hdv, hk⟩ := Option.map_eq_some_iff.1 hk
        simp only [Prod.mk.injEq] at hk
        obtain ⟨rfl, rfl, rfl, rfl⟩ := hk
        obtain ⟨f0, hf0, hev, hargs⟩ := deferV_some hdv
        have hlt := (Array.getElem?_eq_some_iff.1 ho).1
        refine ⟨hle, fun μ a w n0 rh hf f hd hn => wpIn_region ?_⟩
        have := hs μ a w rh hf f none (fun e a' w' => ExR .normal e ∧ ∃ μ', Step NG μ h w μ' h1 w' ∧ FR nt μ' fr1 a' ∧ DRg μ' n0 w' (d :: ds) a'.defers) fun a' w' ⟨μ', st, f', dd⟩ => ?_
        · rw [Nat.sub_zero, ← List.range_eq_range'] at this
          exact this
        · rw [show ops.size - (ops.size - 1) = 1 by omega]
          show wpOpsIn (Fr none) 0 P ops _ [ops.size - 1] a' w'
          rw [wpOpsIn_cons]
          unfold wpOpIn
          simp only [ho]
          have hw : Region.wanted o (yielded ops a'.tmps) = true := by simp [Region.wanted, hog]
          simp only [hw, if_true]
          have hfv := f'.ev st.rh f0 _ hev
          have hl := evalL_rel (f'.ev st.rh) _ _ hargs
          obtain ⟨g, vs⟩ := d
          have e1 : a'.eval f0 = .func (.func g) #[] #[] := by
            generalize hq : a'.eval f0 = q at hfv
            cases hfv with
            | func f fs cs fs' cs' h1 h2 h3 h4 =>
              simp only [List.length_nil] at h1 h2
              rw [List.eq_nil_of_length_eq_zero h1.symm, List.eq_nil_of_length_eq_zero h2.symm]
          have hsem : (o.semAt (Fr none).round a'.eval).run P w' = .ok (.defer ⟨.fn (.func g) #[], ⟨c.args.toList.map a'.eval⟩⟩) w' := by
            show (o.semAt none a'.eval).run P w' = _
            rw [Oper.semAt_none]
            have e : execOp a'.eval o = (do pure (.defer (← resolve a'.eval c o.type))) := by unfold execOp; rw [hop]
            rw [e]
            simp only [resolve, hf0, e1, Deferred.ofValue, Sem.run_bind, Sem.run_pure, Result.andThen_ok, Array.empty_append]
            congr 4
            apply Array.ext'; simp
          refine ⟨fun _ _ => trivial, ?_⟩
          rw [hsem, Oper.uponIn_defer, hod]
          refine ⟨trivial, μ', st, ?_, ?_⟩
          · exact ⟨f'.1, f'.2⟩
          · obtain ⟨ms, hdr, hnd, hg⟩ := hd
            refine ⟨ms, ?_, hnd, fun r hr => ⟨(hg r hr).1, st.deferred rh (hg r hr).2⟩⟩
            show DR μ' ((g, vs) :: ds) ms (_ :: a'.defers)
            rw [dd]
            exact .call hl (hdr.mono st.le)
    · exact execD_other hzp hm hC hr
  | _ =>
    intro fr h ds ex fr' h' ds' hr
    exact execD_other hzp hm hC hr

theorem frame_args {fn : Func} {μ : Mu} {args cargs : List Value} (hl : LR μ args cargs) (hlen : args.length ≤ fn.ntmps) : FR fn.ntmps μ (argsA 0 args) { tmps := (⟨cargs⟩ : Array Value) ++ Array.replicate (fn.ntmps - (⟨cargs⟩ : Array Value).size) undef, defers := [] } := by
  have hcl : cargs.length = args.length := hl.1.symm
  refine ⟨by simp; omega, fun (t : Nat) u hu => ?_⟩
  obtain ⟨_, h2⟩ := argsA_get args 0 t u hu
  simp only [Nat.sub_zero] at h2
  have hlt : t < args.length := (List.getElem?_eq_some_iff.1 h2).1
  refine ⟨Nat.lt_of_lt_of_le hlt hlen, ?_⟩
  obtain ⟨b, hb, hr'⟩ := hl.get h2
  have hlt2 : t < cargs.length := by rw [hcl]; exact hlt
  have : ((⟨cargs⟩ : Array Value) ++ Array.replicate (fn.ntmps - (⟨cargs⟩ : Array Value).size) undef)[t]? = some b := by
    rw [Array.getElem?_append_left (by simpa using hlt2)]; simpa using hb
  simp only [Array.getD_eq_getD_getElem?, this, Option.getD_some]
  exact hr'

theorem runDs_cons {g : Nat} {vs : List Value} {ds : DS} {h h2 : H} (hr : runDs P C NG ((g, vs) :: ds) h = some h2) : ∃ fn c fr1 h1 us, P.funcs[g]? = some fn ∧ fn.body = some c ∧ vs.length ≤ fn.ntmps ∧ execS P C NG fn.ntmps c (argsA 0 vs) h = some (fr1, h1) ∧
    resA P fr1 h1 fn.results.toList = some us ∧ runDs P C NG ds h1 = some h2 := by
  simp only [runDs] at hr
  split at hr
  · rename_i fn hfn
    split at hr
    · rename_i c hc
      obtain ⟨hl, hr⟩ := cond_some hr
      split at hr
      · rename_i fr1 h1 hx
        split at hr
        · rename_i us hu
          exact ⟨fn, c, fr1, h1, us, hfn, hc, ble_iff.1 hl, hx, hu, hr⟩
        · simp at hr
      · simp at hr
    · simp at hr
  · simp at hr

theorem runDs_le (hzp : zerosPlain P = true) (hC : CallsOK P NG C) : ∀ (ds : DS) (h h2 : H), runDs P C NG ds h = some h2 → h.next ≤ h2.next
  | [], h, h2, hr => by simp only [runDs, Option.some.injEq] at hr; subst hr; exact Nat.le_refl _
  | (g, vs) :: ds, h, h2, hr => by
    obtain ⟨fn, c, fr1, h1, us, _, _, _, hx, _, hr⟩ := runDs_cons hr
    exact Nat.le_trans (execS_sound (nt := fn.ntmps) hzp hC c _ _ _ _ hx).1 (runDs_le hzp hC ds h1 h2 hr)

theorem leaves_D (hzp : zerosPlain P = true) (hC : CallsOK P NG C) (hn : namesOK P = true) {fn : Func} {tmps : Array Value} {R : Ending → World → Prop} {μ : Mu} {h h2 : H} {w : World} :
    ∀ (l : List Deferred) (ds : DS) (ms : List Nat) (μ1 : Mu) (h1 : H) (w1 : World), DR μ1 ds ms l → Step NG μ h w μ1 h1 w1 → ms.Nodup → (∀ r ∈ ms, w.heap.size ≤ r ∧ w1.heap[r]? = some (.deferred (some []))) →
    runDs P C NG ds h1 = some h2 → Fresh μ1 h1.next h2.next → (∀ μ2 w2, Step NG μ h w μ2 h2 w2 → μ1.le μ2 → ∃ v, (results fn tmps).run P w2 = .ok v w2 ∧ R (.returned v) w2) →
    LeavesInM (Fr none) 0 P fn tmps R l .returning w1 := by
  intro l
  induction l with
  | nil =>
    intro ds ms μ1 h1 w1 hd st hnd hms hr hf hR
    cases hd
    simp only [runDs, Option.some.injEq] at hr
    subst hr
    exact hR μ1 w1 st fun _ _ h => h
  | cons x l ih =>
    intro ds ms μ1 h1 w1 hd st hnd hms hr hf hR
    cases hd with
    | mark r hd =>
      rename_i ms
      obtain ⟨e1, e2⟩ := hms r (by simp)
      have hne : ∀ r' ∈ ms, r' ≠ r := fun r' hr' e => by subst e; exact (List.nodup_cons.1 hnd).1 hr'
      refine ⟨by simp, .inl ⟨r, _, rfl, run_takeDeferred e2, ?_⟩⟩
      exact ih ds ms μ1 h1 (setObj w1 r (.deferred none)) hd (st.shut e2 e1 _) (List.nodup_cons.1 hnd).2
        (fun r' hr' => ⟨(hms r' (by simp [hr'])).1, by rw [setObj_ne (hne r' hr')]; exact (hms r' (by simp [hr'])).2⟩) hr hf hR
    | call hv hd =>
      rename_i ds g vs cvs
      obtain ⟨gn, c, fr1, h1', us, hgn, hgc, hlen, hx, hu, hr⟩ := runDs_cons hr
      obtain ⟨hle, hs⟩ := execS_sound (nt := gn.ntmps) hzp hC c _ _ _ _ hx
      have hle2 := runDs_le hzp hC ds h1' h2 hr
      have hgname := (names_fn hn hgn).1
      refine ⟨by simp, .inr ⟨fun hh => absurd hh (by simp [Fr, Fence.wide]), .func g, #[], g, ⟨cvs⟩, rfl, ?_, fun _ _ => trivial, ?_⟩⟩
      · have : (gn.name == "runtime.NumGoroutine") = false := by simpa using hgname
        simp only [invoke, callFunc, Sem.run_bind, Sem.run_pure, Result.andThen_ok, run_program, hgn, this, Bool.false_eq_true, if_false, hgc, Option.isNone_some, Array.append_empty]
      · refine (callsDIn_of_wp (F := Fr none) (n := 0 - 1) (R := fun e w' => ∃ μ', Step NG μ1 h1 w1 μ' h1' w' ∧ ∃ v, e = .returned v) hgn hgc trivial ?_).mono ?_
        · refine wpIn_mono (hs μ1 _ w1 st.rh (fun id a b => hf id a (Nat.lt_of_lt_of_le b hle2)) (frame_args hv hlen)) fun e a' w' ⟨he, μ', st', f', d'⟩ => ?_
          subst he
          obtain ⟨cv, hrun, _⟩ := results_sound (w := w') st'.rh f' hu
          exact ⟨d', cv, hrun, μ', st', cv, rfl⟩
        · intro e u' w' ⟨hu', μ', st', v, he⟩
          subst hu' he
          show LeavesInM (Fr none) 0 P fn tmps R l .returning w'
          refine ih ds ms μ' h1' w' (hd.mono st'.le) (st.trans st') hnd (fun r hr => ⟨(hms r hr).1, st'.deferred st.rh (hms r hr).2⟩) hr (hf.second st') fun μ2 w2 s2 le2 => hR μ2 w2 s2 fun id l hl => le2 id l (st'.le id l hl)

theorem callD_sound (hzp : zerosPlain P = true) (hm : P.follows .mixedOrders = true) (hC : CallsOK P NG C) (hn : namesOK P = true) {f : FuncId} {fn : Func} (hfn : P.funcs[f]? = some fn) {L : Nat} {args : List Value} {h h' : H} {v : Value} (hr : callD P C L NG fn args h = some (v, h')) :
    h.next ≤ h'.next ∧
    (f < Y0 → ∃ fn, P.funcs[f]? = some fn ∧ fn.name ≠ "runtime.NumGoroutine" ∧
      (((∃ c, fn.body = some c) ∧ ∀ μ w cargs, RH NG μ h w → Fresh μ h.next h'.next → LR μ args cargs → Calls P f ⟨cargs⟩ w (CallR NG μ h w v h')) ∨
       (fn.body = none ∧ ∀ μ w cargs, RH NG μ h w → Fresh μ h.next h'.next → LR μ args cargs → ∃ cv w' μ', (callFunc f ⟨cargs⟩).run P w = .ok (.value cv) w' ∧ Step NG μ h w μ' h' w' ∧ VR μ' v cv))) ∧
    (∀ id us, f = Y0 → args = .int .i64 (.ofNat id) :: us → ∀ μ w cargs l, RH NG μ h w → Fresh μ h.next h'.next → LR μ us cargs → μ id = some l →
      ∃ g tm a b, (Instr.yield l.blk ⟨cargs⟩).run P w = .ok (.round l.blk g tm a b) w ∧ RoundIn Fence.wide 0 P l.blk g tm a b w (CallR NG μ h w v h')) := by
  obtain ⟨hname, hlt⟩ := names_fn hn hfn
  unfold callD at hr
  split at hr
  · simp at hr
  · rename_i c hc
    obtain ⟨hlen, hr⟩ := cond_some hr
    have hlen := ble_iff.1 hlen
    split at hr
    · rename_i ex fr h1 ds hx
      obtain ⟨hex, hr⟩ := cond_some hr
      split at hr
      · rename_i h2 hds
        split at hr
        · rename_i vs hres
          simp only [Option.some.injEq, Prod.mk.injEq] at hr
          obtain ⟨rfl, rfl⟩ := hr
          obtain ⟨hle, hs⟩ := execD_sound (nt := fn.ntmps) hzp hm hC c _ _ _ _ _ _ _ hx
          have hle2 := runDs_le hzp hC ds h1 h2 hds
          refine ⟨Nat.le_trans hle hle2, fun _ => ⟨fn, hfn, hname, .inl ⟨⟨c, hc⟩, fun μ w cargs rh hf hl => callsIn_Fr.1 (callsIn_of_wp_marks (F := Fr none) (n := 0) hfn hc trivial ?_)⟩⟩, fun id us e => absurd hlt (not_Y0 e)⟩
          refine wpIn_mono (hs μ _ w w.heap.size rh (fun id a b => hf id a (Nat.lt_of_lt_of_le b hle2)) (frame_args hl hlen) ⟨[], .nil, .nil, by simp⟩ (Nat.le_refl _)) fun e a' w' ⟨he, μ', st, f', ms, hdr, hnd, hms⟩ => ?_
          have fin : LeavesInM (Fr none) 0 P fn a'.tmps (CallR NG μ h w (packA vs) h2) a'.defers .returning w' :=
            leaves_D hzp hC hn a'.defers ds ms μ' h1 w' hdr st hnd hms hds (hf.second st) fun μ2 w2 s2 le2 => by
              obtain ⟨cv, hrun, hvr⟩ := results_sound (w := w2) s2.rh (f'.mono le2) hres
              exact ⟨cv, hrun, cv, μ2, rfl, s2, hvr⟩
          cases ex with
          | normal =>
            cases e with
            | normal => exact fin
            | _ => exact he.elim
          | ret =>
            cases e with
            | ret => exact fin
            | _ => exact he.elim
          | exit j => simp [exEnd] at hex
        · simp at hr
      · simp at hr
    · simp at hr

theorem callA_sound (hzp : zerosPlain P = true) (hm : P.follows .mixedOrders = true) (hn : namesOK P = true) {lv : Bool} : ∀ (n : Nat), CallsOK P NG (callA P NG lv n) := by
  intro n
  induction n with
  | zero => intro f args h v h' hr; simp [callA] at hr
  | succ n ih =>
    intro f args h v h' hr
    simp only [callA] at hr
    split at hr
    · obtain ⟨hf0, hr⟩ := cond_some hr
      exact round_ok hn (beq_iff.1 hf0) (fun nt c out fr h ex fr' h' he => exec_sound hzp hm ih (nt := nt) c _ _ _ _ _ _ _ he) hr
    · rename_i fn hfn
      unfold orD at hr
      split at hr
      case h_2 => exact callD_sound hzp hm ih hn hfn hr
      rename_i r hr2
      have hr := hr2.trans hr
      clear hr2
      unfold callBody at hr
      split at hr
      · rename_i hb
        exact extern_ok hn hfn hb hr
      · rename_i c hc
        obtain ⟨hlen, hr⟩ := cond_some hr
        have hlen := ble_iff.1 hlen
        split at hr
        · rename_i fr h1 hex
          split at hr
          · rename_i vs hres
            simp only [Option.some.injEq, Prod.mk.injEq] at hr
            obtain ⟨rfl, rfl⟩ := hr
            exact call_sound hn hfn hc hlen (exec_sound hzp hm ih (nt := fn.ntmps) c _ _ _ _ _ _ _ hex) (.inl rfl) hres
          · simp at hr
        · rename_i fr h1 hex
          split at hr
          · rename_i vs hres
            simp only [Option.some.injEq, Prod.mk.injEq] at hr
            obtain ⟨rfl, rfl⟩ := hr
            exact call_sound hn hfn hc hlen (exec_sound hzp hm ih (nt := fn.ntmps) c _ _ _ _ _ _ _ hex) (.inr rfl) hres
          · simp at hr
        · simp at hr
end
end Go.AM
