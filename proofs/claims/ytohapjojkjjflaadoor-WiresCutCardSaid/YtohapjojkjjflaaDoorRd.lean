import Derived.Test.YtohapjojkjjflaaDoorRc
namespace Go.AM
open Go
def loopN (f : T Value → H → Option (Ex × T Value × H)) : Nat → T Value → H → Option (Ex × T Value × H)
  | 0,_,_ => none
  | n + 1,fr,h =>
    match f fr h with
    | some (.normal,fr',h') => loopN f n fr' h'
    | r => r
def exec (P : Program) (C : CF) (L NG nt : Nat) (RR : List Tmp) (lv : Bool) : Code → List Tmp → List (Nat × List Tmp) → T Value → H → Option (Ex × T Value × H)
  | .skip,_,_,fr,h => some (.normal,fr,h)
  | .region _ ops draw,out,_,fr,h =>
    bif dstOK nt ops then
      bif draw then
        (bif drawOK P ops (before ops) then runD P C NG ops (before ops) 0 ops.toList fr h [] [] fun fr h => some (.normal,restrict lv out fr,h) else none)
      else runOps P C NG ops ops.toList fr h fun fr h => some (.normal,restrict lv out fr,h)
    else none
  | .seq a b,out,env,fr,h =>
    match exec P C L NG nt RR lv a (live RR b out env) env fr h with
    | some (.normal,fr',h') => exec P C L NG nt RR lv b out env fr' h'
    | r => r
  | .cond c a b,out,env,fr,h =>
    match evalA NG fr h c with
    | some (.bool t) => bif t then exec P C L NG nt RR lv a out env fr h else exec P C L NG nt RR lv b out env fr h
    | _ => none
  | .block id b,out,env,fr,h =>
    match exec P C L NG nt RR lv b out ((id,out) :: env) fr h with
    | some (.exit j,fr',h') => bif Nat.beq j id then some (.normal,fr',h') else some (.exit j,fr',h')
    | r => r
  | .loop b,_,env,fr,h => loopN (exec P C L NG nt RR lv b (live RR b [] env) env) L fr h
  | .exit id,_,_,fr,h => some (.exit id,fr,h)
  | .label _,_,_,fr,h => some (.normal,fr,h)
  | .ret,_,_,fr,h => some (.ret,fr,h)
  | .rangeFunc g ps assign body,_,_,fr,h =>
    match evalA NG fr h g with
    | some gv =>
      bif isFn P gv then
        match callV C gv [.func (.yield h.next) #[] #[]] (h.push (.loop nt fr ps.toList assign body .ready)) with
        | some (_,h2) => (match h2.get h.next with
          | some (.loop nt' fr' ps' as' bd' st) => (match leftEx st with
            | some ex => some (ex,fr,h2.put h.next (.loop nt' fr' ps' as' bd' .exhausted))
            | none => none)
          | _ => none)
        | none => none
      else none
    | none => none
  | _,_,_,_,_ => none
def resRegs (fn : Func) : List Tmp := fn.results.toList.map fun | .tmp t => t | .cell t _ => t
def resA (P : Program) (fr : T Value) (h : H) : List ResultVar → Option (List Value)
  | [] => some []
  | .tmp t :: r => match fr.get t with
    | some v => (match resA P fr h r with | some vs => some (v :: vs) | none => none)
    | none => none
  | .cell t ty :: r => match fr.get t,aggP P ty,szP P ty with
    | some p,some g,some n => (match A.load g n p h with
      | some v => (match resA P fr h r with | some vs => some (v :: vs) | none => none)
      | none => none)
    | _,_,_ => none
def packA : List Value → Value
  | [v] => v
  | vs => .tuple ⟨vs⟩
def argsA : Nat → List Value → T Value
  | _,[] => .nil
  | i,v :: r => (argsA (i + 1) r).set i (some v)
def callBody (P : Program) (C : CF) (L NG : Nat) (lv : Bool) (fn : Func) (args : List Value) (h : H) : Option (Value × H) :=
  match fn.body with
  | none => externA (extK fn) args h
  | some c =>
    bif Nat.ble args.length fn.ntmps then
    match exec P C L NG fn.ntmps (resRegs fn) lv c (resRegs fn) [] (argsA 0 args) h with
    | some (.normal,fr,h') => (match resA P fr h' fn.results.toList with | some vs => some (packA vs,h') | none => none)
    | some (.ret,fr,h') => (match resA P fr h' fn.results.toList with | some vs => some (packA vs,h') | none => none)
    | _ => none
    else none
def roundA (E : Nat → Code → List Tmp → T Value → H → Option (Ex × T Value × H)) (id : Nat) (args : List Value) (h : H) : Option (Value × H) :=
  match h.get id with
  | some (.loop nt fr ps assign body .ready) =>
    bif Nat.beq ps.length args.length && ps.all (fun t => Nat.blt t nt) && noRange assign && noRange body then
      match E nt assign (live [] body [] []) (setPs fr ps args) h with
      | some (.normal,fr2,h2) => (match h2.get id with
        | some (.loop nt2 f2 p2 a2 b2 .ready) => (match E nt body [] fr2 (h2.put id (.loop nt2 f2 p2 a2 b2 .busy)) with
          | some (ex,_,h4) => (match h4.get id with
            | some (.loop nt4 f4 p4 a4 b4 _) => some (.bool (endSt ex).1,h4.put id (.loop nt4 f4 p4 a4 b4 (endSt ex).2))
            | _ => none)
          | none => none)
        | _ => none)
      | _ => none
    else none
  | _ => none
def callA (P : Program) (NG : Nat) (lv : Bool) : Nat → CF
  | 0 => fun _ _ _ => none
  | n + 1 => fun f args h =>
    match P.funcs[f]? with
    | none => bif Nat.beq f 1099511627776 then yArg args fun id vs => roundA (fun nt c out fr h => exec P (callA P NG lv n) n NG nt [] lv c out [] fr h) id vs h else none
    | some fn => callBody P (callA P NG lv n) n NG lv fn args h
def namesOK (P : Program) : Bool := (P.funcs.toList.all fun fn => fn.name != "runtime.NumGoroutine") && Nat.ble P.funcs.size 1099511627776
theorem names_fn {P : Program} (hn : namesOK P = true) {f : Nat} {fn : Func} (hfn : P.funcs[f]? = some fn) : fn.name ≠ "runtime.NumGoroutine" ∧ f < Y0 := by
  unfold namesOK at hn
  simp only [Bool.and_eq_true] at hn
  have hmem : fn ∈ P.funcs.toList := by rw [Array.mem_toList_iff]; exact Array.mem_of_getElem? hfn
  have h1 := List.all_eq_true.1 hn.1 fn hmem
  have h2 := Nat.le_of_ble_eq_true hn.2
  have h3 := (Array.getElem?_eq_some_iff.1 hfn).1
  exact ⟨by simpa using h1,by show f < 1099511627776; omega⟩
section
variable {P : Program} {NG nt : Nat} {C : CF}
theorem loopN_sound {f : T Value → H → Option (Ex × T Value × H)} {b : Code} (hb : ∀ fr h ex fr' h',f fr h = some (ex,fr',h') → Codes P NG nt b fr h ex fr' h') :
    ∀ (n : Nat) (fr : T Value) (h : H) (ex : Ex) (fr' : T Value) (h' : H),loopN f n fr h = some (ex,fr',h') → h.next ≤ h'.next ∧
      ∀ (μ : Mu) (a : Act) (w : World),RH NG μ h w → Fresh μ h.next h'.next → FR nt μ fr a → ∀ (ro : Option Nat),(ro = none ∨ noRange b = true) →
        Code.roundsIn (Fr ro) 0 P b (fun e a' w' => ExR ex e ∧ StepTo NG nt μ h w a fr' h' a' w') n a w := by
  intro n
  induction n with
  | zero => intro fr h ex fr' h' hr; simp [loopN] at hr
  | succ n ih =>
    intro fr h ex fr' h' hr
    simp only [loopN] at hr
    cases hfh : f fr h with
    | none => rw [hfh] at hr; simp at hr
    | some p =>
      obtain ⟨ex1,fr1,h1⟩ := p
      rw [hfh] at hr
      have hc := hb _ _ _ _ _ hfh
      cases ex1 with
      | normal =>
        simp only at hr
        obtain ⟨hle,hs⟩ := ih _ _ _ _ _ hr
        refine ⟨Nat.le_trans hc.1 hle,fun μ a w rh hf f0 ro hro => ?_⟩
        rw [roundsIn_succ]
        refine wpIn_mono (hc.2 μ a w rh (fun id e1 e2 => hf id e1 (Nat.lt_of_lt_of_le e2 hle)) f0 ro hro) fun e a1 w1 ⟨he,μ1,st,f1,d1⟩ => ?_
        cases e with
        | normal =>
          have := hs μ1 a1 w1 st.rh (hf.second st) f1 ro hro
          clear hs ih
          have mono : ∀ (m : Nat) (a2 : Act) (w2 : World),Code.roundsIn (Fr ro) 0 P b (fun e a' w' => ExR ex e ∧ StepTo NG nt μ1 h1 w1 a1 fr' h' a' w') m a2 w2 →
              Code.roundsIn (Fr ro) 0 P b (fun e a' w' => ExR ex e ∧ StepTo NG nt μ h w a fr' h' a' w') m a2 w2 := by
            intro m
            induction m with
            | zero => intro a2 w2 hh; exact hh
            | succ m ihm =>
              intro a2 w2 hh
              rw [roundsIn_succ] at hh ⊢
              refine wpIn_mono hh fun e a3 w3 hh => ?_
              cases e with
              | normal => exact ihm _ _ hh
              | _ => exact ⟨hh.1,hh.2.trans st d1⟩
          exact mono n a1 w1 this
        | _ => exact he.elim
      | exit id =>
        simp only [Option.some.injEq,Prod.mk.injEq] at hr
        obtain ⟨rfl,rfl,rfl⟩ := hr
        refine ⟨hc.1,fun μ a w rh hf f0 ro hro => ?_⟩
        rw [roundsIn_succ]
        refine wpIn_mono (hc.2 μ a w rh hf f0 ro hro) fun e a1 w1 ⟨he,hst⟩ => ?_
        cases e with
        | normal => exact he.elim
        | _ => exact ⟨he,hst⟩
      | ret =>
        simp only [Option.some.injEq,Prod.mk.injEq] at hr
        obtain ⟨rfl,rfl,rfl⟩ := hr
        refine ⟨hc.1,fun μ a w rh hf f0 ro hro => ?_⟩
        rw [roundsIn_succ]
        refine wpIn_mono (hc.2 μ a w rh hf f0 ro hro) fun e a1 w1 ⟨he,hst⟩ => ?_
        cases e with
        | normal => exact he.elim
        | _ => exact ⟨he,hst⟩
theorem exec_sound (hzp : zerosPlain P = true) (hm : P.follows .mixedOrders = true) (hC : CallsOK P NG C) {L : Nat} {RR : List Tmp} {lv : Bool} :
    ∀ (c : Code) (out : List Tmp) (env : List (Nat × List Tmp)) (fr : T Value) (h : H) (ex : Ex) (fr' : T Value) (h' : H),
      exec P C L NG nt RR lv c out env fr h = some (ex,fr',h') → Codes P NG nt c fr h ex fr' h' := by
  intro c
  induction c with
  | skip =>
    intro out env fr h ex fr' h' hr
    simp only [exec,Option.some.injEq,Prod.mk.injEq] at hr
    obtain ⟨rfl,rfl,rfl⟩ := hr
    exact ⟨Nat.le_refl _,fun μ a w rh _ f ro _ => wpIn_skip ⟨trivial,μ,Step.refl rh,f,Marks.refl _ _ _⟩⟩
  | label l =>
    intro out env fr h ex fr' h' hr
    simp only [exec,Option.some.injEq,Prod.mk.injEq] at hr
    obtain ⟨rfl,rfl,rfl⟩ := hr
    exact ⟨Nat.le_refl _,fun μ a w rh _ f ro _ => wpIn_label ⟨trivial,μ,Step.refl rh,f,Marks.refl _ _ _⟩⟩
  | exit id =>
    intro out env fr h ex fr' h' hr
    simp only [exec,Option.some.injEq,Prod.mk.injEq] at hr
    obtain ⟨rfl,rfl,rfl⟩ := hr
    exact ⟨Nat.le_refl _,fun μ a w rh _ f ro _ => wpIn_exit ⟨rfl,μ,Step.refl rh,f,Marks.refl _ _ _⟩⟩
  | ret =>
    intro out env fr h ex fr' h' hr
    simp only [exec,Option.some.injEq,Prod.mk.injEq] at hr
    obtain ⟨rfl,rfl,rfl⟩ := hr
    exact ⟨Nat.le_refl _,fun μ a w rh _ f ro _ => wpIn_ret ⟨trivial,μ,Step.refl rh,f,Marks.refl _ _ _⟩⟩
  | region id ops draw =>
    intro out env fr h ex fr' h' hr
    simp only [exec] at hr
    obtain ⟨hd,hr⟩ := cond_some hr
    cases draw with
    | false =>
      simp only [cond_false] at hr
      obtain ⟨fr1,h1,hk,hle,hs⟩ := runOps_sound hzp hC hd ops.toList 0 fr h rfl hr
      simp only [Option.some.injEq,Prod.mk.injEq] at hk
      obtain ⟨rfl,rfl,rfl⟩ := hk
      refine ⟨hle,fun μ a w rh hf f ro hro => wpIn_region ?_⟩
      have := hs μ a w rh hf f ro (fun e a' w' => ExR .normal e ∧ StepTo NG nt μ h w a (restrict lv out fr1) h1 a' w') fun a' w' ⟨μ',st,f',d⟩ => ⟨trivial,μ',st,f'.restrict,by rw [d]; exact Marks.refl _ _ _⟩
      rw [Nat.sub_zero,← List.range_eq_range'] at this
      exact this
    | true =>
      simp only [cond_true] at hr
      obtain ⟨hdr,hr⟩ := cond_some hr
      obtain ⟨fr1,h1,hk,hle,hs⟩ := runD_sound hzp hC hd hdr hr
      simp only [Option.some.injEq,Prod.mk.injEq] at hk
      obtain ⟨rfl,rfl,rfl⟩ := hk
      refine ⟨hle,fun μ a w rh hf f ro hro => wpIn_region_any hm ?_⟩
      refine hs μ a w rh hf f ro _ fun a' w' ⟨μ',st,f',d⟩ => ⟨trivial,μ',st,f'.restrict,by rw [d]; exact Marks.refl _ _ _⟩
  | seq x y ihx ihy =>
    intro out env fr h ex fr' h' hr
    simp only [exec] at hr
    cases hx : exec P C L NG nt RR lv x (live RR y out env) env fr h with
    | none => rw [hx] at hr; simp at hr
    | some p =>
      obtain ⟨ex1,fr1,h1⟩ := p
      rw [hx] at hr
      have hcx := ihx _ _ _ _ _ _ _ hx
      cases ex1 with
      | normal =>
        simp only at hr
        have hcy := ihy _ _ _ _ _ _ _ hr
        refine ⟨Nat.le_trans hcx.1 hcy.1,fun μ a w rh hf f ro hro => wpIn_seq (wpIn_mono (hcx.2 μ a w rh (fun id e1 e2 => hf id e1 (Nat.lt_of_lt_of_le e2 hcy.1)) f ro (nr_and hro).1) fun e a1 w1 ⟨he,μ1,st,f1,d1⟩ => ?_)⟩
        cases e with
        | normal => exact wpIn_mono (hcy.2 μ1 a1 w1 st.rh (hf.second st) f1 ro (nr_and hro).2) fun e a2 w2 ⟨he2,hst⟩ => ⟨he2,hst.trans st d1⟩
        | _ => exact he.elim
      | exit id =>
        simp only [Option.some.injEq,Prod.mk.injEq] at hr
        obtain ⟨rfl,rfl,rfl⟩ := hr
        refine ⟨hcx.1,fun μ a w rh hf f ro hro => wpIn_seq (wpIn_mono (hcx.2 μ a w rh hf f ro (nr_and hro).1) fun e a1 w1 ⟨he,hst⟩ => ?_)⟩
        cases e with
        | normal => exact he.elim
        | _ => exact ⟨he,hst⟩
      | ret =>
        simp only [Option.some.injEq,Prod.mk.injEq] at hr
        obtain ⟨rfl,rfl,rfl⟩ := hr
        refine ⟨hcx.1,fun μ a w rh hf f ro hro => wpIn_seq (wpIn_mono (hcx.2 μ a w rh hf f ro (nr_and hro).1) fun e a1 w1 ⟨he,hst⟩ => ?_)⟩
        cases e with
        | normal => exact he.elim
        | _ => exact ⟨he,hst⟩
  | cond c x y ihx ihy =>
    intro out env fr h ex fr' h' hr
    simp only [exec] at hr
    split at hr
    · rename_i t hc
      cases t with
      | true =>
        simp only [cond_true] at hr
        have hx := ihx _ _ _ _ _ _ _ hr
        exact ⟨hx.1,fun μ a w rh hf f ro hro => wpIn_cond_true ((f.ev rh c _ hc).bool_inv) (hx.2 μ a w rh hf f ro (nr_and hro).1)⟩
      | false =>
        simp only [cond_false] at hr
        have hy := ihy _ _ _ _ _ _ _ hr
        exact ⟨hy.1,fun μ a w rh hf f ro hro => wpIn_cond_false ((f.ev rh c _ hc).bool_inv) (hy.2 μ a w rh hf f ro (nr_and hro).2)⟩
    · simp at hr
  | block id b ih =>
    intro out env fr h ex fr' h' hr
    simp only [exec] at hr
    cases hx : exec P C L NG nt RR lv b out ((id,out) :: env) fr h with
    | none => rw [hx] at hr; simp at hr
    | some p =>
      obtain ⟨ex1,fr1,h1⟩ := p
      rw [hx] at hr
      have hcx := ih _ _ _ _ _ _ _ hx
      cases ex1 with
      | normal =>
        simp only [Option.some.injEq,Prod.mk.injEq] at hr
        obtain ⟨rfl,rfl,rfl⟩ := hr
        refine ⟨hcx.1,fun μ a w rh hf f ro hro => wpIn_block (wpIn_mono (hcx.2 μ a w rh hf f ro hro) fun e a1 w1 ⟨he,hst⟩ => ?_)⟩
        cases e with
        | normal => exact ⟨trivial,hst⟩
        | _ => exact he.elim
      | ret =>
        simp only [Option.some.injEq,Prod.mk.injEq] at hr
        obtain ⟨rfl,rfl,rfl⟩ := hr
        refine ⟨hcx.1,fun μ a w rh hf f ro hro => wpIn_block (wpIn_mono (hcx.2 μ a w rh hf f ro hro) fun e a1 w1 ⟨he,hst⟩ => ?_)⟩
        cases e with
        | ret => exact ⟨trivial,hst⟩
        | _ => exact he.elim
      | exit j =>
        simp only at hr
        cases hj : Nat.beq j id with
        | true =>
          rw [hj] at hr
          simp only [cond_true,Option.some.injEq,Prod.mk.injEq] at hr
          obtain ⟨rfl,rfl,rfl⟩ := hr
          have hj := beq_iff.1 hj
          refine ⟨hcx.1,fun μ a w rh hf f ro hro => wpIn_block (wpIn_mono (hcx.2 μ a w rh hf f ro hro) fun e a1 w1 ⟨he,hst⟩ => ?_)⟩
          cases e with
          | exit k =>
            simp only [ExR] at he
            simp only [Exit.inBlock,← he,hj,if_true]
            exact ⟨trivial,hst⟩
          | _ => exact he.elim
        | false =>
          rw [hj] at hr
          simp only [cond_false,Option.some.injEq,Prod.mk.injEq] at hr
          obtain ⟨rfl,rfl,rfl⟩ := hr
          have hj : j ≠ id := fun e => by rw [beq_iff.2 e] at hj; simp at hj
          refine ⟨hcx.1,fun μ a w rh hf f ro hro => wpIn_block (wpIn_mono (hcx.2 μ a w rh hf f ro hro) fun e a1 w1 ⟨he,hst⟩ => ?_)⟩
          cases e with
          | exit k =>
            simp only [ExR] at he
            simp only [Exit.inBlock,← he,hj,if_false]
            exact ⟨rfl,hst⟩
          | _ => exact he.elim
  | loop b ih =>
    intro out env fr h ex fr' h' hr
    simp only [exec] at hr
    obtain ⟨hle,hs⟩ := loopN_sound (fun fr h ex fr' h' hh => ih _ _ fr h ex fr' h' hh) L fr h ex fr' h' hr
    exact ⟨hle,fun μ a w rh hf f ro hro => wpIn_loop_rounds L (hs μ a w rh hf f ro hro)⟩
  | rangeFunc g ps assign body iha ihb =>
    intro out env fr h ex fr' h' hr
    simp only [exec] at hr
    split at hr
    · rename_i gv hgv
      obtain ⟨hfn,hr⟩ := cond_some hr
      split at hr
      · rename_i v h2 hcall
        split at hr
        · rename_i nt' f' ps' as' bd' st hst
          split at hr
          · rename_i ex' hex
            simp only [Option.some.injEq,Prod.mk.injEq] at hr
            obtain ⟨rfl,rfl,rfl⟩ := hr
            exact codes_rangeFunc hC hgv hfn hcall hst hex fun _ _ h => h
          · simp at hr
        · simp at hr
      · simp at hr
    · simp at hr
  | _ => intro out env fr h ex fr' h' hr; simp [exec] at hr
theorem argsA_get : ∀ (args : List Value) (i t : Nat) (v : Value),(argsA i args).get t = some v → i ≤ t ∧ args[t - i]? = some v
  | [],i,t,v,h => by simp [argsA] at h
  | x :: r,i,t,v,h => by
    simp only [argsA,T.get_set] at h
    split at h
    · rename_i e; subst e; simp at h; subst h; simp
    · rename_i e
      obtain ⟨h1,h2⟩ := argsA_get r (i + 1) t v h
      refine ⟨by omega,?_⟩
      rw [show t - i = (t - (i + 1)) + 1 by omega]; simpa using h2
theorem resA_sound {fr : T Value} {h : H} {μ : Mu} {w : World} {a : Act} (rh : RH NG μ h w) (f : FR nt μ fr a) : ∀ (rs : List ResultVar) (vs : List Value),resA P fr h rs = some vs →
    ∃ cs,(rs.mapM (m := Sem) fun | .tmp t => pure (a.tmps.getD t undef) | .cell ad t => do loadVar t (← asAddr (a.tmps.getD ad undef))).run P w = .ok cs w ∧ LR μ vs cs
  | [],vs,hr => by
    simp only [resA,Option.some.injEq] at hr; subst hr
    exact ⟨[],rfl,.nil⟩
  | .tmp t :: rs,vs,hr => by
    simp only [resA] at hr
    split at hr
    · rename_i v hv
      split at hr
      · rename_i vs' hvs
        simp only [Option.some.injEq] at hr; subst hr
        obtain ⟨cs,hrun,hl⟩ := resA_sound rh f rs vs' hvs
        exact ⟨_ :: cs,by simp only [List.mapM_cons,Sem.run_bind,Sem.run_pure,Result.andThen_ok,hrun],.cons (f.2 t v hv).2 hl⟩
      · simp at hr
    · simp at hr
  | .cell t ty :: rs,vs,hr => by
    simp only [resA] at hr
    split at hr
    · rename_i p g n hp hg hn
      split at hr
      · rename_i v hv
        split at hr
        · rename_i vs' hvs
          simp only [Option.some.injEq] at hr; subst hr
          obtain ⟨cs,hrun,hl⟩ := resA_sound rh f rs vs' hvs
          obtain ⟨cv,hld,hr'⟩ := load_sound P rh hg hn hv (f.2 t p hp).2
          have : ∃ ad,a.tmps.getD t undef = .pointer (some ad) := by
            have hpp := (f.2 t p hp).2
            have : ∃ q,p = .pointer (some q) := by
              cases g with
              | true => simp only [A.load,cond_true] at hv; unfold A.loadN at hv; split at hv
                        · exact ⟨_,rfl⟩
                        · simp at hv
              | false => simp only [A.load,cond_false] at hv; unfold A.load1 at hv; split at hv
                         · exact ⟨_,rfl⟩
                         · simp at hv
            obtain ⟨q,rfl⟩ := this
            generalize a.tmps.getD t undef = u at hpp
            cases hpp; exact ⟨_,rfl⟩
          obtain ⟨ad,had⟩ := this
          rw [had] at hld
          simp only [Instr.loadAt,Instr.sureAddr,Sem.run_bind,Sem.run_pure,Result.andThen_ok] at hld
          have ha : (asAddr (a.tmps.getD t undef)).run P w = .ok ad w := by rw [had]; rfl
          exact ⟨cv :: cs,by simp only [List.mapM_cons,Sem.run_bind,ha,Sem.run_pure,Result.andThen_ok,hld,hrun],.cons hr' hl⟩
        · simp at hr
      · simp at hr
    · simp at hr
theorem results_sound {fn : Func} {fr : T Value} {h : H} {μ : Mu} {w : World} {a : Act} (rh : RH NG μ h w) (f : FR nt μ fr a) {vs : List Value} (hr : resA P fr h fn.results.toList = some vs) :
    ∃ cv,(results fn a.tmps).run P w = .ok cv w ∧ VR μ (packA vs) cv := by
  obtain ⟨cs,hrun,hl⟩ := resA_sound rh f _ _ hr
  have e1 : (fn.results.mapM (m := Sem) fun | .tmp t => pure (a.tmps.getD t undef) | .cell ad t => do loadVar t (← asAddr (a.tmps.getD ad undef))).run P w = .ok cs.toArray w := by
    rw [Array.mapM_eq_mapM_toList]
    simp only [Sem.run_map]
    have := hrun
    rw [this]; rfl
  clear hrun hr
  match vs,cs,hl,e1 with
  | [v],[c],hl,e1 =>
    refine ⟨c,?_,hl.2 0 v c rfl rfl⟩
    simp only [results,Sem.run_bind]
    exact (congrArg (fun q => Result.andThen q _) e1).trans rfl
  | [],[],hl,e1 =>
    refine ⟨.tuple ⟨[]⟩,?_,.tuple [] [] rfl (by simp)⟩
    simp only [results,Sem.run_bind]
    exact (congrArg (fun q => Result.andThen q _) e1).trans rfl
  | v :: v2 :: vs,c :: c2 :: cs,hl,e1 =>
    refine ⟨.tuple ⟨c :: c2 :: cs⟩,?_,.tuple _ _ hl.1 hl.2⟩
    simp only [results,Sem.run_bind]
    refine (congrArg (fun q => Result.andThen q _) e1).trans ?_
    simp only [Result.andThen_ok,Sem.run_pure]
    rw [dif_neg (by simp)]
  | [],_ :: _,hl,_ => exact absurd hl.1 (by simp)
  | _ :: _,[],hl,_ => exact absurd hl.1 (by simp)
  | [_],_ :: _ :: _,hl,_ => exact absurd hl.1 (by simp)
  | _ :: _ :: _,[_],hl,_ => exact absurd hl.1 (by simp)
theorem yArg_some {α : Type} {args : List Value} {K : Nat → List Value → Option α} {r : α} (h : yArg args K = some r) : ∃ id vs k,args = .int k (.ofNat id) :: vs ∧ K id vs = some r := by
  unfold yArg at h
  split at h
  · exact ⟨_,_,_,rfl,h⟩
  · simp at h
theorem not_Y0 {f : Nat} (e : f = Y0) : ¬ f < Y0 := by rw [e]; exact Nat.lt_irrefl _
theorem call_sound (hn : namesOK P = true) {f : FuncId} {fn : Func} (hfn : P.funcs[f]? = some fn) {c : Code} (hc : fn.body = some c) {args : List Value} {h : H} (hlen : args.length ≤ fn.ntmps)
    {ex : Ex} {fr : T Value} {h' : H} (hcs : Codes P NG fn.ntmps c (argsA 0 args) h ex fr h') (hnr : ex = .normal ∨ ex = .ret) {vs : List Value} (hres : resA P fr h' fn.results.toList = some vs) :
    h.next ≤ h'.next ∧
    (f < Y0 → ∃ fn,P.funcs[f]? = some fn ∧ fn.name ≠ "runtime.NumGoroutine" ∧
      (((∃ c,fn.body = some c) ∧ ∀ μ w cargs,RH NG μ h w → Fresh μ h.next h'.next → LR μ args cargs → Calls P f ⟨cargs⟩ w (CallR NG μ h w (packA vs) h')) ∨
       (fn.body = none ∧ ∀ μ w cargs,RH NG μ h w → Fresh μ h.next h'.next → LR μ args cargs → ∃ cv w' μ',(callFunc f ⟨cargs⟩).run P w = .ok (.value cv) w' ∧ Step NG μ h w μ' h' w' ∧ VR μ' (packA vs) cv))) ∧
    (∀ id us,f = Y0 → args = .int .i64 (.ofNat id) :: us → ∀ μ w cargs l,RH NG μ h w → Fresh μ h.next h'.next → LR μ us cargs → μ id = some l →
      ∃ g tm a b,(Instr.yield l.blk ⟨cargs⟩).run P w = .ok (.round l.blk g tm a b) w ∧ RoundIn Fence.wide 0 P l.blk g tm a b w (CallR NG μ h w (packA vs) h')) := by
  obtain ⟨hname,hlt⟩ := names_fn hn hfn
  refine ⟨hcs.1,fun _ => ⟨fn,hfn,hname,.inl ⟨⟨c,hc⟩,fun μ w cargs rh hf hl => callsIn_Fr.1 (callsIn_of_wp_marks (F := Fr none) (n := 0) hfn hc trivial ?_)⟩⟩,fun id us e => absurd hlt (not_Y0 e)⟩
  have hcl : cargs.length = args.length := hl.1.symm
  have f0 : FR fn.ntmps μ (argsA 0 args) { tmps := (⟨cargs⟩ : Array Value) ++ Array.replicate (fn.ntmps - (⟨cargs⟩ : Array Value).size) undef,defers := [] } := by
    refine ⟨by simp; omega,fun (t : Nat) u hu => ?_⟩
    obtain ⟨_,h2⟩ := argsA_get args 0 t u hu
    simp only [Nat.sub_zero] at h2
    have hlt : t < args.length := (List.getElem?_eq_some_iff.1 h2).1
    refine ⟨Nat.lt_of_lt_of_le hlt hlen,?_⟩
    obtain ⟨b,hb,hr'⟩ := hl.get h2
    have hlt2 : t < cargs.length := by rw [hcl]; exact hlt
    have : ((⟨cargs⟩ : Array Value) ++ Array.replicate (fn.ntmps - (⟨cargs⟩ : Array Value).size) undef)[t]? = some b := by
      rw [Array.getElem?_append_left (by simpa using hlt2)]; simpa using hb
    simp only [Array.getD_eq_getD_getElem?,this,Option.getD_some]
    exact hr'
  refine wpIn_mono (hcs.2 μ _ w rh hf f0 none (.inl rfl)) fun e a' w' ⟨he,μ',st,f',ms,ed,nd,gd⟩ => ?_
  have fin : LeavesInM (Fr none) 0 P fn a'.tmps (CallR NG μ h w (packA vs) h') a'.defers .returning w' := by
    have ed' : a'.defers = ms.map (fun r => (⟨.collected r,#[]⟩ : Deferred)) := by rw [ed]; simp
    rw [ed']
    refine leaves_marks ms w' st nd gd fun w'' st'' => ?_
    obtain ⟨cv,hrun,hvr⟩ := results_sound (w := w'') st''.rh f' hres
    exact ⟨cv,hrun,cv,μ',rfl,st'',hvr⟩
  rcases hnr with rfl | rfl
  · cases e with
    | normal => exact fin
    | _ => exact he.elim
  · cases e with
    | ret => exact fin
    | _ => exact he.elim
theorem extern_ok (hn : namesOK P = true) {f : FuncId} {fn : Func} (hfn : P.funcs[f]? = some fn) (hb : fn.body = none) {args : List Value} {h h' : H} {v : Value} (hr : externA (extK fn) args h = some (v,h')) :
    h.next ≤ h'.next ∧
    (f < Y0 → ∃ fn,P.funcs[f]? = some fn ∧ fn.name ≠ "runtime.NumGoroutine" ∧
      (((∃ c,fn.body = some c) ∧ ∀ μ w cargs,RH NG μ h w → Fresh μ h.next h'.next → LR μ args cargs → Calls P f ⟨cargs⟩ w (CallR NG μ h w v h')) ∨
       (fn.body = none ∧ ∀ μ w cargs,RH NG μ h w → Fresh μ h.next h'.next → LR μ args cargs → ∃ cv w' μ',(callFunc f ⟨cargs⟩).run P w = .ok (.value cv) w' ∧ Step NG μ h w μ' h' w' ∧ VR μ' v cv))) ∧
    (∀ id us,f = Y0 → args = .int .i64 (.ofNat id) :: us → ∀ μ w cargs l,RH NG μ h w → Fresh μ h.next h'.next → LR μ us cargs → μ id = some l →
      ∃ g tm a b,(Instr.yield l.blk ⟨cargs⟩).run P w = .ok (.round l.blk g tm a b) w ∧ RoundIn Fence.wide 0 P l.blk g tm a b w (CallR NG μ h w v h')) := by
  obtain ⟨hname,hlt⟩ := names_fn hn hfn
  obtain ⟨rfl,hs⟩ := externA_sound (NG := NG) hfn hname hb hr
  exact ⟨Nat.le_refl _,fun _ => ⟨fn,hfn,hname,.inr ⟨hb,fun μ w cargs rh _ hl => hs μ w cargs rh hl⟩⟩,fun id us e => absurd hlt (not_Y0 e)⟩
theorem round_ok (hn : namesOK P = true) {f : FuncId} (hf0 : f = Y0) {E : Nat → Code → List Tmp → T Value → H → Option (Ex × T Value × H)}
    (hE : ∀ nt c out fr h ex fr' h',E nt c out fr h = some (ex,fr',h') → Codes P NG nt c fr h ex fr' h') {args : List Value} {h h' : H} {v : Value} (hr : (yArg args fun id vs => roundA E id vs h) = some (v,h')) :
    h.next ≤ h'.next ∧
    (f < Y0 → ∃ fn,P.funcs[f]? = some fn ∧ fn.name ≠ "runtime.NumGoroutine" ∧
      (((∃ c,fn.body = some c) ∧ ∀ μ w cargs,RH NG μ h w → Fresh μ h.next h'.next → LR μ args cargs → Calls P f ⟨cargs⟩ w (CallR NG μ h w v h')) ∨
       (fn.body = none ∧ ∀ μ w cargs,RH NG μ h w → Fresh μ h.next h'.next → LR μ args cargs → ∃ cv w' μ',(callFunc f ⟨cargs⟩).run P w = .ok (.value cv) w' ∧ Step NG μ h w μ' h' w' ∧ VR μ' v cv))) ∧
    (∀ id us,f = Y0 → args = .int .i64 (.ofNat id) :: us → ∀ μ w cargs l,RH NG μ h w → Fresh μ h.next h'.next → LR μ us cargs → μ id = some l →
      ∃ g tm a b,(Instr.yield l.blk ⟨cargs⟩).run P w = .ok (.round l.blk g tm a b) w ∧ RoundIn Fence.wide 0 P l.blk g tm a b w (CallR NG μ h w v h')) := by
  obtain ⟨id0,us,k0,rfl,hr2⟩ := yArg_some hr; replace hr := hr2; clear hr2
  unfold roundA at hr
  split at hr
  · rename_i nt fr ps assign body hb
    obtain ⟨hc,hr⟩ := cond_some hr
    simp only [Bool.and_eq_true,List.all_eq_true] at hc
    obtain ⟨⟨⟨h1,h2⟩,h3⟩,h4⟩ := hc
    split at hr
    · rename_i fr2 h2' he1
      split at hr
      · rename_i nt2 f2 p2 a2 b2 hb2
        split at hr
        · rename_i ex fr4 h4' he2
          split at hr
          · rename_i nt4 f4 p4 a4 b4 st4 hb4
            simp only [Option.some.injEq,Prod.mk.injEq] at hr
            obtain ⟨rfl,rfl⟩ := hr
            obtain ⟨hle,hro⟩ := round_sound hb (beq_iff.1 h1) (fun t ht => blt_iff.1 (h2 t ht)) h3 h4 (hE _ _ _ _ _ _ _ _ he1) hb2 (hE _ _ _ _ _ _ _ _ he2) hb4
            refine ⟨hle,fun hlt => absurd hlt (not_Y0 hf0),fun id us' _ e => ?_⟩
            simp only [List.cons.injEq,Value.int.injEq,Int.ofNat.injEq] at e
            obtain ⟨⟨_,rfl⟩,rfl⟩ := e
            exact hro
          · simp at hr
        · simp at hr
      · simp at hr
    · simp at hr
  · simp at hr
theorem callA_sound (hzp : zerosPlain P = true) (hm : P.follows .mixedOrders = true) (hn : namesOK P = true) {lv : Bool} : ∀ (n : Nat),CallsOK P NG (callA P NG lv n) := by
  intro n
  induction n with
  | zero => intro f args h v h' hr; simp [callA] at hr
  | succ n ih =>
    intro f args h v h' hr
    simp only [callA] at hr
    split at hr
    · obtain ⟨hf0,hr⟩ := cond_some hr
      exact round_ok hn (beq_iff.1 hf0) (fun nt c out fr h ex fr' h' he => exec_sound hzp hm ih (nt := nt) c _ _ _ _ _ _ _ he) hr
    · rename_i fn hfn
      unfold callBody at hr
      split at hr
      · rename_i hb
        exact extern_ok hn hfn hb hr
      · rename_i c hc
        obtain ⟨hlen,hr⟩ := cond_some hr
        have hlen := ble_iff.1 hlen
        split at hr
        · rename_i fr h1 hex
          split at hr
          · rename_i vs hres
            simp only [Option.some.injEq,Prod.mk.injEq] at hr
            obtain ⟨rfl,rfl⟩ := hr
            exact call_sound hn hfn hc hlen (exec_sound hzp hm ih (nt := fn.ntmps) c _ _ _ _ _ _ _ hex) (.inl rfl) hres
          · simp at hr
        · rename_i fr h1 hex
          split at hr
          · rename_i vs hres
            simp only [Option.some.injEq,Prod.mk.injEq] at hr
            obtain ⟨rfl,rfl⟩ := hr
            exact call_sound hn hfn hc hlen (exec_sound hzp hm ih (nt := fn.ntmps) c _ _ _ _ _ _ _ hex) (.inr rfl) hres
          · simp at hr
        · simp at hr
end
end Go.AM

namespace Go.AM
open Go Go.RowKit
theorem RH.nothing (w : World) : RH 0 (fun _ => none) ⟨.nil,0⟩ w :=
 ⟨Nat.le_refl _,fun id b hb => by simp [H.get] at hb,fun id b l hb => by simp [H.get] at hb,fun id b l id' b' l' hb => by simp [H.get] at hb,
  fun id l hl => by simp at hl,fun g hg => by omega⟩
theorem Step.below {NG : Nat} {μ μ' : Mu} {h h' : H} {w w' : World} (st : Step NG μ h w μ' h' w') (ho : ∀ id k,h.get id = some k → k.owned = false) : Below w.heap.size w w' :=
 ⟨st.os,st.tape,st.output,st.size,fun k hk => st.frame k hk fun id c l hc hco => by rw [ho id c hc] at hco; simp at hco⟩
end Go.AM
