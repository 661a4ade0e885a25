import Derived.Test.YtohapjojkjjflaaDoorRn
import Derived.Test.YtohapjojkjjflaaDoorRp
namespace Go.AM
open Go Go.RowKit Go.ChangeShapes Go.WideShapes Go.ChangeAt
variable {P : Program} {NG : Nat}
def ClosedRet (P : Program) (f : FuncId) (args : List Value) (v : Value) : Prop :=
 (∃ fn c,P.funcs[f]? = some fn ∧ fn.body = some c ∧ fn.name ≠ "runtime.NumGoroutine") ∧ plainL args = true ∧ plain v = true ∧
 ∀ w : World,Calls P f ⟨args⟩ w fun e w' => e = .returned v ∧ Below w.heap.size w w'
abbrev Orc := FuncId → List Value → Option Value
def callO (P : Program) (NG : Nat) (Q : Orc) : Nat → CF
 | 0 => fun _ _ _ => none
 | n + 1 => fun f args h =>
  match Q f args with
  | some v => some (v,h)
  | none =>
   match P.funcs[f]? with
   | none => bif Nat.beq f 1099511627776 then yArg args fun id vs => roundK P (callO P NG Q n) n NG id vs h fun v h => some (v,h) else none
   | some fn => match fn.body with
    | none => externA (extK fn) args h
    | some c => callBodyK P (callO P NG Q n) n NG fn c args h fun v h => some (v,h)
theorem callO_sound (hzp : zerosPlain P = true) (hm : P.follows .mixedOrders = true) (hn : namesOK P = true) {Q : Orc} (hQ : ∀ f args v,Q f args = some v → ClosedRet P f args v) : ∀ (n : Nat),CallsOK P NG (callO P NG Q n) := by
 intro n
 induction n with
 | zero => intro f args h v h' hr; simp [callO] at hr
 | succ n ih =>
  intro f args h v h' hr
  simp only [callO] at hr
  cases hq : Q f args with
  | some u =>
   rw [hq] at hr
   simp only [Option.some.injEq,Prod.mk.injEq] at hr
   obtain ⟨rfl,rfl⟩ := hr
   obtain ⟨⟨fn,c,hfn,hbd,hname⟩,ha,hv,hc⟩ := hQ _ _ _ hq
   have hlt := (names_fn hn hfn).2
   refine ⟨Nat.le_refl _,fun _ => ⟨fn,hfn,hname,.inl ⟨⟨c,hbd⟩,fun μ w cargs rh _ hl => ?_⟩⟩,fun id us e => absurd hlt (not_Y0 e)⟩
   have := hl.eq_of_plain ha
   subst this
   exact (hc w).mono fun e w' ⟨he,hb⟩ => ⟨u,μ,he,Step.ofBelow rh hb,VR.of_plain μ u hv⟩
  | none =>
  rw [hq] at hr
  simp only [] at hr
  split at hr
  · obtain ⟨hf0,hr⟩ := cond_some hr
    have hf0 := beq_iff.1 hf0
    obtain ⟨id0,us,k0,rfl,hr2⟩ := yArg_some hr; replace hr := hr2; clear hr2
    unfold roundK at hr
    split at hr
    · rename_i nt fr ps assign body hb
      obtain ⟨hc,hr⟩ := cond_some hr
      simp only [Bool.and_eq_true,List.all_eq_true] at hc
      obtain ⟨⟨⟨h1,h2⟩,h3⟩,h4⟩ := hc
      obtain ⟨ex1,fr2,h2',hk,c1⟩ := execK_sound hzp hm ih (nt := nt) assign _ _ _ _ _ _ hr
      cases ex1 with
      | normal =>
       simp only [] at hk
       split at hk
       · rename_i nt2 f2 p2 a2 b2 hb2
         obtain ⟨ex,fr4,h4',hk2,c2⟩ := execK_sound hzp hm ih (nt := nt) body _ _ _ _ _ _ hk
         change (match h4'.get id0 with | some (.loop nt4 f4 p4 a4 b4 _) => some (Value.bool (endSt ex).1,h4'.put id0 (.loop nt4 f4 p4 a4 b4 (endSt ex).2)) | _ => none) = some (v,h') at hk2
         split at hk2
         · rename_i nt4 f4 p4 a4 b4 st4 hb4
           simp only [Option.some.injEq,Prod.mk.injEq] at hk2
           obtain ⟨rfl,rfl⟩ := hk2
           obtain ⟨hle,hro⟩ := round_sound hb (beq_iff.1 h1) (fun t ht => blt_iff.1 (h2 t ht)) h3 h4 c1 hb2 c2 hb4
           refine ⟨hle,fun hlt => absurd hlt (not_Y0 hf0),fun id us' _ e => ?_⟩
           simp only [List.cons.injEq,Value.int.injEq,Int.ofNat.injEq] at e
           obtain ⟨⟨_,rfl⟩,rfl⟩ := e
           exact hro
         · simp at hk2
       · simp at hk
      | exit j => simp at hk
      | ret => simp at hk
    · simp at hr
  · rename_i fn hfn
    split at hr
    · rename_i hb
      exact extern_ok hn hfn hb hr
    · rename_i c hc
      unfold callBodyK at hr
      obtain ⟨hlen,hr⟩ := cond_some hr
      have hlen := ble_iff.1 hlen
      obtain ⟨ex,fr,h1,hk,hcs⟩ := execK_sound hzp hm ih (nt := fn.ntmps) c _ _ _ _ _ _ hr
      cases ex with
      | exit j => simp [resK] at hk
      | normal =>
       simp only [resK] at hk
       obtain ⟨vs,hres,hk⟩ := bind_some hk
       simp only [Option.some.injEq,Prod.mk.injEq] at hk
       obtain ⟨rfl,rfl⟩ := hk
       exact call_sound hn hfn hc hlen hcs (.inl rfl) hres
      | ret =>
       simp only [resK] at hk
       obtain ⟨vs,hres,hk⟩ := bind_some hk
       simp only [Option.some.injEq,Prod.mk.injEq] at hk
       obtain ⟨rfl,rfl⟩ := hk
       exact call_sound hn hfn hc hlen hcs (.inr rfl) hres
theorem closedRet_of {fs : List Nat} {n : Nat} {f : FuncId} {args : List Value} {v : Value} {h' : H} (hzp : zerosPlain P = true) (hm : P.follows .mixedOrders = true) (hn : namesOK P = true) (hfs : F.drsAll P fs = true)
 (hf : ∃ fn c,P.funcs[f]? = some fn ∧ fn.body = some c ∧ fn.name ≠ "runtime.NumGoroutine") (ha : plainL args = true) (hv : plain v = true) (h : F.callF P 0 fs n f args ⟨.nil,0⟩ = some (v,h')) : ClosedRet P f args v := by
 refine ⟨hf,ha,hv,fun w => ?_⟩
 obtain ⟨fn,c,hfn,hb,_⟩ := hf
 rw [F.callF_eq P 0 hfs] at h
 obtain ⟨_,hc,_⟩ := callA_sound (NG := 0) hzp hm hn n f args _ _ _ h
 obtain ⟨fn',hfn',_,⟨_,hc⟩ | ⟨hb',_⟩⟩ := hc (names_fn hn hfn).2
 case inr => rw [hfn] at hfn'; simp only [Option.some.injEq] at hfn'; subst hfn'; rw [hb'] at hb; simp at hb
 refine (hc (fun _ => none) w args (RH.nothing w) (fun _ _ _ => rfl) (LR.of_plain_mem _ fun a hA => ?_)).mono fun e w' ⟨cv,μ',he,hst,hvr⟩ => ?_
 · obtain ⟨i,hi⟩ := List.mem_iff_getElem?.1 hA
   exact plainL_get args ha i a hi
 · have := hvr.eq_of_plain hv
   subst this
   exact ⟨he,hst.below fun id k hk => by simp [H.get] at hk⟩
theorem callO_eq {Q : Orc} {f : Nat} {nt : Nat} {RR : List Tmp} {fn : Func} {c : Code} {args : List Value} {n : Nat} {h : H} (hQ : Q f args = none) (hf : P.funcs[f]? = some fn) (hb : fn.body = some c) (hnt : fn.ntmps = nt) (hrr : resRegs fn = RR) (hl : Nat.ble args.length nt = true) {fr : T Value}
 (ha : argsA 0 args = fr) :
 callO P NG Q (n + 1) f args h = execK P (callO P NG Q n) n NG nt RR c RR [] fr h (resK P fn fun v h => some (v,h)) := by
 subst hnt; subst hrr; subst ha
 simp only [callO,hQ,hf,hb,callBodyK,hl,cond_true]
abbrev Tab := List (FuncId × List Value × Value)
def Tab.orc (t : Tab) : Orc := fun f args => (t.find? fun e => Nat.beq e.1 f && sameL e.2.1 args).map fun e => e.2.2
theorem Tab.none {t : Tab} {f : FuncId} (h : (t.all fun e => !Nat.beq e.1 f) = true) (args : List Value) : t.orc f args = Option.none := by
 unfold Tab.orc
 rw [List.find?_eq_none.2]; rfl
 intro e he
 have := List.all_eq_true.1 h e he
 simp only [Bool.not_eq_true'] at this
 rw [this,Bool.false_and]; simp
noncomputable def okE (P : Program) (fs : List Nat) (n : Nat) (e : FuncId × List Value × Value) : Bool :=
 (match P.funcs[e.1]? with | some fn => fn.body.isSome && !(fn.name == "runtime.NumGoroutine") | none => false) && (plainL e.2.1 && (plain e.2.2 && (match F.callF P 0 fs n e.1 e.2.1 ⟨.nil,0⟩ with | some (v,_) => same v e.2.2 | none => false)))
theorem okE_closed {fs : List Nat} {n : Nat} (hzp : zerosPlain P = true) (hm : P.follows .mixedOrders = true) (hn : namesOK P = true) (hfs : F.drsAll P fs = true) {e : FuncId × List Value × Value} (h : okE P fs n e = true) : ClosedRet P e.1 e.2.1 e.2.2 := by
 unfold okE at h
 simp only [Bool.and_eq_true] at h
 obtain ⟨h1,h2,h3,h4⟩ := h
 have hf : ∃ fn c,P.funcs[e.1]? = some fn ∧ fn.body = some c ∧ fn.name ≠ "runtime.NumGoroutine" := by
  split at h1
  · rename_i fn hfn
    simp only [Bool.and_eq_true] at h1
    obtain ⟨c,hc⟩ := Option.isSome_iff_exists.1 h1.1
    exact ⟨fn,c,hfn,hc,by simpa using h1.2⟩
  · cases h1
 split at h4
 · rename_i v h' hr
   have := same_eq _ _ h4
   subst this
   exact closedRet_of hzp hm hn hfs hf h2 h3 hr
 · cases h4
theorem Tab.closed {t : Tab} (h : ∀ e ∈ t,ClosedRet P e.1 e.2.1 e.2.2) : ∀ f args v,t.orc f args = some v → ClosedRet P f args v := by
 intro f args v hv
 unfold Tab.orc at hv
 cases hf : t.find? (fun e => Nat.beq e.1 f && sameL e.2.1 args) with
 | none => rw [hf] at hv; cases hv
 | some e =>
  rw [hf] at hv
  have hm := List.mem_of_find?_eq_some hf
  have hp := List.find?_some hf
  simp only [Bool.and_eq_true] at hp
  have e1 := beq_iff.1 hp.1
  have e2 := sameL_eq _ _ hp.2
  have e3 : e.2.2 = v := Option.some.inj hv
  subst e1; subst e2; subst e3
  exact h e hm
end Go.AM

namespace Go.AM.Pk
open Go Go.AM
abbrev V := Value
abbrev O (β : Type) := Option β
abbrev KK (β : Type) := Ex → T Value → H → Option β
def gk : Nat → Code → Nat → Code
 | 0,c,_ => c
 | f + 1,c,n => bif Nat.ble n 1 then c else bif Nat.beq (n % 2) 0 then cL (gk f c (n / 2)) else cR (gk f c (n / 2))
def g (c : Code) (n : Nat) : Code := gk 64 c n
abbrev K0 (β : Type) := H → Option β
abbrev K1 (β : Type) := Value → H → Option β
abbrev K2 (β : Type) := Value → Value → H → Option β
abbrev K3 (β : Type) := Value → Value → Value → H → Option β
abbrev K4 (β : Type) := Value → Value → Value → Value → H → Option β
abbrev K5 (β : Type) := Value → Value → Value → Value → Value → H → Option β
abbrev K6 (β : Type) := Value → Value → Value → Value → Value → Value → H → Option β
abbrev K7 (β : Type) := Value → Value → Value → Value → Value → Value → Value → H → Option β
abbrev K8 (β : Type) := Value → Value → Value → Value → Value → Value → Value → Value → H → Option β
abbrev K9 (β : Type) := Value → Value → Value → Value → Value → Value → Value → Value → Value → H → Option β
abbrev r0 : T Value := (fs [])
abbrev N0 {β : Type} (K : KK β) : K0 β := fun h => K .normal (fs []) h
abbrev X0 {β : Type} (K : KK β) (id : Nat) : K0 β := fun h => K (.exit id) (fs []) h
theorem w0 {β : Type} {f g : K0 β} (e : ∀ h,f h = g h) : f = g := funext fun h => e h
abbrev r1 (a : Nat) (x0 : Value) : T Value := (fs [(a,x0)])
abbrev N1 {β : Type} (K : KK β) (a : Nat) : K1 β := fun x0 h => K .normal (fs [(a,x0)]) h
abbrev R1 {β : Type} (K : KK β) (a : Nat) : K1 β := fun x0 h => K .ret (fs [(a,x0)]) h
abbrev X1 {β : Type} (K : KK β) (id : Nat) (a : Nat) : K1 β := fun x0 h => K (.exit id) (fs [(a,x0)]) h
theorem w1 {β : Type} {f g : K1 β} (e : ∀ x0 h,f x0 h = g x0 h) : f = g := funext fun x0 => funext fun h => e x0 h
abbrev r2 (a b : Nat) (x0 x1 : Value) : T Value := (fs [(a,x0),(b,x1)])
abbrev N2 {β : Type} (K : KK β) (a b : Nat) : K2 β := fun x0 x1 h => K .normal (fs [(a,x0),(b,x1)]) h
abbrev R2 {β : Type} (K : KK β) (a b : Nat) : K2 β := fun x0 x1 h => K .ret (fs [(a,x0),(b,x1)]) h
abbrev X2 {β : Type} (K : KK β) (id : Nat) (a b : Nat) : K2 β := fun x0 x1 h => K (.exit id) (fs [(a,x0),(b,x1)]) h
theorem w2 {β : Type} {f g : K2 β} (e : ∀ x0 x1 h,f x0 x1 h = g x0 x1 h) : f = g := funext fun x0 => funext fun x1 => funext fun h => e x0 x1 h
abbrev r3 (a b c : Nat) (x0 x1 x2 : Value) : T Value := (fs [(a,x0),(b,x1),(c,x2)])
abbrev N3 {β : Type} (K : KK β) (a b c : Nat) : K3 β := fun x0 x1 x2 h => K .normal (fs [(a,x0),(b,x1),(c,x2)]) h
abbrev R3 {β : Type} (K : KK β) (a b c : Nat) : K3 β := fun x0 x1 x2 h => K .ret (fs [(a,x0),(b,x1),(c,x2)]) h
abbrev X3 {β : Type} (K : KK β) (id : Nat) (a b c : Nat) : K3 β := fun x0 x1 x2 h => K (.exit id) (fs [(a,x0),(b,x1),(c,x2)]) h
theorem w3 {β : Type} {f g : K3 β} (e : ∀ x0 x1 x2 h,f x0 x1 x2 h = g x0 x1 x2 h) : f = g := funext fun x0 => funext fun x1 => funext fun x2 => funext fun h => e x0 x1 x2 h
abbrev r4 (a b c d : Nat) (x0 x1 x2 x3 : Value) : T Value := (fs [(a,x0),(b,x1),(c,x2),(d,x3)])
abbrev N4 {β : Type} (K : KK β) (a b c d : Nat) : K4 β := fun x0 x1 x2 x3 h => K .normal (fs [(a,x0),(b,x1),(c,x2),(d,x3)]) h
theorem w4 {β : Type} {f g : K4 β} (e : ∀ x0 x1 x2 x3 h,f x0 x1 x2 x3 h = g x0 x1 x2 x3 h) : f = g := funext fun x0 => funext fun x1 => funext fun x2 => funext fun x3 => funext fun h => e x0 x1 x2 x3 h
abbrev r5 (a b c d e : Nat) (x0 x1 x2 x3 x4 : Value) : T Value := (fs [(a,x0),(b,x1),(c,x2),(d,x3),(e,x4)])
abbrev N5 {β : Type} (K : KK β) (a b c d e : Nat) : K5 β := fun x0 x1 x2 x3 x4 h => K .normal (fs [(a,x0),(b,x1),(c,x2),(d,x3),(e,x4)]) h
abbrev X5 {β : Type} (K : KK β) (id : Nat) (a b c d e : Nat) : K5 β := fun x0 x1 x2 x3 x4 h => K (.exit id) (fs [(a,x0),(b,x1),(c,x2),(d,x3),(e,x4)]) h
theorem w5 {β : Type} {f g : K5 β} (e : ∀ x0 x1 x2 x3 x4 h,f x0 x1 x2 x3 x4 h = g x0 x1 x2 x3 x4 h) : f = g := funext fun x0 => funext fun x1 => funext fun x2 => funext fun x3 => funext fun x4 => funext fun h => e x0 x1 x2 x3 x4 h
abbrev r6 (a b c d e f : Nat) (x0 x1 x2 x3 x4 x5 : Value) : T Value := (fs [(a,x0),(b,x1),(c,x2),(d,x3),(e,x4),(f,x5)])
abbrev N6 {β : Type} (K : KK β) (a b c d e f : Nat) : K6 β := fun x0 x1 x2 x3 x4 x5 h => K .normal (fs [(a,x0),(b,x1),(c,x2),(d,x3),(e,x4),(f,x5)]) h
theorem w6 {β : Type} {f g : K6 β} (e : ∀ x0 x1 x2 x3 x4 x5 h,f x0 x1 x2 x3 x4 x5 h = g x0 x1 x2 x3 x4 x5 h) : f = g := funext fun x0 => funext fun x1 => funext fun x2 => funext fun x3 => funext fun x4 => funext fun x5 => funext fun h => e x0 x1 x2 x3 x4 x5 h
abbrev r7 (a b c d e f g : Nat) (x0 x1 x2 x3 x4 x5 x6 : Value) : T Value := (fs [(a,x0),(b,x1),(c,x2),(d,x3),(e,x4),(f,x5),(g,x6)])
abbrev N7 {β : Type} (K : KK β) (a b c d e f g : Nat) : K7 β := fun x0 x1 x2 x3 x4 x5 x6 h => K .normal (fs [(a,x0),(b,x1),(c,x2),(d,x3),(e,x4),(f,x5),(g,x6)]) h
theorem w7 {β : Type} {f g : K7 β} (e : ∀ x0 x1 x2 x3 x4 x5 x6 h,f x0 x1 x2 x3 x4 x5 x6 h = g x0 x1 x2 x3 x4 x5 x6 h) : f = g := funext fun x0 => funext fun x1 => funext fun x2 => funext fun x3 => funext fun x4 => funext fun x5 => funext fun x6 => funext fun h => e x0 x1 x2 x3 x4 x5 x6 h
abbrev r8 (a b c d e f g i : Nat) (x0 x1 x2 x3 x4 x5 x6 x7 : Value) : T Value := (fs [(a,x0),(b,x1),(c,x2),(d,x3),(e,x4),(f,x5),(g,x6),(i,x7)])
abbrev N8 {β : Type} (K : KK β) (a b c d e f g i : Nat) : K8 β := fun x0 x1 x2 x3 x4 x5 x6 x7 h => K .normal (fs [(a,x0),(b,x1),(c,x2),(d,x3),(e,x4),(f,x5),(g,x6),(i,x7)]) h
theorem w8 {β : Type} {f g : K8 β} (e : ∀ x0 x1 x2 x3 x4 x5 x6 x7 h,f x0 x1 x2 x3 x4 x5 x6 x7 h = g x0 x1 x2 x3 x4 x5 x6 x7 h) : f = g := funext fun x0 => funext fun x1 => funext fun x2 => funext fun x3 => funext fun x4 => funext fun x5 => funext fun x6 => funext fun x7 => funext fun h => e x0 x1 x2 x3 x4 x5 x6 x7 h
abbrev r9 (a b c d e f g i j : Nat) (x0 x1 x2 x3 x4 x5 x6 x7 x8 : Value) : T Value := (fs [(a,x0),(b,x1),(c,x2),(d,x3),(e,x4),(f,x5),(g,x6),(i,x7),(j,x8)])
abbrev N9 {β : Type} (K : KK β) (a b c d e f g i j : Nat) : K9 β := fun x0 x1 x2 x3 x4 x5 x6 x7 x8 h => K .normal (fs [(a,x0),(b,x1),(c,x2),(d,x3),(e,x4),(f,x5),(g,x6),(i,x7),(j,x8)]) h
theorem w9 {β : Type} {f g : K9 β} (e : ∀ x0 x1 x2 x3 x4 x5 x6 x7 x8 h,f x0 x1 x2 x3 x4 x5 x6 x7 x8 h = g x0 x1 x2 x3 x4 x5 x6 x7 x8 h) : f = g := funext fun x0 => funext fun x1 => funext fun x2 => funext fun x3 => funext fun x4 => funext fun x5 => funext fun x6 => funext fun x7 => funext fun x8 => funext fun h => e x0 x1 x2 x3 x4 x5 x6 x7 x8 h
section
variable {β : Type} {P : Program} {C : CF} {L G nt : Nat} {R out l' : List Tmp} {env : List (Nat × List Tmp)} {fr fr1 : T Value} {h : H} {K : KK β} {a b : Code} {q r : Option β}
theorem sn (e : execK P C L G nt R b out env fr h K = r) : seqK .normal (fun fr h => execK P C L G nt R b out env fr h K) K fr h = r := e
theorem sl {F : T Value → H → KK β → Option β} {n : Nat} (e : loopK F n fr h K = r) : seqK .normal (fun fr h => loopK F n fr h K) K fr h = r := e
theorem sq (K : KK β) (e : execK P C L G nt R a l' env fr h (fun ex fr' h' => seqK ex (fun fr h => execK P C L G nt R b out env fr h K) K fr' h') = q) (e2 : q = r) (hl : live R b out env = l') : execK P C L G nt R (.seq a b) out env fr h K = r := by subst hl; exact e.trans e2
theorem s0 (K : KK β) (b : Code) (out : List Tmp) (e : execK P C L G nt R a l' env fr h (fun ex fr' h' => seqK ex (fun fr h => execK P C L G nt R b out env fr h K) K fr' h') = q) (hl : live R b out env = l') : execK P C L G nt R (.seq a b) out env fr h K = q := by subst hl; exact e
theorem cg (e : execK P C L G nt R b out env fr h K = q) (hc : a = b) : execK P C L G nt R a out env fr h K = q := by subst hc; exact e
theorem bk {id : Nat} (e : execK P C L G nt R b out ((id,out) :: env) fr h (fun ex fr' h' => blockK id ex K fr' h') = q) : execK P C L G nt R (.block id b) out env fr h K = q := e
theorem sc (e : execK P C L G nt R b out env fr h K = q) : execK P C L G nt R (.scope b) out env fr h K = q := e
theorem cd (K : KK β) (x : Operand) (v : Value) (e : execK P C L G nt R a out env fr h K = q) (e2 : execK P C L G nt R b out env fr h K = r) (hv : evalA G fr h x = some v) : execK P C L G nt R (.cond x a b) out env fr h K = condV v q r := by rw [execK_cond (a := a) (b := b) (x := x) (v := v) rfl hv,e,e2]
theorem lp (out : List Tmp) (fr : T Value) (e : loopK (fun fr h K => execK P C L G nt R b l' env fr h K) L fr1 h K = q) (hS : (live R b [] env,keepL fr l') = (l',fr1)) : execK P C L G nt R (.loop b) out env fr h K = q := by obtain ⟨hS,hf⟩ := Prod.mk.inj hS; subst hS; subst hf; exact e
theorem tp {Q : Orc} {f n : Nat} {c : Code} {fn : Func} {args : List Value} (hQ : Q f args = none) (hf : P.funcs[f]? = some fn) {q : Option (Value × H)} (e : execK P (callO P G Q n) n G nt R c R [] fr h (resK P fn fun v h => some (v,h)) = q) (hb : (fn.body,fn.ntmps,resRegs fn,Nat.ble args.length nt,argsA 0 args) = (some c,nt,R,true,fr)) : callO P G Q (n + 1) f args h = q := by
 obtain ⟨hb,hS⟩ := Prod.mk.inj hb; obtain ⟨hnt,hS⟩ := Prod.mk.inj hS; obtain ⟨hrr,hS⟩ := Prod.mk.inj hS; obtain ⟨hl,ha⟩ := Prod.mk.inj hS
 exact (callO_eq hQ hf hb hnt hrr hl ha).trans e
end
end Go.AM.Pk
