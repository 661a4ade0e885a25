import Derived.Test.YtdljlmpleibkiaaGreatDoorRn
import Derived.Test.YtdljlmpleibkiaaGreatDoorRp
namespace Go.AM
open Go Go.RowKit Go.ChangeShapes Go.WideShapes Go.ChangeAt
variable {P : Program} {NG : Nat}
def ClosedRet (P : Program) (f : FuncId) (args : List Value) (v : Value) : Prop :=
 (∃ fn c,P.funcs[f]? = some fn ∧ fn.body = some c ∧ fn.name ≠ "runtime.NumGoroutine") ∧ plainL args = true ∧ plain v = true ∧
 ∀ w : World,Calls P f ⟨args⟩ w fun e w' => e = .returned v ∧ Below w.heap.size w w'
abbrev Orc := FuncId → List Value → Option Value
def callO (P : Program) (NG : Nat) (Q : Orc) : Nat → CF
 | 0 => fun _ _ _ => none
 | n + 1 => fun f args h =>
  match Q f args with
  | some v => some (v,h)
  | none =>
   match P.funcs[f]? with
   | none => bif Nat.beq f 1099511627776 then yArg args fun id vs => roundK P (callO P NG Q n) n NG id vs h fun v h => some (v,h) else none
   | some fn => match fn.body with
    | none => externA (extK fn) args h
    | some c => callBodyK P (callO P NG Q n) n NG fn c args h fun v h => some (v,h)
theorem callO_sound (hzp : zerosPlain P = true) (hm : P.follows .mixedOrders = true) (hn : namesOK P = true) {Q : Orc} (hQ : ∀ f args v,Q f args = some v → ClosedRet P f args v) : ∀ (n : Nat),CallsOK P NG (callO P NG Q n) := by
 intro n
 induction n with
 | zero => intro f args h v h' hr; simp [callO] at hr
 | succ n ih =>
  intro f args h v h' hr
  simp only [callO] at hr
  cases hq : Q f args with
  | some u =>
   rw [hq] at hr
   simp only [Option.some.injEq,Prod.mk.injEq] at hr
   obtain ⟨rfl,rfl⟩ := hr
   obtain ⟨⟨fn,c,hfn,hbd,hname⟩,ha,hv,hc⟩ := hQ _ _ _ hq
   have hlt := (names_fn hn hfn).2
   refine ⟨Nat.le_refl _,fun _ => ⟨fn,hfn,hname,.inl ⟨⟨c,hbd⟩,fun μ w cargs rh _ hl => ?_⟩⟩,fun id us e => absurd hlt (not_Y0 e)⟩
   have := hl.eq_of_plain ha
   subst this
   exact (hc w).mono fun e w' ⟨he,hb⟩ => ⟨u,μ,he,Step.ofBelow rh hb,VR.of_plain μ u hv⟩
  | none =>
  rw [hq] at hr
  simp only [] at hr
  split at hr
  · obtain ⟨hf0,hr⟩ := cond_some hr
    have hf0 := beq_iff.1 hf0
    obtain ⟨id0,us,k0,rfl,hr2⟩ := yArg_some hr; replace hr := hr2; clear hr2
    unfold roundK at hr
    split at hr
    · rename_i nt fr ps assign body hb
      obtain ⟨hc,hr⟩ := cond_some hr
      simp only [Bool.and_eq_true,List.all_eq_true] at hc
      obtain ⟨⟨⟨h1,h2⟩,h3⟩,h4⟩ := hc
      obtain ⟨ex1,fr2,h2',hk,c1⟩ := execK_sound hzp hm ih (nt := nt) assign _ _ _ _ _ _ hr
      cases ex1 with
      | normal =>
       simp only [] at hk
       split at hk
       · rename_i nt2 f2 p2 a2 b2 hb2
         obtain ⟨ex,fr4,h4',hk2,c2⟩ := execK_sound hzp hm ih (nt := nt) body _ _ _ _ _ _ hk
         change (match h4'.get id0 with | some (.loop nt4 f4 p4 a4 b4 _) => some (Value.bool (endSt ex).1,h4'.put id0 (.loop nt4 f4 p4 a4 b4 (endSt ex).2)) | _ => none) = some (v,h') at hk2
         split at hk2
         · rename_i nt4 f4 p4 a4 b4 st4 hb4
           simp only [Option.some.injEq,Prod.mk.injEq] at hk2
           obtain ⟨rfl,rfl⟩ := hk2
           obtain ⟨hle,hro⟩ := round_sound hb (beq_iff.1 h1) (fun t ht => blt_iff.1 (h2 t ht)) h3 h4 c1 hb2 c2 hb4
           refine ⟨hle,fun hlt => absurd hlt (not_Y0 hf0),fun id us' _ e => ?_⟩
           simp only [List.cons.injEq,Value.int.injEq,Int.ofNat.injEq] at e
           obtain ⟨⟨_,rfl⟩,rfl⟩ := e
           exact hro
         · simp at hk2
       · simp at hk
      | exit j => simp at hk
      | ret => simp at hk
    · simp at hr
  · rename_i fn hfn
    split at hr
    · rename_i hb
      exact extern_ok hn hfn hb hr
    · rename_i c hc
      unfold callBodyK at hr
      obtain ⟨hlen,hr⟩ := cond_some hr
      have hlen := ble_iff.1 hlen
      obtain ⟨ex,fr,h1,hk,hcs⟩ := execK_sound hzp hm ih (nt := fn.ntmps) c _ _ _ _ _ _ hr
      cases ex with
      | exit j => simp [resK] at hk
      | normal =>
       simp only [resK] at hk
       obtain ⟨vs,hres,hk⟩ := bind_some hk
       simp only [Option.some.injEq,Prod.mk.injEq] at hk
       obtain ⟨rfl,rfl⟩ := hk
       exact call_sound hn hfn hc hlen hcs (.inl rfl) hres
      | ret =>
       simp only [resK] at hk
       obtain ⟨vs,hres,hk⟩ := bind_some hk
       simp only [Option.some.injEq,Prod.mk.injEq] at hk
       obtain ⟨rfl,rfl⟩ := hk
       exact call_sound hn hfn hc hlen hcs (.inr rfl) hres
theorem closedRet_of {fs : List Nat} {n : Nat} {f : FuncId} {args : List Value} {v : Value} {h' : H} (hzp : zerosPlain P = true) (hm : P.follows .mixedOrders = true) (hn : namesOK P = true) (hfs : F.drsAll P fs = true)
 (hf : ∃ fn c,P.funcs[f]? = some fn ∧ fn.body = some c ∧ fn.name ≠ "runtime.NumGoroutine") (ha : plainL args = true) (hv : plain v = true) (h : F.callF P 0 fs n f args ⟨.nil,0⟩ = some (v,h')) : ClosedRet P f args v := by
 refine ⟨hf,ha,hv,fun w => ?_⟩
 obtain ⟨fn,c,hfn,hb,_⟩ := hf
 rw [F.callF_eq P 0 hfs] at h
 obtain ⟨_,hc,_⟩ := callA_sound (NG := 0) hzp hm hn n f args _ _ _ h
 obtain ⟨fn',hfn',_,⟨_,hc⟩ | ⟨hb',_⟩⟩ := hc (names_fn hn hfn).2
 case inr => rw [hfn] at hfn'; simp only [Option.some.injEq] at hfn'; subst hfn'; rw [hb'] at hb; simp at hb
 refine (hc (fun _ => none) w args (RH.nothing w) (fun _ _ _ => rfl) (LR.of_plain_mem _ fun a hA => ?_)).mono fun e w' ⟨cv,μ',he,hst,hvr⟩ => ?_
 · obtain ⟨i,hi⟩ := List.mem_iff_getElem?.1 hA
   exact plainL_get args ha i a hi
 · have := hvr.eq_of_plain hv
   subst this
   exact ⟨he,hst.below fun id k hk => by simp [H.get] at hk⟩
theorem callO_eq {Q : Orc} {f : Nat} {nt : Nat} {RR : List Tmp} {fn : Func} {c : Code} {args : List Value} {n : Nat} {h : H} (hQ : Q f args = none) (hf : P.funcs[f]? = some fn) (hb : fn.body = some c) (hnt : fn.ntmps = nt) (hrr : resRegs fn = RR) (hl : Nat.ble args.length nt = true) {fr : T Value}
 (ha : argsA 0 args = fr) :
 callO P NG Q (n + 1) f args h = execK P (callO P NG Q n) n NG nt RR c RR [] fr h (resK P fn fun v h => some (v,h)) := by
 subst hnt; subst hrr; subst ha
 simp only [callO,hQ,hf,hb,callBodyK,hl,cond_true]
abbrev Tab := List (FuncId × List Value × Value)
def Tab.orc (t : Tab) : Orc := fun f args => (t.find? fun e => Nat.beq e.1 f && sameL e.2.1 args).map fun e => e.2.2
theorem Tab.none {t : Tab} {f : FuncId} (h : (t.all fun e => !Nat.beq e.1 f) = true) (args : List Value) : t.orc f args = Option.none := by
 unfold Tab.orc
 rw [List.find?_eq_none.2]; rfl
 intro e he
 have := List.all_eq_true.1 h e he
 simp only [Bool.not_eq_true'] at this
 rw [this,Bool.false_and]; simp
noncomputable def okE (P : Program) (fs : List Nat) (n : Nat) (e : FuncId × List Value × Value) : Bool :=
 (match P.funcs[e.1]? with | some fn => fn.body.isSome && !(fn.name == "runtime.NumGoroutine") | none => false) && (plainL e.2.1 && (plain e.2.2 && (match F.callF P 0 fs n e.1 e.2.1 ⟨.nil,0⟩ with | some (v,_) => same v e.2.2 | none => false)))
theorem okE_closed {fs : List Nat} {n : Nat} (hzp : zerosPlain P = true) (hm : P.follows .mixedOrders = true) (hn : namesOK P = true) (hfs : F.drsAll P fs = true) {e : FuncId × List Value × Value} (h : okE P fs n e = true) : ClosedRet P e.1 e.2.1 e.2.2 := by
 unfold okE at h
 simp only [Bool.and_eq_true] at h
 obtain ⟨h1,h2,h3,h4⟩ := h
 have hf : ∃ fn c,P.funcs[e.1]? = some fn ∧ fn.body = some c ∧ fn.name ≠ "runtime.NumGoroutine" := by
  split at h1
  · rename_i fn hfn
    simp only [Bool.and_eq_true] at h1
    obtain ⟨c,hc⟩ := Option.isSome_iff_exists.1 h1.1
    exact ⟨fn,c,hfn,hc,by simpa using h1.2⟩
  · cases h1
 split at h4
 · rename_i v h' hr
   have := same_eq _ _ h4
   subst this
   exact closedRet_of hzp hm hn hfs hf h2 h3 hr
 · cases h4
theorem Tab.closed {t : Tab} (h : ∀ e ∈ t,ClosedRet P e.1 e.2.1 e.2.2) : ∀ f args v,t.orc f args = some v → ClosedRet P f args v := by
 intro f args v hv
 unfold Tab.orc at hv
 cases hf : t.find? (fun e => Nat.beq e.1 f && sameL e.2.1 args) with
 | none => rw [hf] at hv; cases hv
 | some e =>
  rw [hf] at hv
  have hm := List.mem_of_find?_eq_some hf
  have hp := List.find?_some hf
  simp only [Bool.and_eq_true] at hp
  have e1 := beq_iff.1 hp.1
  have e2 := sameL_eq _ _ hp.2
  have e3 : e.2.2 = v := Option.some.inj hv
  subst e1; subst e2; subst e3
  exact h e hm
theorem open_callsO {Hn : Type} {enc : TypeId × Value → Hn} {base : Nat} {W : World} (hpos : 0 < W.heap.size) {Q : Orc} {f : FuncId} (hzp : zerosPlain P = true) (hm : P.follows .mixedOrders = true) (hn : namesOK P = true) (hQ : ∀ f args v,Q f args = some v → ClosedRet P f args v) {fn : Func} (hfn : P.funcs[f]? = some fn) (hb : fn.body.isSome = true)
 {ts : List TypeId} {args : Array Value} {ds : List (DataW Hn)} {ps : List MemPlace} {n b0 : Nat} (hok : ∀ t ∈ ts,okT P n t = true)
 (hw : ∀ (j : Nat) t v,ts[j]? = some t → args.toList[j]? = some v → Value.okWide P W .any b0 t v) (ht : DataW.TrodAll enc P W base (fun _ => true) true ts args.toList ds ps)
 (run : ∀ (h : H) (as : List Value),Start h → TyAll P h ts as → ∃ n h',callO P 0 Q n f as h = some (.bool true,h')) :
 Calls P f args W fun e W' => e = .returned (.bool true) ∧ Below W.heap.size W W' := by
 obtain ⟨μ,h,as,r,_,l,ty⟩ := args_open (NG := 0) hpos ts args.toList ds ps hok hw ht _ _ (RO.nothing W)
 obtain ⟨n,h',hr⟩ := run h as ⟨r.rh.wf,r.ro⟩ ty
 obtain ⟨_,hc,_⟩ := callO_sound (NG := 0) hzp hm hn hQ n f as _ _ _ hr
 obtain ⟨fn',hfn',_,⟨_,hc⟩ | ⟨hb',_⟩⟩ := hc (names_fn hn hfn).2
 case inr => rw [hfn] at hfn'; simp only [Option.some.injEq] at hfn'; subst hfn'; rw [hb'] at hb; simp at hb
 refine (hc μ W args.toList r.rh (fun id hid _ => r.fr id hid) l).mono fun e w' ⟨cv,μ',he,hst,hv⟩ => ?_
 have := hv.bool_inv
 subst this
 exact ⟨he,hst.below r.ro⟩
end Go.AM
