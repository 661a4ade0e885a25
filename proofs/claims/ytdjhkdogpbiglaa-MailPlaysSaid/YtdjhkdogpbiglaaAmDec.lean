/-
  An abstract machine for the model: what the printed forms of functions are made of, and the lemmas that join them.
-/
import Derived.Test.YtdjhkdogpbiglaaAmK
import Derived.KernelRfl
namespace Go.AM
open Go

/-- A frame, written out. -/
def fs : List (Nat × Value) → T Value
  | [] => .nil
  | (t, v) :: r => (fs r).set t (some v)

/-- One behind the other. -/
def bnd {α β : Type} (o : Option α) (f : α → Option β) : Option β :=
  match o with
  | some a => f a
  | none => none
def bnd2 {α γ β : Type} (o : Option (α × γ)) (f : α → γ → Option β) : Option β :=
  match o with
  | some (a, c) => f a c
  | none => none
@[simp] theorem bnd_some {α β : Type} (a : α) (f : α → Option β) : bnd (some a) f = f a := (rfl)
@[simp] theorem bnd2_some {α γ β : Type} (a : α) (c : γ) (f : α → γ → Option β) : bnd2 (some (a, c)) f = f a c := (rfl)

/-- Does a reading come to the same? -/
def chk (o : Option Value) (v : Value) : Bool :=
  match o with
  | some u => same u v
  | none => false

/-- One result of a call. -/
def resC (o : Option Value) (r : Option (List Value)) : Option (List Value) :=
  match o with
  | some v => (match r with | some vs => some (v :: vs) | none => none)
  | none => none

def cL : Code → Code
  | .seq a _ => a
  | .cond _ a _ => a
  | .block _ b => b
  | .loop b => b
  | .rangeFunc _ _ a _ => a
  | c => c
def cR : Code → Code
  | .seq _ b => b
  | .cond _ _ b => b
  | .rangeFunc _ _ _ b => b
  | c => c

section
variable {β : Type} {P : Program} {C : CF} {L NG nt : Nat} {RR out out1 : List Tmp} {env : List (Nat × List Tmp)} {fr : T Value} {h : H} {K : Ex → T Value → H → Option β}

theorem seqK_n (n : T Value → H → Option β) (fr : T Value) (h : H) : seqK .normal n K fr h = n fr h := (rfl)
theorem seqK_x (j : Nat) (n : T Value → H → Option β) (fr : T Value) (h : H) : seqK (.exit j) n K fr h = K (.exit j) fr h := (rfl)
theorem seqK_r (n : T Value → H → Option β) (fr : T Value) (h : H) : seqK .ret n K fr h = K .ret fr h := (rfl)

theorem execK_seq {c a b : Code} (hc : c = .seq a b) (ho : live RR b out env = out1) :
    execK P C L NG nt RR c out env fr h K = execK P C L NG nt RR a out1 env fr h fun ex fr' h' => seqK ex (fun fr h => execK P C L NG nt RR b out env fr h K) K fr' h' := by
  subst hc; subst ho; rfl

theorem execK_block {c b : Code} {id : Nat} (hc : c = .block id b) :
    execK P C L NG nt RR c out env fr h K = execK P C L NG nt RR b out ((id, out) :: env) fr h fun ex fr' h' => blockK id ex K fr' h' := by
  subst hc; rfl

theorem execK_cond {c a b : Code} {x : Operand} {v : Value} (hc : c = .cond x a b) (hv : evalA NG fr h x = some v) :
    execK P C L NG nt RR c out env fr h K = condV v (execK P C L NG nt RR a out env fr h K) (execK P C L NG nt RR b out env fr h K) := by
  subst hc; simp only [execK, hv, Option.bind_some]

theorem execK_loop {c b : Code} {fr1 : T Value} (hc : c = .loop b) (hS : live RR b [] env = out1) (hf : keepL fr out1 = fr1) :
    execK P C L NG nt RR c out env fr h K = loopK (fun fr h K => execK P C L NG nt RR b out1 env fr h K) L fr1 h K := by
  subst hc; subst hS; subst hf; rfl

theorem execK_range {c assign body : Code} {g : Operand} {gv : Value} {ps : List Tmp} (hc : c = .rangeFunc g ⟨ps⟩ assign body) (hg : evalA NG fr h g = some gv) :
    execK P C L NG nt RR c out env fr h K = (bif isFn P gv then (callV C gv [.func (.yield h.next) #[] #[]] (h.push (.loop nt fr ps assign body .ready))).bind fun (_, h2) =>
      rangeK h.next h2 (fun h => K .normal (keepL fr out) h) (fun h => K .ret (keepL fr RR) h) (exL (env.map fun p => (p.1, fun h => K (.exit p.1) (keepL fr p.2) h))) else none) := by
  subst hc
  show (evalA NG fr h g).bind _ = _
  rw [hg]; rfl

theorem callB_eq {O : List FuncId} {f : Nat} (hO : O.any (Nat.beq f) = false) {fn : Func} {c : Code} {args : List Value} {n : Nat} (hf : P.funcs[f]? = some fn) (hb : fn.body = some c) (hnt : fn.ntmps = nt) (hrr : resRegs fn = RR) (hl : Nat.ble args.length nt = true) {fr : T Value}
    (ha : argsA 0 args = fr) :
    callB P NG O (n + 1) f args h = execK P (callB P NG O n) n NG nt RR c RR [] fr h (resK P fn fun v h => some (v, h)) := by
  subst hnt; subst hrr; subst ha
  simp only [callB, hO, Bool.false_and, cond_false, hf, hb, callBodyK, hl, cond_true]

end
end Go.AM
