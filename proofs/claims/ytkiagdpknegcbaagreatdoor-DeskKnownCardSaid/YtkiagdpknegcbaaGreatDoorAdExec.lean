/-
  An abstract machine for the model: regions, code, calls (definitions), and that a region in the text's order is what the model does.
-/
import Derived.Test.YtkiagdpknegcbaaGreatDoorAdSound7
import Derived.OrdersIn
import Derived.LoopNIn
namespace Go.AM
open Go

def putA (fr : T Value) (dst : Option Tmp) (v : Option Value) : T Value :=
  match dst with
  | some d => fr.set d v
  | none => fr

def dstOK (nt : Nat) (ops : Array Oper) : Bool := ops.toList.all fun o => match o.dst with | some d => Nat.blt d nt | none => true

/-- Operations in the text's order. -/
def runOps {β : Type} (P : Program) (C : CF) (NG : Nat) (ops : Array Oper) : List Oper → T Value → H → (T Value → H → Option β) → Option β
  | [], fr, h, K => K fr h
  | o :: rest, fr, h, K =>
    match o.guard with
    | none => aop P C (evalA NG fr h) h o (typedK P o fun rv h' => runOps P C NG ops rest (putA fr o.dst rv) h' K)
    | some (j, want) =>
      match (ops[j]?).bind (·.dst) with
      | none => none
      | some d =>
        match fr.get d with
        | some (.bool b) =>
          bif b then
            (bif want then aop P C (evalA NG (fr.set d (some (.bool true))) h) h o (typedK P o fun rv h' => runOps P C NG ops rest (putA (fr.set d (some (.bool true))) o.dst rv) h' K)
             else runOps P C NG ops rest (putA (fr.set d (some (.bool true))) o.dst (some undef)) h K)
          else
            (bif want then runOps P C NG ops rest (putA (fr.set d (some (.bool false))) o.dst (some undef)) h K
             else aop P C (evalA NG (fr.set d (some (.bool false))) h) h o (typedK P o fun rv h' => runOps P C NG ops rest (putA (fr.set d (some (.bool false))) o.dst rv) h' K))
        | some (.tuple _) => runOps P C NG ops rest (putA fr o.dst (some undef)) h K
        | _ => none

/-! Slots that are read later. -/
def addL (t : Tmp) (s : List Tmp) : List Tmp := bif s.any (Nat.beq t) then s else t :: s
def unionL (a b : List Tmp) : List Tmp := a.foldl (fun s t => addL t s) b
def tmpsOf (o : Oper) (ops : Array Oper) : List Tmp :=
  (o.op.operands.toList.filterMap fun | .tmp t => some t | _ => none) ++
  (match o.guard with
   | some (j, _) => ((ops[j]?).bind (·.dst)).toList
   | none => [])
def liveOps (ops : Array Oper) : List Oper → List Tmp → List Tmp
  | [], s => s
  | o :: r, s =>
    unionL (tmpsOf o ops) (match o.dst with
      | some d => (liveOps ops r s).filter fun t => !Nat.beq t d
      | none => liveOps ops r s)
def lookL (id : Nat) : List (Nat × List Tmp) → List Tmp
  | [] => []
  | (j, s) :: r => bif Nat.beq j id then s else lookL id r
def live (RR : List Tmp) : Code → List Tmp → List (Nat × List Tmp) → List Tmp
  | .region _ ops _, s, _ => liveOps ops ops.toList s
  | .seq a b, s, e => live RR a (live RR b s e) e
  | .cond c a b, s, e => unionL (match c with | .tmp t => [t] | _ => []) (unionL (live RR a s e) (live RR b s e))
  | .block id b, s, e => live RR b s ((id, s) :: e)
  | .loop b, _, e => live RR b [] e
  | .scope b, s, e => live RR b s e
  | .rangeFunc g _ as b, s, e => unionL (match g with | .tmp t => [t] | _ => []) (unionL (e.foldl (fun a p => unionL a p.2) (unionL RR s)) (live RR as (live RR b [] e) e))
  | .exit id, _, e => lookL id e
  | .ret, _, _ => RR
  | _, s, _ => s

def keepL (fr : T Value) : List Tmp → T Value
  | [] => .nil
  | t :: r => match fr.get t with
    | some v => (keepL fr r).set t (some v)
    | none => keepL fr r

theorem keepL_get (fr : T Value) : ∀ (s : List Tmp) (t : Tmp) (v : Value), (keepL fr s).get t = some v → fr.get t = some v
  | [], t, v, h => by simp [keepL] at h
  | u :: r, t, v, h => by
    simp only [keepL] at h
    split at h
    · rename_i x hx
      rw [T.get_set] at h
      split at h
      · rename_i e; subst e; rw [hx]; exact h
      · exact keepL_get fr r t v h
    · exact keepL_get fr r t v h

/-- lv: forget what is not read later. -/
def restrict (lv : Bool) (s : List Tmp) (fr : T Value) : T Value := bif lv then keepL fr s else fr

theorem restrict_get {lv : Bool} {s : List Tmp} {fr : T Value} {t : Tmp} {v : Value} (h : (restrict lv s fr).get t = some v) : fr.get t = some v := by
  unfold restrict at h
  cases lv with
  | false => exact h
  | true => exact keepL_get fr s t v h

/-! Frames. -/
def FR (nt : Nat) (μ : Mu) (fr : T Value) (a : Act) : Prop :=
  nt ≤ a.tmps.size ∧ ∀ (t : Tmp) (v : Value), fr.get t = some v → t < nt ∧ VR μ v (a.tmps.getD t undef)

theorem FR.mono {nt : Nat} {μ μ' : Mu} (hle : μ.le μ') {fr : T Value} {a : Act} (f : FR nt μ fr a) : FR nt μ' fr a :=
  ⟨f.1, fun t v h => ⟨(f.2 t v h).1, (f.2 t v h).2.mono hle⟩⟩

theorem FR.restrict {nt : Nat} {μ : Mu} {lv : Bool} {s : List Tmp} {fr : T Value} {a : Act} (f : FR nt μ fr a) : FR nt μ (restrict lv s fr) a :=
  ⟨f.1, fun t v h => f.2 t v (restrict_get h)⟩

theorem FR.put {nt : Nat} {μ : Mu} {fr : T Value} {a : Act} (f : FR nt μ fr a) {dst : Option Tmp} (hd : ∀ d, dst = some d → d < nt) {rv : Option Value} {cv : Value} (hv : RV μ rv cv) :
    FR nt μ (putA fr dst rv) (a.put dst cv) := by
  cases dst with
  | none => exact f
  | some d =>
    refine ⟨by simpa [Act.put] using f.1, fun t v h => ?_⟩
    simp only [putA, T.get_set] at h
    have hdn := hd d rfl
    have hds : d < a.tmps.size := Nat.lt_of_lt_of_le hdn f.1
    split at h
    · rename_i e; subst e
      subst h
      exact ⟨hdn, by simpa [Act.put, hds, RV] using hv⟩
    · rename_i e
      obtain ⟨h1, h2⟩ := f.2 t v h
      refine ⟨h1, ?_⟩
      simp only [Act.put, Array.getD_eq_getD_getElem?, Array.getElem?_setIfInBounds_ne (Ne.symm e)]
      simpa using h2

theorem FR.same {nt : Nat} {μ : Mu} {fr : T Value} {a : Act} (f : FR nt μ fr a) {d : Tmp} {v : Value} (h : fr.get d = some v) : FR nt μ (fr.set d (some v)) a :=
  ⟨f.1, fun t u hu => by
    rw [T.get_set] at hu
    split at hu
    · rename_i e; subst e; exact f.2 t u (by rw [h]; exact hu)
    · exact f.2 t u hu⟩

theorem FR.ev {NG nt : Nat} {μ : Mu} {fr : T Value} {h : H} {w : World} {a : Act} (f : FR nt μ fr a) (r : RH NG μ h w) : EvR μ (evalA NG fr h) a := by
  intro x v hv
  cases x with
  | tmp t => exact (f.2 t v hv).2
  | const u =>
    simp only [evalA] at hv
    obtain ⟨hp, hv⟩ := cond_some hv
    simp only [Option.some.injEq] at hv; subst hv
    exact VR.of_plain μ _ hp
  | global g =>
    simp only [evalA] at hv
    obtain ⟨hg, hv⟩ := cond_some hv
    simp only [Option.some.injEq] at hv; subst hv
    obtain ⟨l, hl, e1, e2⟩ := r.gl g (blt_iff.1 hg)
    have := VR.ptr (off := 0) hl
    rw [e1, e2] at this
    exact this
  | func f =>
    simp only [evalA, Option.some.injEq] at hv; subst hv
    exact .func f [] [] [] [] rfl rfl (by simp) (by simp)

theorem FR.yielded {nt : Nat} {μ : Mu} {fr : T Value} {a : Act} (f : FR nt μ fr a) {ops : Array Oper} {j : Nat} {d : Tmp} (hd : (ops[j]?).bind (·.dst) = some d) {b : Bool}
    (hb : fr.get d = some (.bool b)) : Go.yielded ops a.tmps j = some b := by
  obtain ⟨h1, h2⟩ := f.2 d _ hb
  have hlt : d < a.tmps.size := Nat.lt_of_lt_of_le h1 f.1
  have := h2.bool_inv
  have e : a.tmps[d]? = some (.bool b) := by
    rw [Array.getElem?_eq_getElem hlt]
    simp only [Array.getD_eq_getD_getElem?, Array.getElem?_eq_getElem hlt, Option.getD_some] at this
    rw [this]
  simp [Go.yielded, hd, e]

theorem FR.yielded_none {nt : Nat} {μ : Mu} {fr : T Value} {a : Act} (f : FR nt μ fr a) {ops : Array Oper} {j : Nat} {d : Tmp} (hd : (ops[j]?).bind (·.dst) = some d) {vs : Array Value}
    (hb : fr.get d = some (.tuple vs)) : Go.yielded ops a.tmps j = none := by
  obtain ⟨h1, h2⟩ := f.2 d _ hb
  have hlt : d < a.tmps.size := Nat.lt_of_lt_of_le h1 f.1
  have e : a.tmps[d]? = some (a.tmps.getD d undef) := by
    rw [Array.getElem?_eq_getElem hlt]
    simp only [Array.getD_eq_getD_getElem?, Array.getElem?_eq_getElem hlt, Option.getD_some]
  simp only [Go.yielded, hd, Option.bind_some, e]
  generalize a.tmps.getD d undef = u at h2
  cases h2; rfl

theorem undef_RV (μ : Mu) : RV μ (some undef) undef := VR.tuple [] [] rfl (by simp)

theorem dst_lt {nt : Nat} {ops : Array Oper} (hd : dstOK nt ops = true) {i : Nat} {o : Oper} (ho : ops[i]? = some o) : ∀ d, o.dst = some d → d < nt := by
  intro d hdd
  have hm : o ∈ ops.toList := by rw [Array.mem_toList_iff]; exact Array.mem_of_getElem? ho
  have := List.all_eq_true.1 hd o hm
  simp only [hdd] at this
  exact blt_iff.1 this

section
variable {P : Program} {NG nt : Nat} {C : CF}

/-- What a piece of the machine's run is good for: the statement of soundness. -/
def StepTo0 (NG nt : Nat) (μ : Mu) (h : H) (w : World) (a : Act) (fr' : T Value) (h' : H) (a' : Act) (w' : World) : Prop :=
  ∃ μ', Step NG μ h w μ' h' w' ∧ FR nt μ' fr' a' ∧ a'.defers = a.defers

theorem put_defers (a : Act) (dst : Option Tmp) (v : Value) : (a.put dst v).defers = a.defers := by cases dst <;> rfl

theorem runOps_sound {β : Type} (hzp : zerosPlain P = true) (hC : CallsOK P NG C) {ops : Array Oper} (hd : dstOK nt ops = true) {K : T Value → H → Option β} {r : β} :
    ∀ (l : List Oper) (k : Nat) (fr : T Value) (h : H), ops.toList.drop k = l → runOps P C NG ops l fr h K = some r →
      ∃ fr' h', K fr' h' = some r ∧ h.next ≤ h'.next ∧ ∀ (μ : Mu) (a : Act) (w : World), RH NG μ h w → Fresh μ h.next h'.next → FR nt μ fr a →
        ∀ (ro : Option Nat) (Q : Exit → Act → World → Prop), (∀ a' w', StepTo0 NG nt μ h w a fr' h' a' w' → Q .normal a' w') → wpOpsIn (Fr ro) 0 P ops Q (List.range' k (ops.size - k)) a w := by
  intro l
  induction l with
  | nil =>
    intro k fr h hl hr
    refine ⟨fr, h, hr, Nat.le_refl _, fun μ a w rh _ f ro Q hQ => ?_⟩
    have hk : ops.size ≤ k := by
      have := congrArg List.length hl
      simp at this; omega
    rw [show ops.size - k = 0 by omega]
    exact hQ a w ⟨μ, Step.refl rh, f, rfl⟩
  | cons o rest ih =>
    intro k fr h hl hr
    have hlt : k < ops.size := by
      have := congrArg List.length hl
      simp at this; omega
    have ho : ops[k]? = some o := by
      have : (ops.toList.drop k)[0]? = some o := by rw [hl]; rfl
      simpa using this
    have hrest : ops.toList.drop (k + 1) = rest := by
      have : (ops.toList.drop k).drop 1 = rest := by rw [hl]; rfl
      rw [List.drop_drop] at this; exact this
    have hdo := dst_lt hd ho
    have hrange : List.range' k (ops.size - k) = k :: List.range' (k + 1) (ops.size - (k + 1)) := by
      rw [show ops.size - k = (ops.size - (k + 1)) + 1 by omega, List.range'_succ]
    -- an operation that runs
    have run : ∀ (fr1 : T Value), (∀ μ a, FR nt μ fr a → FR nt μ fr1 a) → (∀ μ a, FR nt μ fr a → Region.wanted o (yielded ops a.tmps) = true) →
        (aop P C (evalA NG fr1 h) h o (typedK P o fun rv h' => runOps P C NG ops rest (putA fr1 o.dst rv) h' K)) = some r →
        ∃ fr' h', K fr' h' = some r ∧ h.next ≤ h'.next ∧ ∀ (μ : Mu) (a : Act) (w : World), RH NG μ h w → Fresh μ h.next h'.next → FR nt μ fr a →
        ∀ (ro : Option Nat) (Q : Exit → Act → World → Prop), (∀ a' w', StepTo0 NG nt μ h w a fr' h' a' w' → Q .normal a' w') → wpOpsIn (Fr ro) 0 P ops Q (List.range' k (ops.size - k)) a w := by
      intro fr1 hfr hw hr
      obtain ⟨rv, h1, hk, hle, hs⟩ := aop_sound hzp hC hr
      have hk := typedK_some hk
      obtain ⟨fr', h', hK, hle', hs'⟩ := ih (k + 1) _ h1 hrest hk
      refine ⟨fr', h', hK, Nat.le_trans hle hle', fun μ a w rh hf f ro Q hQ => ?_⟩
      rw [hrange, wpOpsIn_cons]
      unfold wpOpIn
      simp only [ho, hw μ a f, if_true]
      refine hs μ a w rh (fun id h1 h2 => hf id h1 (Nat.lt_of_lt_of_le h2 hle')) ((hfr μ a f).ev rh) ro _ _ fun μ1 w1 cv hst hv => ?_
      refine hs' μ1 _ w1 hst.rh (fun id h2 h3 => ?_) (((hfr μ a f).mono hst.le).put hdo hv) ro Q fun a' w' ⟨μ2, hst2, f2, e2⟩ => hQ a' w' ⟨μ2, hst.trans hst2, f2, e2.trans (put_defers _ _ _)⟩
      rw [hst.out id h2]
      exact hf id (Nat.le_trans hle h2) h3
    -- one that is passed over
    have pass : ∀ (fr1 : T Value), (∀ μ a, FR nt μ fr a → FR nt μ fr1 a) → (∀ μ a, FR nt μ fr a → Region.wanted o (yielded ops a.tmps) = false) →
        runOps P C NG ops rest (putA fr1 o.dst (some undef)) h K = some r →
        ∃ fr' h', K fr' h' = some r ∧ h.next ≤ h'.next ∧ ∀ (μ : Mu) (a : Act) (w : World), RH NG μ h w → Fresh μ h.next h'.next → FR nt μ fr a →
        ∀ (ro : Option Nat) (Q : Exit → Act → World → Prop), (∀ a' w', StepTo0 NG nt μ h w a fr' h' a' w' → Q .normal a' w') → wpOpsIn (Fr ro) 0 P ops Q (List.range' k (ops.size - k)) a w := by
      intro fr1 hfr hw hr
      obtain ⟨fr', h', hK, hle', hs'⟩ := ih (k + 1) _ h hrest hr
      refine ⟨fr', h', hK, hle', fun μ a w rh hf f ro Q hQ => ?_⟩
      rw [hrange, wpOpsIn_cons]
      unfold wpOpIn
      simp only [ho, hw μ a f, Bool.false_eq_true, if_false]
      exact ⟨fun _ _ => trivial, hs' μ _ w rh hf ((hfr μ a f).put hdo (undef_RV μ)) ro Q fun a' w' ⟨μ2, hst2, f2, e2⟩ => hQ a' w' ⟨μ2, hst2, f2, e2.trans (put_defers _ _ _)⟩⟩
    simp only [runOps] at hr
    split at hr
    · rename_i hg
      exact run fr (fun _ _ f => f) (fun _ _ _ => by simp [Region.wanted, hg]) hr
    · rename_i j want hg
      split at hr
      · simp at hr
      · rename_i d hdj
        split at hr
        · rename_i b hb
          have hy : ∀ μ a, FR nt μ fr a → Region.wanted o (yielded ops a.tmps) = (b == want) := fun μ a f => by
            simp only [Region.wanted, hg, f.yielded hdj hb]
            cases b <;> cases want <;> rfl
          cases b with
          | true =>
            simp only [cond_true] at hr
            cases want with
            | true => exact run _ (fun μ a f => f.same hb) (fun μ a f => (hy μ a f).trans rfl) hr
            | false => exact pass _ (fun μ a f => f.same hb) (fun μ a f => (hy μ a f).trans rfl) hr
          | false =>
            simp only [cond_false] at hr
            cases want with
            | true => exact pass _ (fun μ a f => f.same hb) (fun μ a f => (hy μ a f).trans rfl) hr
            | false => exact run _ (fun μ a f => f.same hb) (fun μ a f => (hy μ a f).trans rfl) hr
        · rename_i vs hb
          exact pass fr (fun _ _ f => f) (fun μ a f => by simp [Region.wanted, hg, f.yielded_none hdj hb]) hr
        · simp at hr
end
end Go.AM
