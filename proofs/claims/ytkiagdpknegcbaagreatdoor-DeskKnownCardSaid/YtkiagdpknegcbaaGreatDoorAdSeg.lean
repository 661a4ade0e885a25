/-
  An abstract machine for the model: a closed run in pieces: between two pieces all may be forgotten but what is named.
-/
import Derived.Test.YtkiagdpknegcbaaGreatDoorAdF2
import Derived.KernelRfl
namespace Go.AM
open Go Go.RowKit

def cL : Code → Code
  | .seq a _ => a
  | .cond _ a _ => a
  | .block _ b => b
  | .loop b => b
  | .scope b => b
  | .rangeFunc _ _ a _ => a
  | c => c
def cR : Code → Code
  | .seq _ b => b
  | .cond _ _ b => b
  | .rangeFunc _ _ _ b => b
  | c => c

/-- What is known between two pieces of a closed run that began at w0. -/
structure Inv0 (NG : Nat) (w0 : World) (μ : Mu) (h : H) (w : World) : Prop where
  rh : RH NG μ h w
  fresh : ∀ id, h.next ≤ id → μ id = none
  own : ∀ id k l, h.get id = some k → k.owned = true → μ id = some l → w0.heap.size ≤ l.blk
  below : Below w0.heap.size w0 w

section
variable {P : Program} {NG nt : Nat} {w0 : World}

theorem Inv0.step {μ μ' : Mu} {h h' : H} {w w' : World} (i : Inv0 NG w0 μ h w) (s : Step NG μ h w μ' h' w') : Inv0 NG w0 μ' h' w' where
  rh := s.rh
  fresh := fun id hid => by rw [s.out id hid]; exact i.fresh id (Nat.le_trans s.next hid)
  own := fun id k l hk ho hl => by
    rcases s.src id k l hk ho hl with h1 | ⟨id0, k0, l0, e1, e2, e3, e4⟩
    · exact Nat.le_trans i.below.size h1
    · rw [← e4]; exact i.own id0 k0 l0 e1 e2 e3
  below := i.below.trans ⟨s.os, s.tape, s.output, s.size, fun k hk => s.frame k (Nat.lt_of_lt_of_le hk i.below.size) fun id c l hc ho hl e => by
    have := i.own id c l hc ho hl; omega⟩

/-- A heap that says less. -/
structure SubH (h' h : H) : Prop where
  get : ∀ id b, h'.get id = some b → h.get id = some b
  next : h.next ≤ h'.next

theorem Inv0.sub {μ : Mu} {h h' : H} {w : World} (i : Inv0 NG w0 μ h w) (s : SubH h' h) : Inv0 NG w0 μ h' w where
  rh := ⟨Nat.le_trans i.rh.ng s.next, fun id b hb => Nat.lt_of_lt_of_le (i.rh.wf id b (s.get id b hb)) s.next, fun id b l hb hl => i.rh.br id b l (s.get id b hb) hl,
    fun id b l id' b' l' hb ho hl hb' hl' hne => i.rh.inj id b l id' b' l' (s.get id b hb) ho hl (s.get id' b' hb') hl' hne, i.rh.bd, i.rh.gl⟩
  fresh := fun id hid => i.fresh id (Nat.le_trans s.next hid)
  own := fun id k l hk ho hl => i.own id k l (s.get id k hk) ho hl
  below := i.below

/-- What a piece does. -/
def ClM (NG nt : Nat) (w0 : World) (fr' : T Value) (h' : H) (μ μ' : Mu) (a : Act) (w : World) (a' : Act) (w' : World) : Prop :=
  Inv0 NG w0 μ' h' w' ∧ FR nt μ' fr' a' ∧ μ.le μ' ∧ w.heap.size ≤ w'.heap.size ∧ (∀ (b : Nat) (d : Option (List Deferred)), w.heap[b]? = some (.deferred d) → w'.heap[b]? = some (.deferred d)) ∧ Marks a.defers a'.defers w.heap.size w'
def ClP (NG nt : Nat) (w0 : World) (ex : Ex) (fr' : T Value) (h' : H) (μ : Mu) (a : Act) (w : World) (e : Exit) (a' : Act) (w' : World) : Prop :=
  ExR ex e ∧ ∃ μ', ClM NG nt w0 fr' h' μ μ' a w a' w'
def Cl (P : Program) (NG nt : Nat) (w0 : World) (c : Code) (fr : T Value) (h : H) (ex : Ex) (fr' : T Value) (h' : H) : Prop :=
  ∀ μ a w, Inv0 NG w0 μ h w → FR nt μ fr a → c.wpIn (Fr none) 0 P (ClP NG nt w0 ex fr' h' μ a w) a w
def ClR (P : Program) (NG nt : Nat) (w0 : World) (m : Nat) (c : Code) (fr : T Value) (h : H) (ex : Ex) (fr' : T Value) (h' : H) : Prop :=
  ∀ μ a w, Inv0 NG w0 μ h w → FR nt μ fr a → Code.roundsIn (Fr none) 0 P c (ClP NG nt w0 ex fr' h' μ a w) m a w

theorem cl_codes {c : Code} {fr fr' : T Value} {h h' : H} {ex : Ex} (hc : Codes P NG nt c fr h ex fr' h') : Cl P NG nt w0 c fr h ex fr' h' := fun μ a w i f =>
  wpIn_mono (hc.2 μ a w i.rh (fun id h1 _ => i.fresh id h1) f none (.inl rfl)) fun _ _ _ ⟨he, μ', st, f', m⟩ =>
    ⟨he, μ', i.step st, f', st.le, st.size, fun _ _ hb => st.deferred i.rh hb, m⟩

theorem cl_sub {c : Code} {fr fr' fr2 : T Value} {h h' h2 : H} {ex : Ex} (hc : Cl P NG nt w0 c fr h ex fr' h') (hf : ∀ t v, fr2.get t = some v → fr'.get t = some v) (hs : SubH h2 h') : Cl P NG nt w0 c fr h ex fr2 h2 := fun μ a w i f =>
  wpIn_mono (hc μ a w i f) fun _ _ _ ⟨he, μ', i', f', r⟩ => ⟨he, μ', i'.sub hs, ⟨f'.1, fun t v hv => f'.2 t v (hf t v hv)⟩, r⟩

theorem ClP.trans {ex2 : Ex} {fr1 fr2 : T Value} {h1 h2 : H} {μ μ1 : Mu} {a a1 a2 : Act} {w w1 w2 : World} {e2 : Exit} (x : ClM NG nt w0 fr1 h1 μ μ1 a w a1 w1) (y : ClP NG nt w0 ex2 fr2 h2 μ1 a1 w1 e2 a2 w2) : ClP NG nt w0 ex2 fr2 h2 μ a w e2 a2 w2 := by
  obtain ⟨i1, f1, l1, s1, d1, ms1, m1, n1, g1⟩ := x
  obtain ⟨he, μ2, i2, f2, l2, s2, d2, ms2, m2, n2, g2⟩ := y
  refine ⟨he, μ2, i2, f2, fun id l hl => l2 id l (l1 id l hl), Nat.le_trans s1 s2, fun b d hb => d2 b d (d1 b d hb), ms2 ++ ms1, by rw [m2, m1]; simp, ?_, fun r hr => ?_⟩
  · rw [List.nodup_append]
    refine ⟨n2, n1, fun x hx y hy hxy => ?_⟩
    subst hxy
    have h1 := (g2 x hx).1
    have h2 := (Array.getElem?_eq_some_iff.1 (g1 x hy).2).1
    omega
  · rcases List.mem_append.1 hr with hr | hr
    · exact ⟨Nat.le_trans s1 (g2 r hr).1, (g2 r hr).2⟩
    · exact ⟨(g1 r hr).1, d2 _ _ (g1 r hr).2⟩

theorem cl_seq {c d : Code} {fr fr1 fr2 : T Value} {h h1 h2 : H} {ex : Ex} (x : Cl P NG nt w0 c fr h .normal fr1 h1) (y : Cl P NG nt w0 d fr1 h1 ex fr2 h2) : Cl P NG nt w0 (.seq c d) fr h ex fr2 h2 := fun μ a w i f =>
  wpIn_seq (wpIn_mono (x μ a w i f) fun e a1 w1 hp => by
    cases e with
    | normal =>
      obtain ⟨_, μ1, m1⟩ := hp
      exact wpIn_mono (y μ1 a1 w1 m1.1 m1.2.1) fun _ _ _ hq => ClP.trans m1 hq
    | _ => exact hp.1.elim)

theorem cl_seq_out {c d : Code} {fr fr1 : T Value} {h h1 : H} {ex : Ex} (x : Cl P NG nt w0 c fr h ex fr1 h1) (hn : ex ≠ .normal) : Cl P NG nt w0 (.seq c d) fr h ex fr1 h1 := fun μ a w i f =>
  wpIn_seq (wpIn_mono (x μ a w i f) fun e a1 w1 hp => by
    cases e with
    | normal => cases ex <;> first | exact absurd rfl hn | exact hp.1.elim
    | _ => exact hp)

theorem cl_cond_t {x : Operand} {c d : Code} {fr fr1 : T Value} {h h1 : H} {ex : Ex} (hx : evalA NG fr h x = some (.bool true)) (y : Cl P NG nt w0 c fr h ex fr1 h1) : Cl P NG nt w0 (.cond x c d) fr h ex fr1 h1 := fun μ a w i f =>
  wpIn_cond_true ((f.ev i.rh x _ hx).bool_inv) (y μ a w i f)
theorem cl_cond_f {x : Operand} {c d : Code} {fr fr1 : T Value} {h h1 : H} {ex : Ex} (hx : evalA NG fr h x = some (.bool false)) (y : Cl P NG nt w0 d fr h ex fr1 h1) : Cl P NG nt w0 (.cond x c d) fr h ex fr1 h1 := fun μ a w i f =>
  wpIn_cond_false ((f.ev i.rh x _ hx).bool_inv) (y μ a w i f)

theorem cl_block {id : Nat} {c : Code} {fr fr1 : T Value} {h h1 : H} (y : Cl P NG nt w0 c fr h .normal fr1 h1) : Cl P NG nt w0 (.block id c) fr h .normal fr1 h1 := fun μ a w i f =>
  wpIn_block (wpIn_mono (y μ a w i f) fun e a1 w1 hp => by
    cases e with
    | normal => exact hp
    | _ => exact hp.1.elim)
theorem cl_block_exit {id : Nat} {c : Code} {fr fr1 : T Value} {h h1 : H} (y : Cl P NG nt w0 c fr h (.exit id) fr1 h1) : Cl P NG nt w0 (.block id c) fr h .normal fr1 h1 := fun μ a w i f =>
  wpIn_block (wpIn_mono (y μ a w i f) fun e a1 w1 hp => by
    cases e with
    | exit k =>
      have hk : id = k := hp.1
      simp only [Exit.inBlock, ← hk, if_true]
      exact ⟨trivial, hp.2⟩
    | _ => exact hp.1.elim)
theorem cl_block_other {id j : Nat} {c : Code} {fr fr1 : T Value} {h h1 : H} (y : Cl P NG nt w0 c fr h (.exit j) fr1 h1) (hj : Nat.beq j id = false) : Cl P NG nt w0 (.block id c) fr h (.exit j) fr1 h1 := fun μ a w i f =>
  wpIn_block (wpIn_mono (y μ a w i f) fun e a1 w1 hp => by
    cases e with
    | exit k =>
      have hk : j = k := hp.1
      have hne : ¬ k = id := fun e => by rw [hk, e] at hj; simp at hj
      simp only [Exit.inBlock, hne, if_false]
      exact hp
    | _ => exact hp.1.elim)
theorem cl_block_ret {id : Nat} {c : Code} {fr fr1 : T Value} {h h1 : H} (y : Cl P NG nt w0 c fr h .ret fr1 h1) : Cl P NG nt w0 (.block id c) fr h .ret fr1 h1 := fun μ a w i f =>
  wpIn_block (wpIn_mono (y μ a w i f) fun e a1 w1 hp => by
    cases e with
    | ret => exact hp
    | _ => exact hp.1.elim)

theorem roundsIn_mono {c : Code} {Q Q' : Exit → Act → World → Prop} (hq : ∀ e a w, Q e a w → Q' e a w) : ∀ (m : Nat) (a : Act) (w : World), Code.roundsIn (Fr none) 0 P c Q m a w → Code.roundsIn (Fr none) 0 P c Q' m a w
  | 0, _, _, h => h
  | m + 1, a, w, h => by
    rw [roundsIn_succ] at h ⊢
    refine wpIn_mono h fun e a1 w1 h1 => ?_
    cases e with
    | normal => exact roundsIn_mono hq m _ _ h1
    | _ => exact hq _ _ _ h1

theorem clr_step {m : Nat} {c : Code} {fr fr1 fr2 : T Value} {h h1 h2 : H} {ex : Ex} (x : Cl P NG nt w0 c fr h .normal fr1 h1) (y : ClR P NG nt w0 m c fr1 h1 ex fr2 h2) : ClR P NG nt w0 (m + 1) c fr h ex fr2 h2 := fun μ a w i f => by
  rw [roundsIn_succ]
  refine wpIn_mono (x μ a w i f) fun e a1 w1 hp => ?_
  cases e with
  | normal =>
    obtain ⟨_, μ1, m1⟩ := hp
    exact roundsIn_mono (fun _ _ _ hq => ClP.trans m1 hq) m a1 w1 (y μ1 a1 w1 m1.1 m1.2.1)
  | _ => exact hp.1.elim
theorem clr_end {c : Code} {fr fr1 : T Value} {h h1 : H} {ex : Ex} (x : Cl P NG nt w0 c fr h ex fr1 h1) (hn : ex ≠ .normal) : ClR P NG nt w0 1 c fr h ex fr1 h1 := fun μ a w i f => by
  rw [roundsIn_succ]
  refine wpIn_mono (x μ a w i f) fun e a1 w1 hp => ?_
  cases e with
  | normal => cases ex <;> first | exact absurd rfl hn | exact hp.1.elim
  | _ => exact hp
theorem cl_loop {m : Nat} {c : Code} {fr fr1 : T Value} {h h1 : H} {ex : Ex} (x : ClR P NG nt w0 m c fr h ex fr1 h1) : Cl P NG nt w0 (.loop c) fr h ex fr1 h1 := fun μ a w i f => wpIn_loop_rounds m (x μ a w i f)

/-! A region in parts. -/
def opsOf : Code → Array Oper
  | .region _ ops _ => ops
  | _ => #[]
def ClO (P : Program) (NG nt : Nat) (w0 : World) (ops : Array Oper) (k m : Nat) (fr : T Value) (h : H) (fr' : T Value) (h' : H) : Prop :=
  ∀ μ a w, Inv0 NG w0 μ h w → FR nt μ fr a → ∀ (Q : Exit → Act → World → Prop),
    (∀ a' w', (∃ μ', Inv0 NG w0 μ' h' w' ∧ FR nt μ' fr' a' ∧ μ.le μ' ∧ w.heap.size ≤ w'.heap.size ∧ (∀ (b : Nat) (d : Option (List Deferred)), w.heap[b]? = some (.deferred d) → w'.heap[b]? = some (.deferred d)) ∧ a'.defers = a.defers) →
      wpOpsIn (Fr none) 0 P ops Q (List.range' m (ops.size - m)) a' w') → wpOpsIn (Fr none) 0 P ops Q (List.range' k (ops.size - k)) a w

theorem clo_trans {ops : Array Oper} {k m n : Nat} {fr fr1 fr2 : T Value} {h h1 h2 : H} (x : ClO P NG nt w0 ops k m fr h fr1 h1) (y : ClO P NG nt w0 ops m n fr1 h1 fr2 h2) : ClO P NG nt w0 ops k n fr h fr2 h2 := fun μ a w i f Q hQ =>
  x μ a w i f Q fun a1 w1 ⟨μ1, i1, f1, l1, s1, d1, e1⟩ => y μ1 a1 w1 i1 f1 Q fun a2 w2 ⟨μ2, i2, f2, l2, s2, d2, e2⟩ => hQ a2 w2 ⟨μ2, i2, f2, fun id l hl => l2 id l (l1 id l hl), Nat.le_trans s1 s2, fun b d hb => d2 b d (d1 b d hb), e2.trans e1⟩

theorem clo_region {id : Nat} {ops : Array Oper} {n : Nat} {fr fr1 : T Value} {h h1 : H} (hn : ops.size = n) (x : ClO P NG nt w0 ops 0 n fr h fr1 h1) : Cl P NG nt w0 (.region id ops false) fr h .normal fr1 h1 := fun μ a w i f => by
  subst hn
  refine wpIn_region ?_
  have := x μ a w i f (ClP NG nt w0 .normal fr1 h1 μ a w) fun a' w' ⟨μ', i', f', l', s', d', e'⟩ => by
    rw [Nat.sub_self]
    exact ⟨trivial, μ', i', f', l', s', d', by rw [e']; exact Marks.refl _ _ _⟩
  rw [Nat.sub_zero, ← List.range_eq_range'] at this
  exact this

theorem clo_sub {ops : Array Oper} {k m : Nat} {fr fr' fr2 : T Value} {h h' h2 : H} (hc : ClO P NG nt w0 ops k m fr h fr' h') (hf : ∀ t v, fr2.get t = some v → fr'.get t = some v) (hs : SubH h2 h') : ClO P NG nt w0 ops k m fr h fr2 h2 := fun μ a w i f Q hQ =>
  hc μ a w i f Q fun a' w' ⟨μ', i', f', r⟩ => hQ a' w' ⟨μ', i'.sub hs, ⟨f'.1, fun t v hv => f'.2 t v (hf t v hv)⟩, r⟩

theorem clo_run {C : CF} (hzp : zerosPlain P = true) (hC : CallsOK P NG C) {ops : Array Oper} (hd : dstOK nt ops = true) {k m : Nat} (hk : k ≤ m) (hm : m ≤ ops.size) {fr fr' : T Value} {h h' : H}
    (hr : runOps P C NG ops ((ops.toList.take m).drop k) fr h (fun fr h => some (Ex.normal, fr, h)) = some (Ex.normal, fr', h')) : ClO P NG nt w0 ops k m fr h fr' h' := by
  obtain ⟨fr1, h1, he, hle, hs⟩ := runOps_take hzp hC hd hm _ k fr h hk rfl hr
  simp only [Option.some.injEq, Prod.mk.injEq, true_and] at he
  obtain ⟨rfl, rfl⟩ := he
  exact fun μ a w i f Q hQ => hs μ a w i.rh (fun id h1 _ => i.fresh id h1) f none Q fun a' w' ⟨μ', st, f', d⟩ => hQ a' w' ⟨μ', i.step st, f', st.le, st.size, fun _ _ hb => st.deferred i.rh hb, d⟩

/-! A call whose body goes in pieces. -/
/-- How a body comes to its end. -/
theorem cl_leaves {fn : Func} {fr' : T Value} {h' : H} {μ : Mu} {us : List Value} (hres : resA P fr' h' fn.results.toList = some us) {tmps : Array Value} {w : World} {R : Ending → World → Prop}
    (hR : ∀ w' v, Inv0 NG w0 μ h' w' → w.heap.size ≤ w'.heap.size → (∀ (b : Nat) (d : Option (List Deferred)), w.heap[b]? = some (.deferred d) → w'.heap[b]? = some (.deferred d)) → VR μ (packA us) v → R (.returned v) w') (hw : w0.heap.size ≤ w.heap.size) :
    ∀ (ms : List Nat) (a' : Act) (w' : World), Inv0 NG w0 μ h' w' → FR nt μ fr' a' → a'.tmps = tmps → w.heap.size ≤ w'.heap.size → (∀ (b : Nat) (d : Option (List Deferred)), w.heap[b]? = some (.deferred d) → w'.heap[b]? = some (.deferred d)) → ms.Nodup → (∀ r ∈ ms, w.heap.size ≤ r ∧ w'.heap[r]? = some (.deferred (some []))) →
      LeavesInM (Fr none) 0 P fn tmps R (ms.map (fun r => (⟨.collected r, #[]⟩ : Deferred))) .returning w' := by
  intro ms
  induction ms with
  | nil =>
    intro a' w' i' f' ht hs hd _ _
    obtain ⟨cv, hrun, hvr⟩ := results_sound i'.rh f' hres
    rw [ht] at hrun
    exact ⟨_, hrun, hR w' cv i' hs hd hvr⟩
  | cons r ms ih =>
    intro a' w' i' f' ht hs hd hnd hms
    obtain ⟨h1, h2⟩ := hms r (by simp)
    have hne : ∀ r' ∈ ms, r' ≠ r := fun r' hr' e => by subst e; exact (List.nodup_cons.1 hnd).1 hr'
    refine ⟨by simp, .inl ⟨r, _, rfl, run_takeDeferred h2, ?_⟩⟩
    refine ih a' (setObj w' r (.deferred none)) ⟨⟨i'.rh.ng, i'.rh.wf, fun id k l hk hl => (i'.rh.br id k l hk hl).congr (setObj_ne fun e => by subst e; exact (i'.rh.br id k l hk hl).not_deferred h2), i'.rh.inj, fun id l hl => by rw [setObj_size]; exact i'.rh.bd id l hl, i'.rh.gl⟩,
      i'.fresh, i'.own, i'.below.trans ⟨rfl, rfl, rfl, by simp, fun k hk => setObj_ne (by omega)⟩⟩ f' ht (by rw [setObj_size]; exact hs) (fun b d hb => by rw [setObj_ne (fun e => by have := (Array.getElem?_eq_some_iff.1 hb).1; omega)]; exact hd b d hb) (List.nodup_cons.1 hnd).2 fun r' hr' => ⟨(hms r' (by simp [hr'])).1, by rw [setObj_ne (hne r' hr')]; exact (hms r' (by simp [hr'])).2⟩

/-- Is an operation wanted? -/
def wantB (ops : Array Oper) (o : Oper) (fr : T Value) : Bool :=
  match o.guard with
  | none => true
  | some (j, want) => match (ops[j]?).bind (·.dst) with
    | some d => (match fr.get d with
      | some (.bool b) => b == want
      | _ => false)
    | none => false
theorem wantB_sound {ops : Array Oper} {o : Oper} {fr : T Value} (h : wantB ops o fr = true) {μ : Mu} {a : Act} (f : FR nt μ fr a) : Region.wanted o (yielded ops a.tmps) = true := by
  unfold wantB at h
  split at h
  · rename_i hg; simp [Region.wanted, hg]
  · rename_i j want hg
    split at h
    · rename_i d hd
      split at h
      · rename_i b hb
        simp only [Region.wanted, hg, f.yielded hd hb]
        cases b <;> cases want <;> simp_all
      · simp at h
    · simp at h

def opAt (ops : Array Oper) (k : Nat) : Oper :=
  match ops[k]? with
  | some o => o
  | none => ⟨none, .move (.tmp 0), 0, "", #[], none⟩
/-- What a call is of. -/
def callOf (o : Oper) : Option (Operand × Array Operand) :=
  match o.op with
  | .call c => (match c.callee with | .value f => some (f, c.args) | _ => none)
  | _ => none

theorem clo_call (hn : namesOK P = true) {ops : Array Oper} (hd : dstOK nt ops = true) {k : Nat} {o : Oper} (ho : ops[k]? = some o) {fr : T Value} {h : H} (hw : wantB ops o fr = true) {f : Operand} {args : Array Operand} (hcall : callOf o = some (f, args))
    {g : Nat} {first vs cap : List Value} (hf : evalA NG fr h f = some (.func (.func g) ⟨first⟩ ⟨cap⟩)) (hv : evalL (evalA NG fr h) args.toList = some vs) {fn : Func} (hfn : P.funcs[g]? = some fn) {c : Code} (hb : fn.body = some c) {m : Nat} (ht : fn.ntmps = m) (hlen : Nat.ble (first ++ vs ++ cap).length m = true)
    {ex : Ex} {fr1 : T Value} {h1 : H} (hex : exEnd ex = true) (hc : Cl P NG m w0 c (argsA 0 (first ++ vs ++ cap)) h ex fr1 h1) {us : List Value} (hres : resA P fr1 h1 fn.results.toList = some us) : ClO P NG nt w0 ops k (k + 1) fr h (putA fr o.dst (some (packA us))) h1 := by
  subst ht
  intro μ a w i f0 Q hQ
  have hlt : k < ops.size := (Array.getElem?_eq_some_iff.1 ho).1
  have hrange : List.range' k (ops.size - k) = k :: List.range' (k + 1) (ops.size - (k + 1)) := by
    rw [show ops.size - k = (ops.size - (k + 1)) + 1 by omega, List.range'_succ]
  rw [hrange, wpOpsIn_cons]
  unfold wpOpIn
  simp only [ho, wantB_sound hw f0, if_true]
  obtain ⟨dst, op, type, pos, after, guard⟩ := o
  unfold callOf at hcall
  split at hcall
  case h_2 => simp at hcall
  rename_i cc hop
  split at hcall
  case h_2 => simp at hcall
  rename_i fo hcc
  simp only [Option.some.injEq, Prod.mk.injEq] at hcall
  obtain ⟨rfl, rfl⟩ := hcall
  have hop : op = .call cc := hop
  subst hop
  have hev := f0.ev i.rh
  have hfv := hev fo _ hf
  have : ∃ cf cc, a.eval fo = .func (.func g) ⟨cf⟩ ⟨cc⟩ ∧ LR μ first cf ∧ LR μ cap cc := by
    generalize he : a.eval fo = u at hfv
    cases hfv with
    | func _ _ _ cs' ds' h1 h2 g1 g2 => exact ⟨cs', ds', rfl, ⟨h1, g1⟩, ⟨h2, g2⟩⟩
  obtain ⟨cf, ccp, e1, r1, r2⟩ := this
  have hl := evalL_rel hev _ _ hv
  obtain ⟨hname, hgl⟩ := names_fn hn hfn
  have e : ((⟨cf⟩ : Array Value) ++ cc.args.map a.eval ++ (⟨ccp⟩ : Array Value)) = ⟨cf ++ cc.args.toList.map a.eval ++ ccp⟩ := by apply Array.ext'; simp
  refine ⟨fun _ _ => trivial, ?_⟩
  show Oper.uponIn (Fr none) 0 P _ a _ Q ((Oper.semAt none a.eval _).run P w)
  rw [semAt_value P (execOp_call_value hcc e1 hfn hb hname w) (fun d => by simp) none]
  simp only [Oper.uponIn, e]
  refine ⟨fun h => by simp [Fr, Fence.wide] at h, ?_⟩
  refine CallsIn.mono (R := fun e w'' => ∃ v, e = .returned v ∧ wpOpsIn (Fr none) 0 P ops Q (List.range' (k + 1) (ops.size - (k + 1))) (a.put dst v) w'') (callsIn_of_wp_marks (F := Fr none) (n := 0) hfn hb trivial (wpIn_mono (hc μ _ w i (frame_args ((r1.append hl).append r2) (ble_iff.1 hlen))) fun e a' w' hp => ?_)) (fun e w'' ⟨v, he, hx⟩ => by subst he; exact hx)
  obtain ⟨he, μ', i', f', l', s', d', ms, ed, nd, gd⟩ := hp
  have fin : LeavesInM (Fr none) 0 P fn a'.tmps (fun e w'' => ∃ v, e = .returned v ∧ wpOpsIn (Fr none) 0 P ops Q (List.range' (k + 1) (ops.size - (k + 1))) (a.put dst v) w'') a'.defers .returning w' := by
    have ed' : a'.defers = ms.map (fun r => (⟨.collected r, #[]⟩ : Deferred)) := by rw [ed]; simp
    rw [ed']
    refine cl_leaves (w0 := w0) (w := w) hres (fun w'' v i'' s'' d'' hvr => ?_) (i.below.size) ms a' w' i' f' rfl s' d' nd gd
    refine ⟨v, rfl, hQ (a.put dst v) w'' ⟨μ', i'', (f0.mono l').put (dst_lt hd ho) hvr, l', s'', d'', put_defers _ _ _⟩⟩
  cases ex with
  | normal =>
    cases e with
    | normal => exact fin
    | _ => exact he.elim
  | ret =>
    cases e with
    | ret => exact fin
    | _ => exact he.elim
  | exit j => simp [exEnd] at hex

/-- A closed function, its body in pieces. -/
theorem closed_cl {f : FuncId} {fn : Func} {c : Code} (hfn : P.funcs[f]? = some fn) (hb : fn.body = some c) (ht : fn.ntmps = nt) {ex : Ex} {fr : T Value} {h : H} (hnr : ex = .normal ∨ ex = .ret)
    (w : World) (hc : Cl P 0 nt w c .nil ⟨.nil, 0⟩ ex fr h) (hres : resA P fr h fn.results.toList = some [.bool true]) : Calls P f #[] w fun e w' => e = .returned (.bool true) ∧ Below w.heap.size w w' := by
  refine (callsIn_Fr (ro := none) (n := 0)).1 (callsIn_of_wp_marks (F := Fr none) (n := 0) hfn hb trivial ?_)
  have i0 : Inv0 0 w (fun _ => none) ⟨.nil, 0⟩ w := ⟨RH.nothing w, fun _ _ => rfl, fun id k l hk => by simp [H.get] at hk, Below.refl _ _⟩
  have f0 : FR nt (fun _ => none) .nil { tmps := (#[] : Array Value) ++ Array.replicate (fn.ntmps - (#[] : Array Value).size) undef, defers := [] } := ⟨by simp [ht], fun t v hv => by simp at hv⟩
  refine wpIn_mono (hc _ _ w i0 f0) fun e a' w' ⟨he, μ', i', f', _, _, _, ms, ed, nd, gd⟩ => ?_
  have fin : LeavesInM (Fr none) 0 P fn a'.tmps (fun e w' => e = .returned (.bool true) ∧ Below w.heap.size w w') a'.defers .returning w' := by
    have ed' : a'.defers = ms.map (fun r => (⟨.collected r, #[]⟩ : Deferred)) := by rw [ed]; simp
    rw [ed']
    have key : ∀ (ms : List Nat) (w' : World), Inv0 0 w μ' h w' → ms.Nodup → (∀ r ∈ ms, w.heap.size ≤ r ∧ w'.heap[r]? = some (.deferred (some []))) →
        LeavesInM (Fr none) 0 P fn a'.tmps (fun e w' => e = .returned (.bool true) ∧ Below w.heap.size w w') (ms.map (fun r => (⟨.collected r, #[]⟩ : Deferred))) .returning w' := by
      intro ms
      induction ms with
      | nil =>
        intro w' i' _ _
        obtain ⟨cv, hrun, hvr⟩ := results_sound i'.rh f' hres
        have := hvr.bool_inv
        subst this
        exact ⟨_, hrun, rfl, i'.below⟩
      | cons r ms ih =>
        intro w' i' hnd hms
        obtain ⟨h1, h2⟩ := hms r (by simp)
        have hne : ∀ r' ∈ ms, r' ≠ r := fun r' hr' e => by subst e; exact (List.nodup_cons.1 hnd).1 hr'
        refine ⟨by simp, .inl ⟨r, _, rfl, run_takeDeferred h2, ?_⟩⟩
        refine ih (setObj w' r (.deferred none)) ⟨⟨i'.rh.ng, i'.rh.wf, fun id k l hk hl => (i'.rh.br id k l hk hl).congr (setObj_ne fun e => by subst e; exact (i'.rh.br id k l hk hl).not_deferred h2), i'.rh.inj, fun id l hl => by rw [setObj_size]; exact i'.rh.bd id l hl, i'.rh.gl⟩,
          i'.fresh, i'.own, i'.below.trans ⟨rfl, rfl, rfl, by simp, fun k hk => setObj_ne (by omega)⟩⟩ (List.nodup_cons.1 hnd).2 fun r' hr' => ⟨(hms r' (by simp [hr'])).1, by rw [setObj_ne (hne r' hr')]; exact (hms r' (by simp [hr'])).2⟩
    exact key ms w' i' nd gd
  rcases hnr with rfl | rfl
  · cases e with
    | normal => exact fin
    | _ => exact he.elim
  · cases e with
    | ret => exact fin
    | _ => exact he.elim
end

/-! A piece, run by the kernel. -/
namespace F
noncomputable section
def exB : Ex → Ex → Bool
  | .normal, .normal => true
  | .ret, .ret => true
  | .exit i, .exit j => Nat.beq i j
  | _, _ => false
theorem exB_eq {a b : Ex} (h : exB a b = true) : a = b := by
  cases a <;> cases b <;> simp_all [exB]

def vB (v : Value) (o : Option Value) : Bool := Option.rec (motive := fun _ => Bool) false (fun u => same v u) o
def subT (l : List (Nat × Value)) (fr : T Value) : Bool := l.all fun (t, v) => vB v (tget fr t)
def entB : List Ent → List Ent → Bool
  | [], [] => true
  | a :: r, b :: s => same a.key b.key && same a.val b.val && Nat.beq a.born b.born && entB r s
  | _, _ => false
theorem entB_eq : ∀ {a b : List Ent}, entB a b = true → a = b
  | [], [], _ => rfl
  | [], _ :: _, h => by simp [entB] at h
  | _ :: _, [], h => by simp [entB] at h
  | ⟨k, v, n⟩ :: r, ⟨k', v', n'⟩ :: s, h => by
    simp only [entB, Bool.and_eq_true] at h
    rw [same_eq _ _ h.1.1.1, same_eq _ _ h.1.1.2, beq_iff.1 h.1.2, entB_eq h.2]
def ownB : Option Nat → Option Nat → Bool
  | none, none => true
  | some a, some b => Nat.beq a b
  | _, _ => false
def blkB : Blk → Blk → Bool
  | .cells a o, .cells b p => sameL a b && ownB o p
  | .map a c, .map b d => entB a b && Nat.beq c d
  | _, _ => false
theorem blkB_eq {a b : Blk} (h : blkB a b = true) : a = b := by
  cases a <;> cases b <;> simp only [blkB, Bool.and_eq_true, Bool.false_eq_true] at h
  · rename_i a o b p
    obtain ⟨h1, h2⟩ := h
    rw [sameL_eq _ _ h1]
    cases o <;> cases p <;> simp_all [ownB]
  · rw [entB_eq h.1, beq_iff.1 h.2]
def bB (b : Blk) (o : Option Blk) : Bool := Option.rec (motive := fun _ => Bool) false (fun c => blkB b c) o
def subHB (l : List (Nat × Blk)) (h : H) : Bool := l.all fun (id, b) => bB b (hget h id)

/-- A frame, a heap, written down. -/
def frL (l : List (Nat × Value)) : T Value := List.rec (motive := fun _ => T Value) .nil (fun x _ ih => Prod.rec (motive := fun _ => T Value) (fun t v => tset ih t (some v)) x) l
def hL (l : List (Nat × Blk)) (n : Nat) : H := ⟨List.rec (motive := fun _ => T Blk) .nil (fun x _ ih => Prod.rec (motive := fun _ => T Blk) (fun t v => tset ih t (some v)) x) l, n⟩
theorem frL_get : ∀ (l : List (Nat × Value)) (t : Nat) (v : Value), (frL l).get t = some v → (t, v) ∈ l
  | [], t, v, h => by simp [frL] at h
  | (s, u) :: l, t, v, h => by
    have e : frL ((s, u) :: l) = tset (frL l) s (some u) := rfl
    rw [e, tset_eq, T.get_set] at h
    split at h
    · rename_i e; subst e; simp only [Option.some.injEq] at h; subst h; simp
    · exact List.mem_cons_of_mem _ (frL_get l t v h)
theorem hL_get (n : Nat) : ∀ (l : List (Nat × Blk)) (t : Nat) (v : Blk), (hL l n).get t = some v → (t, v) ∈ l
  | [], t, v, h => by simp [hL, H.get] at h
  | (s, u) :: l, t, v, h => by
    have e : (hL ((s, u) :: l) n).m = tset (hL l n).m s (some u) := rfl
    have ih := hL_get n l t v
    simp only [H.get] at h ih
    rw [e, tset_eq, T.get_set] at h
    split at h
    · rename_i e; subst e; simp only [Option.some.injEq] at h; subst h; simp
    · exact List.mem_cons_of_mem _ (ih h)

def segB (r : Out) (ex : Ex) (l : List (Nat × Value)) (hl : List (Nat × Blk)) (n : Nat) : Bool :=
  Option.rec (motive := fun _ => Bool) false (fun r => Prod.rec (motive := fun _ => Bool) (fun ex' p => Prod.rec (motive := fun _ => Bool) (fun fr' h' => exB ex' ex && subT l fr' && subHB hl h' && Nat.ble h'.next n) p) r) r

theorem segB_some {r : Out} {ex : Ex} {l : List (Nat × Value)} {hl : List (Nat × Blk)} {n : Nat} (h : segB r ex l hl n = true) :
    ∃ fr' h', r = some (ex, fr', h') ∧ (∀ t v, (frL l).get t = some v → fr'.get t = some v) ∧ SubH (hL hl n) h' := by
  cases r with
  | none => simp [segB] at h
  | some r =>
    obtain ⟨ex', fr', h'⟩ := r
    have h : (exB ex' ex && subT l fr' && subHB hl h' && Nat.ble h'.next n) = true := h
    simp only [Bool.and_eq_true, subT, subHB, List.all_eq_true] at h
    obtain ⟨⟨⟨h1, h2⟩, h3⟩, h4⟩ := h
    refine ⟨fr', h', by rw [exB_eq h1], fun t v hv => ?_, fun id b hb => ?_, Nat.le_of_ble_eq_true h4⟩
    · have := h2 _ (frL_get l t v hv)
      simp only [tget_eq, vB] at this
      cases hg : fr'.get t with
      | none => rw [hg] at this; simp at this
      | some u => rw [hg] at this; rw [same_eq v u this]
    · have := h3 _ (hL_get n hl id b hb)
      simp only [hget_eq, bB] at this
      cases hg : h'.get id with
      | none => rw [hg] at this; simp at this
      | some u => rw [hg] at this; rw [blkB_eq (a := b) (b := u) this]

theorem seg {P : Program} {NG nt n : Nat} {fs : List Nat} (hfs : drsAll P fs = true) (hzp : zerosPlain P = true) (hm : P.follows .mixedOrders = true) (hn : namesOK P = true) {L : Nat} {c : Code} {l l2 : List (Nat × Value)} {hl hl2 : List (Nat × Blk)} {k k2 : Nat} {ex : Ex}
    (h : segB (execF P (callF P NG fs n) L NG nt true c (frL l) (hL hl k)) ex l2 hl2 k2 = true) (w0 : World) : Cl P NG nt w0 c (frL l) (hL hl k) ex (frL l2) (hL hl2 k2) := by
  obtain ⟨fr', h', hr, h1, h2⟩ := segB_some h
  rw [callF_eq P NG hfs n] at hr
  rw [execF_eq P (callA P NG false n) L NG nt [] c (.inl rfl) [] [] (frL l) (hL hl k)] at hr
  exact cl_sub (cl_codes (exec_sound hzp hm (callA_sound hzp hm hn n) c _ _ _ _ _ _ _ hr)) h1 h2
theorem segO {P : Program} {NG nt n : Nat} {fs : List Nat} (hfs : drsAll P fs = true) (hzp : zerosPlain P = true) (hm : P.follows .mixedOrders = true) (hn : namesOK P = true) {ops : Array Oper} (hd : dstOK nt ops = true) {a b : Nat} (hab : (Nat.ble a b && Nat.ble b ops.size) = true) {l l2 : List (Nat × Value)} {hl hl2 : List (Nat × Blk)} {k k2 : Nat}
    (h : segB (runOpsF P (callF P NG fs n) NG ops ((ops.toList.take b).drop a) (frL l) (hL hl k) (fun fr h => some (Ex.normal, fr, h))) .normal l2 hl2 k2 = true) (w0 : World) : ClO P NG nt w0 ops a b (frL l) (hL hl k) (frL l2) (hL hl2 k2) := by
  obtain ⟨fr', h', hr, h1, h2⟩ := segB_some h
  rw [callF_eq P NG hfs n, runOpsF_eq] at hr
  simp only [Bool.and_eq_true, ble_iff] at hab
  exact clo_sub (clo_run hzp (callA_sound hzp hm hn n) hd hab.1 hab.2 hr) h1 h2
theorem segCall {P : Program} {NG nt : Nat} (hn : namesOK P = true) {ops : Array Oper} (hd : dstOK nt ops = true) {a : Nat} {o : Oper} (ho : ops[a]? = some o) {l l2 lin lx : List (Nat × Value)} {hl hl2 hlx : List (Nat × Blk)} {k k2 kx : Nat} (hw : wantB ops o (frL l) = true)
    {f : Operand} {args : Array Operand} (hcall : callOf o = some (f, args)) {g : Nat} {first vs cap : List Value} (hf : evalA NG (frL l) (hL hl k) f = some (.func (.func g) ⟨first⟩ ⟨cap⟩)) (hv : evalL (evalA NG (frL l) (hL hl k)) args.toList = some vs) {fn : Func} (hfn : P.funcs[g]? = some fn)
    {c : Code} (hb : fn.body = some c) {m : Nat} (ht : fn.ntmps = m) (hlen : Nat.ble (first ++ vs ++ cap).length m = true) (hin : argsA 0 (first ++ vs ++ cap) = frL lin) {ex : Ex} (hex : exEnd ex = true) {w0 : World} (hc : Cl P NG m w0 c (frL lin) (hL hl k) ex (frL lx) (hL hlx kx)) {us : List Value}
    (hres : resA P (frL lx) (hL hlx kx) fn.results.toList = some us) (hs : segB (some (Ex.normal, putA (frL l) o.dst (some (packA us)), hL hlx kx)) .normal l2 hl2 k2 = true) : ClO P NG nt w0 ops a (a + 1) (frL l) (hL hl k) (frL l2) (hL hl2 k2) := by
  obtain ⟨fr', h', hr, h1, h2⟩ := segB_some hs
  simp only [Option.some.injEq, Prod.mk.injEq, true_and] at hr
  obtain ⟨rfl, rfl⟩ := hr
  rw [← hin] at hc
  exact clo_sub (clo_call hn hd ho hw hcall hf hv hfn hb ht hlen hex hc hres) h1 h2
end
end F
end Go.AM
