/-
  An abstract machine for the model: loops over functions, and functions without a body: what is asked of code, and that a round and a loop meet it.
-/
import Derived.Test.YtkiagdpknegcbaaGreatDoorAdDraw
import Derived.Lib.MakeNoZero
namespace Go.AM
open Go

inductive Ex where
  | normal
  | exit (id : Nat)
  | ret

/-- Is there no loop over a function in it? -/
def noRange : Code → Bool
  | .seq a b => noRange a && noRange b
  | .cond _ a b => noRange a && noRange b
  | .block _ b => noRange b
  | .loop b => noRange b
  | .scope b => noRange b
  | .rangeFunc _ _ _ _ => false
  | _ => true

/-- What a round's frame begins with. -/
def setPs (fr : T Value) : List Tmp → List Value → T Value
  | t :: ts, v :: vs => setPs (fr.set t (some v)) ts vs
  | _, _ => fr

/-- A function without a body, by its name: 1, 2: the place of a byte; 3: how often it is there; 4: which text is ahead. -/
def extK (P : Program) (fn : Func) : Nat :=
  if fn.name = "internal/bytealg.IndexByteString" ∧ fn.origin = "" then 1
  else if fn.name = "internal/bytealg.CountString" ∧ fn.origin = "" then 3
  else if fn.name = "internal/bytealg.abigen_runtime_cmpstring" ∧ fn.origin = "" then 4
  else if fn.name = "internal/abi.NoEscape" ∧ fn.origin = "" then 5
  else if fn.name = "internal/bytealg.MakeNoZero" ∧ fn.origin = "" then (match (fn.resultTypes[0]?).bind (elemP P) with | some e => 8 + e | none => 0)
  else 0
theorem extK_inv {P : Program} {fn : Func} {k : Nat} (h : extK P fn = k) : (k = 1 ∧ fn.name = "internal/bytealg.IndexByteString" ∧ fn.origin = "") ∨ (k = 3 ∧ fn.name = "internal/bytealg.CountString" ∧ fn.origin = "") ∨ (k = 4 ∧ fn.name = "internal/bytealg.abigen_runtime_cmpstring" ∧ fn.origin = "") ∨
    (k = 5 ∧ fn.name = "internal/abi.NoEscape" ∧ fn.origin = "") ∨ (∃ t e, k = 8 + e ∧ fn.name = "internal/bytealg.MakeNoZero" ∧ fn.origin = "" ∧ fn.resultTypes[0]? = some t ∧ elemP P t = some e) ∨ k = 0 := by
  unfold extK at h
  split at h
  · rename_i h1; exact .inl ⟨h.symm, h1⟩
  · split at h
    · rename_i h1; exact .inr (.inl ⟨h.symm, h1⟩)
    · split at h
      · rename_i h1; exact .inr (.inr (.inl ⟨h.symm, h1⟩))
      · split at h
        · rename_i h1; exact .inr (.inr (.inr (.inl ⟨h.symm, h1⟩)))
        · split at h
          · rename_i h1
            split at h
            · rename_i e he
              obtain ⟨t, ht, he⟩ := Option.bind_eq_some_iff.1 he
              exact .inr (.inr (.inr (.inr (.inl ⟨t, e, h.symm, h1.1, h1.2, ht, he⟩))))
            · exact .inr (.inr (.inr (.inr (.inr h.symm))))
          · exact .inr (.inr (.inr (.inr (.inr h.symm))))

def externA (k : Nat) (args : List Value) (h : H) : Option (Value × H) :=
  match k, args with
  | 1, [.string s, .int .u8 c] => some (.int .i64 (match (List.range s.size).find? fun i => s[i]! == c.toNat.toUInt8 with | some i => (i : Int) | none => -1), h)
  | 3, [.string s, .int .u8 c] => some (.int .i64 (s.foldl (fun (n : Int) x => if x == c.toNat.toUInt8 then n + 1 else n) ((0 : Nat) : Int)), h)
  | 4, [.string a, .string b] => some (.int .i64 (Extern.BytealgCompare.cmp a b), h)
  | 5, [x] => some (x, h)
  | k, [.int .i64 (.ofNat n)] => bif Nat.ble 8 k && Nat.ble n 1099511627776 then some (.slice (some ⟨h.next, 0, none⟩) n (2 * n), h.push (.cells [] (some (enc (k - 8) 1)))) else none
  | _, _ => none

theorem extern_find {n : String} {fn : Func} (hn : fn.name = n) (ho : fn.origin = "") (e : Array Value → Sem Value) (h1 : Extern.allNextRows.lookup n = none) (h4 : Extern.allNextRows.lookup "" = none) (h0 : Extern.allGenericRows.lookup n = none)
    (h3 : Extern.allTypedRows.lookup n = none) (h2 : Extern.allRows.lookup n = some e) : Extern.findNext fn = none ∧ Extern.find fn = some e := by
  constructor
  · simp [Extern.findNext, hn, ho, h1, h4]
  · simp [Extern.find, hn, h0, h2, h3]

section
variable {P : Program} {NG nt : Nat} {C : CF}

def ExR : Ex → Exit → Prop
  | .normal, .normal => True
  | .exit i, .exit j => i = j
  | .ret, .ret => True
  | _, _ => False

/-- The marks that loops over functions leave among the deferred calls. -/
def Marks (d d' : List Deferred) (n0 : Nat) (w : World) : Prop :=
  ∃ ms : List Nat, d' = ms.map (fun r => (⟨.collected r, #[]⟩ : Deferred)) ++ d ∧ ms.Nodup ∧ ∀ r ∈ ms, n0 ≤ r ∧ w.heap[r]? = some (.deferred (some []))

def StepTo (NG nt : Nat) (μ : Mu) (h : H) (w : World) (a : Act) (fr' : T Value) (h' : H) (a' : Act) (w' : World) : Prop :=
  ∃ μ', Step NG μ h w μ' h' w' ∧ FR nt μ' fr' a' ∧ Marks a.defers a'.defers w.heap.size w'

theorem Marks.refl (d : List Deferred) (n0 : Nat) (w : World) : Marks d d n0 w := ⟨[], rfl, .nil, by simp⟩

theorem StepTo0.marks {μ : Mu} {h : H} {w : World} {a : Act} {fr' : T Value} {h' : H} {a' : Act} {w' : World} (s : StepTo0 NG nt μ h w a fr' h' a' w') : StepTo NG nt μ h w a fr' h' a' w' := by
  obtain ⟨μ', st, f, d⟩ := s
  exact ⟨μ', st, f, by rw [d]; exact Marks.refl _ _ _⟩

theorem StepTo.keep {μ : Mu} {h : H} {w : World} {a : Act} {fr' : T Value} {h' : H} {a' : Act} {w' : World} (s : StepTo NG nt μ h w a fr' h' a' w') (fr2 : T Value)
    (hf : ∀ t v, fr2.get t = some v → fr'.get t = some v) : StepTo NG nt μ h w a fr2 h' a' w' := by
  obtain ⟨μ', st, f, d⟩ := s
  exact ⟨μ', st, ⟨f.1, fun t v hv => f.2 t v (hf t v hv)⟩, d⟩

theorem BR.not_deferred {μ : Mu} {b : Blk} {l : Loc} {w : World} (r : BR μ b l w) {d : Option (List Deferred)} (h : w.heap[l.blk]? = some (.deferred d)) : False := by
  cases b with
  | cells cs own => obtain ⟨_, _, _, h1, _⟩ := r; rw [h] at h1; simp at h1
  | map es clock => obtain ⟨_, h1, _⟩ := r; rw [h] at h1; simp at h1
  | siter s pos => obtain ⟨_, h1⟩ := r; rw [h] at h1; simp at h1
  | miter m since seen last => obtain ⟨_, _, _, h1⟩ := r; rw [h] at h1; simp at h1
  | loop nt fr ps as b st => obtain ⟨_, _, h1, _⟩ := r; rw [h] at h1; simp at h1

/-- What nothing is mapped to stays. -/
theorem Step.deferred {μ μ' : Mu} {h h' : H} {w w' : World} (s : Step NG μ h w μ' h' w') (r : RH NG μ h w) {b : Nat} {d : Option (List Deferred)} (hb : w.heap[b]? = some (.deferred d)) : w'.heap[b]? = some (.deferred d) := by
  rw [s.frame b (Array.getElem?_eq_some_iff.1 hb).1 fun id k l hk _ hl e => by
    subst e
    exact (r.br id k l hk hl).not_deferred hb]
  exact hb

theorem StepTo.trans {μ μ1 : Mu} {h h1 h2 : H} {w w1 w2 : World} {a a1 a2 : Act} {fr2 : T Value} (s : Step NG μ h w μ1 h1 w1) (e : Marks a.defers a1.defers w.heap.size w1)
    (s2 : StepTo NG nt μ1 h1 w1 a1 fr2 h2 a2 w2) : StepTo NG nt μ h w a fr2 h2 a2 w2 := by
  obtain ⟨μ2, st, f, ms2, e2, n2, g2⟩ := s2
  obtain ⟨ms1, e1, n1, g1⟩ := e
  refine ⟨μ2, s.trans st, f, ms2 ++ ms1, by rw [e2, e1]; simp, ?_, ?_⟩
  · rw [List.nodup_append]
    refine ⟨n2, n1, fun x hx y hy hxy => ?_⟩
    subst hxy
    have h1 := (g2 x hx).1
    have h2 := (Array.getElem?_eq_some_iff.1 (g1 x hy).2).1
    omega
  · intro r hr
    rcases List.mem_append.1 hr with hr | hr
    · exact ⟨Nat.le_trans s.size (g2 r hr).1, (g2 r hr).2⟩
    · exact ⟨(g1 r hr).1, st.deferred s.rh (g1 r hr).2⟩

/-- What is proved of a piece of code. -/
def Codes (P : Program) (NG nt : Nat) (c : Code) (fr : T Value) (h : H) (ex : Ex) (fr' : T Value) (h' : H) : Prop :=
  h.next ≤ h'.next ∧ ∀ (μ : Mu) (a : Act) (w : World), RH NG μ h w → Fresh μ h.next h'.next → FR nt μ fr a → ∀ (ro : Option Nat), (ro = none ∨ noRange c = true) →
    c.wpIn (Fr ro) 0 P (fun e a' w' => ExR ex e ∧ StepTo NG nt μ h w a fr' h' a' w') a w

theorem Fresh.second {μ μ1 : Mu} {h h1 h2 : H} {w w1 : World} (hf : Fresh μ h.next h2.next) (s : Step NG μ h w μ1 h1 w1) : Fresh μ1 h1.next h2.next := fun id h1' h2' => by
  rw [s.out id h1']; exact hf id (Nat.le_trans s.next h1') h2'

theorem nr_and {ro : Option Nat} {a b : Bool} (h : ro = none ∨ (a && b) = true) : (ro = none ∨ a = true) ∧ (ro = none ∨ b = true) := by
  rcases h with h | h
  · exact ⟨.inl h, .inl h⟩
  · simp only [Bool.and_eq_true] at h; exact ⟨.inr h.1, .inr h.2⟩

/-! A loop over a function. -/
theorem Step.alloc_other {μ : Mu} {h : H} {w : World} (r : RH NG μ h w) (o : Obj) : Step NG μ h w μ h (w.alloc o) where
  wf := r.wf
  le := fun _ _ h => h
  old := fun _ _ => rfl
  out := fun _ _ => rfl
  next := Nat.le_refl _
  rh := ⟨r.ng, r.wf, fun id b l hb hl => (r.br id b l hb hl).congr (by
      have := r.bd id l hl
      show (w.heap.push o)[l.blk]? = _
      rw [Array.getElem?_push, if_neg (by omega)]), r.inj, fun id l hl => by have := r.bd id l hl; show l.blk < (w.heap.push o).size; rw [Array.size_push]; omega, r.gl⟩
  size := by show w.heap.size ≤ (w.heap.push o).size; rw [Array.size_push]; omega
  os := rfl
  tape := rfl
  output := rfl
  frame := fun k hk _ => by show (w.heap.push o)[k]? = _; rw [Array.getElem?_push, if_neg (by omega)]
  src := fun id k l hk ho hl => .inr ⟨id, k, l, hk, ho, hl, rfl⟩
  unm := fun _ _ h _ => h
  dead := fun _ _ h => h
  ro := fun _ _ h _ => h

/-- A block that nothing is mapped to, and that is new, is written. -/
theorem Step.shut {μ μ' : Mu} {h h' : H} {w w' : World} (s : Step NG μ h w μ' h' w') {b : Nat} {d : Option (List Deferred)} (hb : w'.heap[b]? = some (.deferred d)) (hn : w.heap.size ≤ b) (o : Obj) : Step NG μ h w μ' h' (setObj w' b o) where
  wf := s.wf
  le := s.le
  old := s.old
  out := s.out
  next := s.next
  rh := ⟨s.rh.ng, s.rh.wf, fun id k l hk hl => (s.rh.br id k l hk hl).congr (setObj_ne fun e => by subst e; exact (s.rh.br id k l hk hl).not_deferred hb), s.rh.inj, fun id l hl => by rw [setObj_size]; exact s.rh.bd id l hl, s.rh.gl⟩
  size := by rw [setObj_size]; exact s.size
  os := s.os
  tape := s.tape
  output := s.output
  frame := fun k hk hf => by rw [setObj_ne (by omega)]; exact s.frame k hk hf
  src := s.src
  unm := s.unm
  dead := s.dead
  ro := s.ro

/-- Is that a function with a body? -/
def isFn (P : Program) (gv : Value) : Bool :=
  match gv with
  | .func (.func g) _ _ => (match P.funcs[g]? with | some fn => fn.body.isSome | none => false)
  | _ => false

/-- How a loop's record leaves it. -/
def leftEx : LSt → Option Ex
  | .ready => some .normal
  | .done none => some .ret
  | .done (some id) => some (.exit id)
  | _ => none

theorem codes_rangeFunc (hC : CallsOK P NG C) {g : Operand} {ps : Array Tmp} {assign body : Code} {fr : T Value} {h h2 : H} {gv v : Value} (hgv : evalA NG fr h g = some gv) (hfn0 : isFn P gv = true)
    (hcall : callV C gv [.func (.yield h.next) #[] #[]] (h.push (.loop nt fr ps.toList assign body .ready)) = some (v, h2))
    {nt' : Nat} {fr' : T Value} {ps' : List Tmp} {as' bd' : Code} {st : LSt} (hst : h2.get h.next = some (.loop nt' fr' ps' as' bd' st)) {ex : Ex} (hex : leftEx st = some ex)
    {fr2 : T Value} (hfr2 : ∀ t v, fr2.get t = some v → fr.get t = some v) :
    Codes P NG nt (.rangeFunc g ps assign body) fr h ex fr2 (h2.put h.next (.loop nt' fr' ps' as' bd' .exhausted)) := by
  -- the function that is called
  unfold callV at hcall
  split at hcall
  case h_2 => simp [isFn] at hfn0
  case h_3 => simp at hcall
  rename_i gf first cap
  obtain ⟨hg, hcall⟩ := cond_some hcall
  have hg := blt_iff.1 hg
  obtain ⟨hle, hfun, _⟩ := hC _ _ _ _ _ hcall
  obtain ⟨fn, hfn, hnm, hfun⟩ := hfun hg
  simp only [H.next_push] at hle
  refine ⟨by show h.next ≤ h2.next; omega, fun μ a w rh hf f ro hro => ?_⟩
  rcases hro with rfl | hro
  case inr => simp [noRange] at hro
  have hfresh : μ h.next = none := hf _ (Nat.le_refl _) (by show h.next < h2.next; omega)
  have hfv := f.ev rh g _ hgv
  obtain ⟨cf, cc, hef, r1, r2⟩ : ∃ cf cc, a.eval g = .func (.func gf) ⟨cf⟩ ⟨cc⟩ ∧ LR μ first cf ∧ LR μ cap cc := by
    generalize he : a.eval g = u at hfv
    cases hfv with
    | func _ _ _ cs' ds' h1 h2 g1 g2 => exact ⟨cs', ds', rfl, ⟨h1, g1⟩, ⟨h2, g2⟩⟩
  refine wpIn_rangeFunc fun fnid _ => ?_
  -- the two blocks
  obtain ⟨w0, hw0⟩ : ∃ w0, w0 = w.alloc (.deferred (some [])) := ⟨_, rfl⟩
  have s0 : Step NG μ h w μ h w0 := hw0 ▸ Step.alloc_other rh _
  have hs0 : w0.heap.size = w.heap.size + 1 := by rw [hw0]; show (w.heap.push _).size = _; rw [Array.size_push]
  obtain ⟨rec, hrec⟩ : ∃ rec : Loop, rec = { state := .ready, pending := none, fn := fnid, tmps := a.tmps, params := ps, assign, body, defers := w.heap.size } := ⟨_, rfl⟩
  have hb1 : BR (μ.set h.next ⟨w0.heap.size, 0, 0, 0⟩) (.loop nt fr ps.toList assign body .ready) ⟨w0.heap.size, 0, 0, 0⟩ (w0.alloc (.loop rec)) :=
    ⟨rfl, rec, alloc_at _ _, by rw [hrec]; exact ⟨rfl, rfl⟩, by rw [hrec], by rw [hrec], by rw [hrec], by rw [hrec]; exact f.1,
      fun t v hv => ⟨(f.2 t v hv).1, by rw [hrec]; exact (f.2 t v hv).2.mono (Mu.le_set hfresh)⟩⟩
  have s1 := s0.trans (Step.push_at s0.rh hfresh rfl hb1)
  obtain ⟨μ1, hμ1⟩ : ∃ μ1, μ1 = μ.set h.next ⟨w0.heap.size, 0, 0, 0⟩ := ⟨_, rfl⟩
  obtain ⟨w1, hw1⟩ : ∃ w1, w1 = w0.alloc (.loop rec) := ⟨_, rfl⟩
  rw [← hμ1, ← hw1] at s1
  have hm1 : μ1 h.next = some ⟨w0.heap.size, 0, 0, 0⟩ := by rw [hμ1]; exact Mu.set_same _ _ _
  have hd1 : w1.heap[w.heap.size]? = some (.deferred (some [])) := by
    have e0 : w0.heap[w.heap.size]? = some (.deferred (some [])) := by rw [hw0]; exact alloc_at _ _
    rw [hw1]
    show (w0.heap.push _)[w.heap.size]? = _
    rw [Array.getElem?_push, if_neg (by omega)]; exact e0
  have hfr1 : Fresh μ1 (h.push (.loop nt fr ps.toList assign body .ready)).next h2.next := fun id h1 h3 => by
    simp only [H.next_push] at h1
    rw [hμ1, Mu.set_ne _ _ (by omega)]
    exact hf id (by omega) h3
  have hargs : LR μ1 (first ++ [Value.func (.yield h.next) #[] #[]] ++ cap) (cf ++ [Value.func (.yield w0.heap.size) #[] #[]] ++ cc) := by
    have hy : VR μ1 (.func (.yield h.next) #[] #[]) (.func (.yield w0.heap.size) #[] #[]) := VR.yield hm1
    exact ((r1.mono s1.le).append (.cons hy .nil)).append (r2.mono s1.le)
  rcases hfun with ⟨⟨b, hbd⟩, hcalls⟩ | ⟨hbd, _⟩
  case inr => simp [isFn, hfn, hbd] at hfn0
  refine ⟨w0.heap.size, [⟨.collected w.heap.size, #[]⟩], w1, { target := .fn (.func gf) ⟨cc⟩, args := ⟨cf⟩ ++ #[.func (.yield w0.heap.size) #[] #[]] }, w1, gf, ⟨cf ++ [Value.func (.yield w0.heap.size) #[] #[]] ++ cc⟩, w1, ?_, ?_, ?_, ?_, ?_, ?_⟩
  · have := run_enterLoop_outer (P := P) (w := w) fnid a.tmps ps assign body
    rw [hs0]
    rw [hw1, hrec, hw0]
    exact this
  · simp only [resolve, hef, Deferred.ofValue, Sem.run_pure]
    rw [show Array.map a.eval #[Operand.const (Value.func (Fn.yield w0.heap.size) #[] #[])] = #[Value.func (Fn.yield w0.heap.size) #[] #[]] from by simp [Act.eval]]
  · intro f' _; trivial
  · have hname : (fn.name == "runtime.NumGoroutine") = false := by simpa using hnm
    have e : ((⟨cf⟩ : Array Value) ++ #[Value.func (.yield w0.heap.size) #[] #[]] ++ (⟨cc⟩ : Array Value)) = ⟨cf ++ [Value.func (.yield w0.heap.size) #[] #[]] ++ cc⟩ := by apply Array.ext'; simp
    simp only [invoke, callFunc, Sem.run_bind, run_program, Result.andThen_ok, hfn, hname, Bool.false_eq_true, if_false, hbd, Option.isNone_some, Sem.run_pure, e]
  · intro h; simp [Fr, Fence.wide] at h
  · refine callsIn_Fr.2 ((hcalls μ1 w1 _ s1.rh hfr1 hargs).mono fun e w2 ⟨cv, μ2, he, s2, _⟩ => ?_)
    subst he
    -- behind the function
    have hm2 : μ2 h.next = some ⟨w0.heap.size, 0, 0, 0⟩ := s2.le _ _ hm1
    obtain ⟨_, r2', g1, g2, g3, g4, g5, g6, g7⟩ := s2.rh.br _ _ _ hst hm2
    have hnb : r2'.state ≠ .busy := by
      cases st with
      | ready => rw [g2.1]; simp
      | busy => simp [leftEx] at hex
      | done j => rw [g2.1]; simp
      | exhausted => simp [leftEx] at hex
    have hend := run_endLoop (P := P) g1 hnb
    have s3 : Step NG μ2 h2 w2 μ2 (h2.put h.next (.loop nt' fr' ps' as' bd' .exhausted)) (setObj w2 w0.heap.size (.loop { r2' with state := .exhausted })) :=
      Step.write s2.rh (l := ⟨w0.heap.size, 0, 0, 0⟩) hst rfl rfl hm2 ⟨rfl, _, setObj_same (Array.getElem?_eq_some_iff.1 g1).1, rfl, g3, g4, g5, g6, g7⟩
    have hmk : Marks a.defers ([(⟨.collected w.heap.size, #[]⟩ : Deferred)] ++ a.defers) w.heap.size (setObj w2 w0.heap.size (.loop { r2' with state := .exhausted })) := by
      refine ⟨[w.heap.size], rfl, by simp, fun r hr => ?_⟩
      have : r = w.heap.size := by simpa using hr
      subst this
      exact ⟨Nat.le_refl _, s3.deferred s2.rh (s2.deferred s1.rh hd1)⟩
    have hto : StepTo NG nt μ h w a fr2 (h2.put h.next (.loop nt' fr' ps' as' bd' .exhausted)) { a with defers := [(⟨.collected w.heap.size, #[]⟩ : Deferred)] ++ a.defers } (setObj w2 w0.heap.size (.loop { r2' with state := .exhausted })) :=
      ⟨μ2, (s1.trans s2).trans s3, ⟨f.1, fun t v hv => ⟨(f.2 t v (hfr2 t v hv)).1, (f.2 t v (hfr2 t v hv)).2.mono ((s1.trans s2).le)⟩⟩, hmk⟩
    refine ⟨r2'.pending, _, hend, ?_⟩
    cases st with
    | ready =>
      simp only [leftEx, Option.some.injEq] at hex; subst hex
      rw [g2.2] at hto ⊢
      exact ⟨trivial, hto⟩
    | busy => simp [leftEx] at hex
    | exhausted => simp [leftEx] at hex
    | done j =>
      rw [g2.2] at hto ⊢
      cases j with
      | none =>
        simp only [leftEx, Option.some.injEq] at hex; subst hex
        exact wpIn_ret ⟨trivial, hto⟩
      | some id =>
        simp only [leftEx, Option.some.injEq] at hex; subst hex
        exact wpIn_exit ⟨rfl, hto⟩

/-! A round. -/
theorem setPs_sound {nt : Nat} {μ : Mu} : ∀ (ps : List Tmp) (vs cs : List Value) (fr : T Value) (tm : Array Value), (∀ t ∈ ps, t < nt) → LR μ vs cs → nt ≤ tm.size → (∀ (t : Tmp) (v : Value), fr.get t = some v → t < nt ∧ VR μ v (tm.getD t undef)) →
    nt ≤ ((ps.zip cs).foldl (fun (tm : Array Value) (x : Tmp × Value) => tm.setIfInBounds x.1 x.2) tm).size ∧
    ∀ (t : Tmp) (v : Value), (setPs fr ps vs).get t = some v → t < nt ∧ VR μ v (((ps.zip cs).foldl (fun (tm : Array Value) (x : Tmp × Value) => tm.setIfInBounds x.1 x.2) tm).getD t undef)
  | [], vs, cs, fr, tm, _, _, hn, hf => by simp only [setPs, List.zip_nil_left, List.foldl_nil]; exact ⟨hn, hf⟩
  | p :: ps, [], cs, fr, tm, hp, hl, hn, hf => by
    have : cs = [] := List.length_eq_zero_iff.1 hl.1.symm
    subst this
    simp only [setPs, List.zip_nil_left, List.zip_nil_right, List.foldl_nil]; exact ⟨hn, hf⟩
  | p :: ps, v :: vs, [], fr, tm, hp, hl, hn, hf => absurd hl.1 (by simp)
  | p :: ps, v :: vs, c :: cs, fr, tm, hp, hl, hn, hf => by
    simp only [setPs, List.zip_cons_cons, List.foldl_cons]
    have hl' : LR μ vs cs := ⟨by simpa using hl.1, fun i a b ha hb => hl.2 (i + 1) a b (by simpa using ha) (by simpa using hb)⟩
    refine setPs_sound ps vs cs _ _ (fun t ht => hp t (by simp [ht])) hl' (by simpa using hn) fun t u hu => ?_
    rw [T.get_set] at hu
    have hpn := hp p (by simp)
    split at hu
    · rename_i e; subst e
      simp only [Option.some.injEq] at hu; subst hu
      refine ⟨hpn, ?_⟩
      have : (tm.setIfInBounds t c).getD t undef = c := by
        rw [Array.getD_eq_getD_getElem?, Array.getElem?_setIfInBounds, if_pos rfl, if_pos (Nat.lt_of_lt_of_le hpn hn)]; rfl
      rw [this]; exact hl.2 0 _ _ rfl rfl
    · rename_i e
      obtain ⟨h1, h2⟩ := hf t u hu
      refine ⟨h1, ?_⟩
      rw [Array.getD_eq_getD_getElem?, Array.getElem?_setIfInBounds_ne (Ne.symm e), ← Array.getD_eq_getD_getElem?]
      exact h2

/-- What a round leaves: what yield answers, and the record. -/
def endSt : Ex → Bool × LSt
  | .normal => (true, .ready)
  | .ret => (false, .done none)
  | .exit j => (false, .done (some j))

theorem round_sound {id : Nat} {args : List Value} {h : H} {fr : T Value} {ps : List Tmp} {assign body : Code} (hb : h.get id = some (.loop nt fr ps assign body .ready)) (hlen : ps.length = args.length)
    (hps : ∀ t ∈ ps, t < nt) (hn1 : noRange assign = true) (hn2 : noRange body = true) {fr2 : T Value} {h2 : H} (c1 : Codes P NG nt assign (setPs fr ps args) h .normal fr2 h2)
    {nt2 : Nat} {f2 : T Value} {p2 : List Tmp} {a2 b2 : Code} (hb2 : h2.get id = some (.loop nt2 f2 p2 a2 b2 .ready)) {ex : Ex} {fr4 : T Value} {h4 : H}
    (c2 : Codes P NG nt body fr2 (h2.put id (.loop nt2 f2 p2 a2 b2 .busy)) ex fr4 h4) {nt4 : Nat} {f4 : T Value} {p4 : List Tmp} {a4 b4 : Code} {st4 : LSt} (hb4 : h4.get id = some (.loop nt4 f4 p4 a4 b4 st4)) :
    h.next ≤ h4.next ∧ ∀ μ w cargs l, RH NG μ h w → Fresh μ h.next h4.next → LR μ args cargs → μ id = some l →
      ∃ g tm a b, (Instr.yield l.blk ⟨cargs⟩).run P w = .ok (.round l.blk g tm a b) w ∧ RoundIn Fence.wide 0 P l.blk g tm a b w (CallR NG μ h w (.bool (endSt ex).1) (h4.put id (.loop nt4 f4 p4 a4 b4 (endSt ex).2))) := by
  have hle1 := c1.1
  have hle2 : h2.next ≤ h4.next := c2.1
  refine ⟨Nat.le_trans hle1 hle2, fun μ w cargs l rh hf hl hm => ?_⟩
  obtain ⟨h0, r, g1, g2, g3, g4, g5, g6, g7⟩ := rh.br _ _ _ hb hm
  have hcl : cargs.length = args.length := hl.1.symm
  have hy := run_yield (P := P) (w := w) (args := ⟨cargs⟩) g1 (by rw [g3]; simp; omega)
  refine ⟨_, _, _, _, hy, roundIn_of_wpIn trivial ?_⟩
  rw [g4, g5, g3]
  have etm : (Array.foldl (fun (tmps : Array Value) (x : Tmp × Value) => tmps.setIfInBounds x.1 x.2) r.tmps ((⟨ps⟩ : Array Tmp).zip ⟨cargs⟩)) = (ps.zip cargs).foldl (fun (tm : Array Value) (x : Tmp × Value) => tm.setIfInBounds x.1 x.2) r.tmps := by
    rw [← Array.foldl_toList]; simp
  obtain ⟨f1, f2'⟩ := setPs_sound (nt := nt) ps args cargs fr r.tmps hps hl g6 g7
  have key : assign.wpIn (Fr (some l.blk)) 0 P (fun e a' w' => ExR .normal e ∧ StepTo NG nt μ h w { tmps := (ps.zip cargs).foldl (fun (tm : Array Value) (x : Tmp × Value) => tm.setIfInBounds x.1 x.2) r.tmps, defers := [] } fr2 h2 a' w') { tmps := (ps.zip cargs).foldl (fun (tm : Array Value) (x : Tmp × Value) => tm.setIfInBounds x.1 x.2) r.tmps, defers := [] } w :=
    c1.2 μ _ w rh (fun i e1 e2 => hf i e1 (Nat.lt_of_lt_of_le e2 hle2)) ⟨f1, f2'⟩ (some l.blk) (.inr hn1)
  show assign.wpIn (Fr (some l.blk)) 0 P _ { tmps := Array.foldl (fun (tmps : Array Value) (x : Tmp × Value) => tmps.setIfInBounds x.1 x.2) r.tmps ((⟨ps⟩ : Array Tmp).zip ⟨cargs⟩), defers := [] } w
  rw [etm]
  refine wpIn_mono key fun e a1 w1 ⟨he, μ1, s1, fa1, _⟩ => ?_
  cases e with
  | normal =>
    have hm1 : μ1 id = some l := s1.le _ _ hm
    obtain ⟨_, r2, k1, k2, k3, k4, k5, k6, k7⟩ := s1.rh.br _ _ _ hb2 hm1
    refine ⟨_, run_beginRound k1 k2.1, ?_⟩
    have s2 : Step NG μ1 h2 w1 μ1 (h2.put id (.loop nt2 f2 p2 a2 b2 .busy)) (setObj w1 l.blk (.loop { r2 with state := .busy })) :=
      Step.write s1.rh hb2 rfl rfl hm1 ⟨h0, _, setObj_same (Array.getElem?_eq_some_iff.1 k1).1, rfl, k3, k4, k5, k6, k7⟩
    have key2 := c2.2 μ1 a1 (setObj w1 l.blk (.loop { r2 with state := .busy })) s2.rh (fun i e1 e2 => by
      have e1' : h2.next ≤ i := e1
      rw [s1.out i e1']; exact hf i (by omega) e2) fa1 (some l.blk) (.inr hn2)
    refine wpIn_mono (show body.wpIn (Fr (some l.blk)) 0 P _ a1 (setObj w1 l.blk (.loop { r2 with state := .busy })) from key2) fun e a3 w3 ⟨he3, μ3, s3, _, _⟩ => ?_
    have hm3 : μ3 id = some l := s3.le _ _ hm1
    obtain ⟨_, r3, j1, j2, j3, j4, j5, j6, j7⟩ := s3.rh.br _ _ _ hb4 hm3
    have fin : ∀ (jump : Option Code) (b : Bool) (st : LSt), jump.isNone = b → (∀ r : Loop, LStR st { r with state := if jump.isNone then .ready else .done, pending := jump }) →
        ∃ v w', (Instr.endRound l.blk jump).run P w3 = .ok v w' ∧ CallR NG μ h w (.bool b) (h4.put id (.loop nt4 f4 p4 a4 b4 st)) (.returned v) w' := by
      intro jump b st hj hst
      refine ⟨_, _, run_endRound (P := P) jump j1, .bool jump.isNone, μ3, rfl, ?_, by rw [hj]; exact .bool b⟩
      have s4 : Step NG μ3 h4 w3 μ3 (h4.put id (.loop nt4 f4 p4 a4 b4 st)) (setObj w3 l.blk (.loop { r3 with state := if jump.isNone then .ready else .done, pending := jump })) :=
        Step.write s3.rh hb4 rfl rfl hm3 ⟨h0, _, setObj_same (Array.getElem?_eq_some_iff.1 j1).1, hst r3, j3, j4, j5, j6, j7⟩
      exact ((s1.trans s2).trans s3).trans s4
    cases e with
    | normal =>
      cases ex with
      | normal => exact fin none true .ready rfl fun r => ⟨rfl, rfl⟩
      | ret => exact he3.elim
      | exit j => exact he3.elim
    | ret =>
      cases ex with
      | normal => exact he3.elim
      | ret => exact fin (some .ret) false (.done none) rfl fun r => ⟨rfl, rfl⟩
      | exit j => exact he3.elim
    | exit k =>
      cases ex with
      | normal => exact he3.elim
      | ret => exact he3.elim
      | exit j =>
        simp only [ExR] at he3
        subst he3
        exact fin (some (.exit j)) false (.done (some j)) rfl fun r => ⟨rfl, rfl⟩
    | goto t => cases ex <;> exact he3.elim
    | panic c => cases ex <;> exact he3.elim
    | outgrown => cases ex <;> exact he3.elim
  | exit k => exact he.elim
  | ret => exact he.elim
  | goto t => exact he.elim
  | panic c => exact he.elim
  | outgrown => exact he.elim

/-! Functions without a body. -/
theorem extern_call {f : FuncId} {fn : Func} (hfn : P.funcs[f]? = some fn) (hname : fn.name ≠ "runtime.NumGoroutine") (hb : fn.body = none) {e : Array Value → Sem Value} (h1 : Extern.findNext fn = none) (h2 : Extern.find fn = some e)
    {args : Array Value} {v : Value} {w w' : World} (he : (e args).run P w = .ok v w') : (callFunc f args).run P w = .ok (.value v) w' := by
  have hn : (fn.name == "runtime.NumGoroutine") = false := by simpa using hname
  simp only [callFunc, Sem.run_bind, run_program, Result.andThen_ok, hfn, hn, Bool.false_eq_true, if_false, hb, Option.isNone_none, if_true]
  simp [h1, h2, Sem.run_bind, he, Result.andThen, mark, Sem.run]

theorem bytesOf_string (s : ByteArray) (w : World) : (Extern.Bytes.bytesOf (.string s)).run P w = .ok s w := rfl
theorem asByte_u8 (c : Int) (w : World) : (Extern.Bytes.asByte (.int .u8 c)).run P w = .ok c.toNat.toUInt8 w := rfl

theorem externA_sound {f : FuncId} {fn : Func} (hfn : P.funcs[f]? = some fn) (hname : fn.name ≠ "runtime.NumGoroutine") (hb : fn.body = none) {args : List Value} {h h' : H} {v : Value} (hr : externA (extK P fn) args h = some (v, h')) :
    h.next ≤ h'.next ∧ ∀ μ w cargs, RH NG μ h w → Fresh μ h.next h'.next → LR μ args cargs → ∃ cv w' μ', (callFunc f ⟨cargs⟩).run P w = .ok (.value cv) w' ∧ Step NG μ h w μ' h' w' ∧ VR μ' v cv := by
  unfold externA at hr
  split at hr
  · rename_i s c hk
    simp only [Option.some.injEq, Prod.mk.injEq] at hr
    obtain ⟨rfl, rfl⟩ := hr
    refine ⟨Nat.le_refl _, fun μ w cargs rh _ hl => ?_⟩
    have hca : cargs = [.string s, .int .u8 c] := by
      match cargs, hl with
      | [x, y], hl =>
        have e1 := hl.2 0 _ _ rfl rfl; have e2 := hl.2 1 _ _ rfl rfl
        cases e1; cases e2; rfl
      | [], hl => have := hl.1; simp at this
      | [_], hl => have := hl.1; simp at this
      | _ :: _ :: _ :: _, hl => have := hl.1; simp at this
    subst hca
    have hnm : fn.name = "internal/bytealg.IndexByteString" ∧ fn.origin = "" := by
      rcases extK_inv hk with h | h | h | h | ⟨_, _, h, _⟩ | h
      · exact h.2
      all_goals omega
    obtain ⟨a1, a2⟩ := extern_find hnm.1 hnm.2 Extern.BytealgIndexByte.indexByte (by kernel_rfl) (by kernel_rfl) (by kernel_rfl) (by kernel_rfl) (by kernel_rfl)
    refine ⟨_, w, μ, extern_call hfn hname hb a1 a2 (v := .int .i64 (match (List.range s.size).find? fun i => s[i]! == c.toNat.toUInt8 with | some i => (i : Int) | none => -1)) ?_, Step.refl rh, .int _ _⟩
    have ei : Extern.BytealgIndexByte.indexByte ⟨[.string s, .int .u8 c]⟩ = (do
        let b ← Extern.Bytes.bytesOf (.string s)
        let c ← Extern.Bytes.asByte (.int .u8 c)
        match (List.range b.size).find? fun i => b[i]! == c with
        | some i => pure (goInt i)
        | none => pure (goInt (-1))) := rfl
    rw [ei]
    simp only [Sem.run_bind, bytesOf_string, asByte_u8, Result.andThen_ok]
    cases (List.range s.size).find? fun i => s[i]! == c.toNat.toUInt8 <;> rfl
  · rename_i s c hk
    simp only [Option.some.injEq, Prod.mk.injEq] at hr
    obtain ⟨rfl, rfl⟩ := hr
    refine ⟨Nat.le_refl _, fun μ w cargs rh _ hl => ?_⟩
    have hca : cargs = [.string s, .int .u8 c] := by
      match cargs, hl with
      | [x, y], hl =>
        have e1 := hl.2 0 _ _ rfl rfl; have e2 := hl.2 1 _ _ rfl rfl
        cases e1; cases e2; rfl
      | [], hl => have := hl.1; simp at this
      | [_], hl => have := hl.1; simp at this
      | _ :: _ :: _ :: _, hl => have := hl.1; simp at this
    subst hca
    have hnm : fn.name = "internal/bytealg.CountString" ∧ fn.origin = "" := by
      rcases extK_inv hk with h | h | h | h | ⟨_, _, h, _⟩ | h
      · omega
      · exact h.2
      all_goals omega
    obtain ⟨a1, a2⟩ := extern_find hnm.1 hnm.2 Extern.BytealgCount.count (by kernel_rfl) (by kernel_rfl) (by kernel_rfl) (by kernel_rfl) (by kernel_rfl)
    refine ⟨_, w, μ, extern_call hfn hname hb a1 a2 (v := .int .i64 (s.foldl (fun (n : Int) x => if x == c.toNat.toUInt8 then n + 1 else n) ((0 : Nat) : Int))) ?_, Step.refl rh, .int _ _⟩
    have ei : Extern.BytealgCount.count ⟨[.string s, .int .u8 c]⟩ = (do
        let b ← Extern.Bytes.bytesOf (.string s)
        let c ← Extern.Bytes.asByte (.int .u8 c)
        pure (goInt (b.foldl (fun (n : Int) x => if x == c then n + 1 else n) ((0 : Nat) : Int)))) := rfl
    rw [ei]
    simp only [Sem.run_bind, bytesOf_string, asByte_u8, Result.andThen_ok]
    rfl
  · rename_i a b hk
    simp only [Option.some.injEq, Prod.mk.injEq] at hr
    obtain ⟨rfl, rfl⟩ := hr
    refine ⟨Nat.le_refl _, fun μ w cargs rh _ hl => ?_⟩
    have hca : cargs = [.string a, .string b] := by
      match cargs, hl with
      | [x, y], hl =>
        have e1 := hl.2 0 _ _ rfl rfl; have e2 := hl.2 1 _ _ rfl rfl
        cases e1; cases e2; rfl
      | [], hl => have := hl.1; simp at this
      | [_], hl => have := hl.1; simp at this
      | _ :: _ :: _ :: _, hl => have := hl.1; simp at this
    subst hca
    have hnm : fn.name = "internal/bytealg.abigen_runtime_cmpstring" ∧ fn.origin = "" := by
      rcases extK_inv hk with h | h | h | h | ⟨_, _, h, _⟩ | h
      · omega
      · omega
      · exact h.2
      all_goals omega
    obtain ⟨a1, a2⟩ := extern_find hnm.1 hnm.2 Extern.BytealgCompare.compare (by kernel_rfl) (by kernel_rfl) (by kernel_rfl) (by kernel_rfl) (by kernel_rfl)
    refine ⟨_, w, μ, extern_call hfn hname hb a1 a2 (v := .int .i64 (Extern.BytealgCompare.cmp a b)) ?_, Step.refl rh, .int _ _⟩
    have ei : Extern.BytealgCompare.compare ⟨[.string a, .string b]⟩ = (do pure (goInt (Extern.BytealgCompare.cmp (← Extern.Bytes.bytesOf (.string a)) (← Extern.Bytes.bytesOf (.string b))))) := rfl
    rw [ei]
    simp only [Sem.run_bind, bytesOf_string, Result.andThen_ok]
    rfl
  · rename_i x hk
    simp only [Option.some.injEq, Prod.mk.injEq] at hr
    obtain ⟨rfl, rfl⟩ := hr
    refine ⟨Nat.le_refl _, fun μ w cargs rh _ hl => ?_⟩
    obtain ⟨y, rfl, ry⟩ : ∃ y, cargs = [y] ∧ VR μ x y := by
      match cargs, hl with
      | [y], hl => exact ⟨y, rfl, hl.2 0 _ _ rfl rfl⟩
      | [], hl => have := hl.1; simp at this
      | _ :: _ :: _, hl => have := hl.1; simp at this
    have hnm : fn.name = "internal/abi.NoEscape" ∧ fn.origin = "" := by
      rcases extK_inv hk with h | h | h | h | ⟨_, _, h, _⟩ | h
      · omega
      · omega
      · omega
      · exact h.2
      all_goals omega
    obtain ⟨a1, a2⟩ := extern_find hnm.1 hnm.2 Extern.AbiNoEscape.same (by kernel_rfl) (by kernel_rfl) (by kernel_rfl) (by kernel_rfl) (by kernel_rfl)
    exact ⟨y, w, μ, extern_call hfn hname hb a1 a2 (v := y) rfl, Step.refl rh, ry⟩
  · rename_i n _
    obtain ⟨hc, hr⟩ := cond_some hr
    simp only [Option.some.injEq, Prod.mk.injEq] at hr
    obtain ⟨rfl, rfl⟩ := hr
    simp only [Bool.and_eq_true, ble_iff] at hc
    refine ⟨by simp, fun μ w cargs rh hf hl => ?_⟩
    have hca : cargs = [.int .i64 (.ofNat n)] := by
      match cargs, hl with
      | [y], hl => rw [(hl.2 0 _ _ rfl rfl).int_inv]
      | [], hl => have := hl.1; simp at this
      | _ :: _ :: _, hl => have := hl.1; simp at this
    subst hca
    obtain ⟨t, e, hk, hnm, hor, ht0, hel⟩ : ∃ t e, extK P fn = 8 + e ∧ fn.name = "internal/bytealg.MakeNoZero" ∧ fn.origin = "" ∧ fn.resultTypes[0]? = some t ∧ elemP P t = some e := by
      rcases extK_inv (P := P) (fn := fn) rfl with h | h | h | h | ⟨t, e, h⟩ | h
      · omega
      · omega
      · omega
      · omega
      · exact ⟨t, e, h⟩
      · omega
    have he8 : extK P fn - 8 = e := by omega
    obtain ⟨a1, a2⟩ : Extern.findNext fn = none ∧ Extern.find fn = some (Extern.BytealgMakeNoZero.makeNoZero fn.params fn.resultTypes) := by
      constructor
      · simp [Extern.findNext, hnm, hor, show Extern.allNextRows.lookup "internal/bytealg.MakeNoZero" = none by kernel_rfl, show Extern.allNextRows.lookup "" = none by kernel_rfl]
      · simp [Extern.find, hnm, show Extern.allGenericRows.lookup "internal/bytealg.MakeNoZero" = none by kernel_rfl, show Extern.allTypedRows.lookup "internal/bytealg.MakeNoZero" = some Extern.BytealgMakeNoZero.makeNoZero by kernel_rfl]
    have hne : μ h.next = none := hf h.next (Nat.le_refl _) (by simp)
    have hun : P.underlying t = some (.slice e) := elemP_eq hel
    obtain ⟨d, hrun, hd, _⟩ := Go.Lib.run_makeNoZero (P := P) w fn.params t e hun n (by omega)
    have hrun' : (Extern.BytealgMakeNoZero.makeNoZero fn.params fn.resultTypes ⟨[.int .i64 (.ofNat n)]⟩).run P w = .ok (.slice (some ⟨w.heap.size, 0, none⟩) n d.size) (w.drew.drew.alloc (.cells d e)) := by
      rw [← hrun]
      unfold Extern.BytealgMakeNoZero.makeNoZero
      rw [ht0]
      rfl
    refine ⟨_, _, μ.set h.next ⟨w.heap.size, 0, enc e 1, d.toList.length⟩, extern_call hfn hname hb a1 a2 hrun', ?_, ?_⟩
    · rw [he8]
      refine Step.new_cells (ty := e) (ds := d.toList) rh hne ?_ rfl rfl rfl (by simp) (by simpa using LR.nil) (by simp) ?_
      · rfl
      · exact ⟨(enc_div (by decide)).symm, fun h0 => by rw [enc_mod (by decide)] at h0; omega⟩
    · refine .slice (l := ⟨w.heap.size, 0, enc e 1, d.toList.length⟩) (Mu.set_same _ _ _) ?_ (by omega) (fun _ => rfl)
      unfold CapOK
      rw [if_neg (by omega)]
      simp only [enc_mod (show 1 < KB by decide), Array.length_toList]
      exact ⟨by omega, by omega⟩
  · simp at hr

/-! The end of a function. -/
theorem leaves_marks {fn : Func} {tmps : Array Value} {R : Ending → World → Prop} {μ μ' : Mu} {h h' : H} {w : World} : ∀ (ms : List Nat) (w' : World), Step NG μ h w μ' h' w' → ms.Nodup → (∀ r ∈ ms, w.heap.size ≤ r ∧ w'.heap[r]? = some (.deferred (some []))) →
    (∀ w'', Step NG μ h w μ' h' w'' → ∃ v, (results fn tmps).run P w'' = .ok v w'' ∧ R (.returned v) w'') → LeavesInM (Fr none) 0 P fn tmps R (ms.map (fun r => (⟨.collected r, #[]⟩ : Deferred))) .returning w'
  | [], w', st, _, _, hR => hR w' st
  | r :: ms, w', st, hnd, hms, hR => by
    obtain ⟨h1, h2⟩ := hms r (by simp)
    refine ⟨by simp, .inl ⟨r, _, rfl, run_takeDeferred h2, ?_⟩⟩
    have hne : ∀ r' ∈ ms, r' ≠ r := fun r' hr' e => by subst e; exact (List.nodup_cons.1 hnd).1 hr'
    exact leaves_marks ms (setObj w' r (.deferred none)) (st.shut h2 h1 _) (List.nodup_cons.1 hnd).2
      (fun r' hr' => ⟨(hms r' (by simp [hr'])).1, by rw [setObj_ne (hne r' hr')]; exact (hms r' (by simp [hr'])).2⟩) hR
end
end Go.AM
