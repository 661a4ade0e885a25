/-
  An abstract machine for the model: a run of the machine gives the law's statement.
-/
import Derived.Test.YtdjhkdogpbiglaaAmVc
import Derived.Carry
import Derived.ProofKit
import Derived.OpenShut
import Derived.WalkKit
namespace Go.AM
open Go Go.RowKit Go.ChangeShapes Go.WideShapes Go.ChangeAt

theorem begun_pos (P : Program) : P.globals.size < (begin P (fun _ _ => 0) default).world.heap.size := by
  simp [begin]; omega

theorem shaped_pos {P : Program} {W : World} (h : W.ShapedOpen P) : 0 < W.heap.size := by
  obtain ⟨_, h2⟩ := h
  obtain ⟨o, o0, ho, _⟩ := h2 P.globals.size (Nat.le_refl _) (begun_pos P)
  exact Nat.lt_of_le_of_lt (Nat.zero_le _) (Array.getElem?_eq_some_iff.1 ho).1

variable {H : Type} {enc : TypeId × Value → H}

theorem trodAll_stays {P : Program} (hl : laidOutB P = true) {W W' : World} (hb : Below W.heap.size W W') : ∀ (ts : List TypeId) (vs : List Value) (ds : List (DataW H)) (ps : List MemPlace),
    (∀ t ∈ ts, P.readableRec t = true ∧ t < P.types.size) → DataW.TrodAll enc P W 0 (fun _ => true) true ts vs ds ps →
    DataW.TrodAll enc P W' 0 (fun b => decide (b < W.heap.size)) true ts vs ds ps
  | [], vs, ds, ps, _, h => by
    obtain ⟨rfl, rfl, rfl⟩ := trodAll_nil h
    exact trodAll_mk0
  | t :: ts, vs, ds, ps, ht, h => by
    have hlt := h.lt
    obtain ⟨v, vs', d, ds', p, q, rfl, rfl, rfl, h1, h2⟩ := trodAll_cons h
    exact ⟨p, q, Below.trod hl (ht t (by simp)).1 (ht t (by simp)).2 h1 hb (fun x hx => hlt x (by simp [hx])), trodAll_stays hl hb ts vs' ds' q (fun t ht' => ht t (by simp [ht'])) h2, rfl⟩

theorem trodAll_len {P : Program} {w : World} {base : Nat} {spare : Nat → Bool} {held : Bool} : ∀ (ts : List TypeId) (vs : List Value) (ds : List (DataW H)) (ps : List MemPlace), DataW.TrodAll enc P w base spare held ts vs ds ps → ds.length = ts.length
  | [], vs, ds, ps, h => by obtain ⟨rfl, rfl, rfl⟩ := trodAll_nil h; rfl
  | t :: ts, vs, ds, ps, h => by
    obtain ⟨v, vs', d, ds', p, q, rfl, rfl, rfl, h1, h2⟩ := trodAll_cons h
    simp [trodAll_len ts vs' ds' q h2]

/-- A law that takes what can be read, and whose run answers true. -/
theorem law_lifted {C : Checked} {os : Os} {f : FuncId} {fn : Func} {s : ChangeSpec} {conds : List PathCond} {ts : List TypeId} {tb : TypeId} {O : List FuncId} {n : Nat}
    (own : ownKnob C.prog.godebug = none) (started : os.Started) (noInit : C.prog.inits.idxOf? f = none) (hfn : C.prog.funcs[f]? = some fn)
    (witness : ∃ (w : World) (tape : Tape) (i : Input), w.os = os ∧ (w.forCall tape i).Shaped C.prog ∧ i.vars = [] ∧ Input.okWide C.prog (w.forCall tape i) .any w.heap.size f i ∧
      s.pre6 enc C.prog fn conds false (w.forCall tape i).memory i.args ∧ ({} : Assume).holds C.prog (lone (Frame.enter C.prog f i.args .normal) [] (w.forCall tape i)))
    (hts : fn.params.toList = ts) (hrt : fn.resultTypes.toList = [tb]) (hrs : fn.resultTypes.size = 1) (htb : C.prog.underlying tb = some .bool) (hvars : s.vars = [])
    (hspec : ∀ ds : List (DataW H), ds.length = ts.length → (s.fn H ds).results = [.lit (.bool true)] ∧ (s.fn H ds).args = ds ∧ (s.fn H ds).vars = [])
    (hl : laidOutB C.prog = true) (hread : (ts.all fun t => C.prog.readableRec t && decide (t < C.prog.types.size)) = true) (hok : (ts.all fun t => okT C.prog n t) = true)
    (hzp : zerosPlain C.prog = true) (hm : C.prog.follows .mixedOrders = true) (hn : namesOK C.prog = true) (hO : ∀ f ∈ O, ClosedTrue C.prog f) (hbody : fn.body.isSome = true)
    (run : ∀ (h : AM.H) (as : List Value), Start h → TyAll C.prog h ts as → ∃ n h', callB C.prog 0 O n f as h = some (.bool true, h')) :
    ReturnsInHanded {} C os f .any (s.pre6 enc C.prog fn conds false) (s.post enc C.prog fn false true false false) := by
  refine returnsInHanded_of_change_shaped (C := C) own started noInit hfn witness ?_
  intro W base args ds gs before hval0 hW hcnd _ hsh _
  have hW' := hW
  obtain ⟨p, q, hA, hV, rfl, hfz, hnd⟩ := hW
  rw [hvars] at hV
  obtain ⟨rfl, rfl⟩ := trodVars_none hV
  rw [hts] at hA
  have hlen := trodAll_len _ _ _ _ hA
  simp only [List.all_eq_true, Bool.and_eq_true, decide_eq_true_eq] at hread hok
  have hcalls := open_calls (shaped_pos hsh) hzp hm hn hO hfn hbody hok (args := args) (fun j t v h1 h2 => hval0 j t v (by rw [← hts] at h1; simpa using h1) (by simpa using h2)) hA run
  refine hcalls.mono fun e W' ⟨he, hg⟩ => ?_
  subst he
  obtain ⟨s1, s2, s3⟩ := hspec ds hlen
  refine ⟨_, rfl, ds, [], _, [], p, [], hW', ?_, ?_, ?_, hg.frame _, fun h => by cases h⟩
  · rw [List.append_nil, s1, hrt, hrs]
    exact trodAll_cons_mk (shut_bool htb _) trodAll_mk0
  · rw [List.append_nil, s2, hts]
    exact trodAll_stays hl hg _ _ _ _ hread hA
  · rw [List.append_nil, s3, hvars]
    rfl

theorem closedTrue {P : Program} {n : Nat} {f : FuncId} (hzp : zerosPlain P = true) (hm : P.follows .mixedOrders = true) (hn : namesOK P = true)
    (hf : ∃ fn c, P.funcs[f]? = some fn ∧ fn.body = some c ∧ fn.name ≠ "runtime.NumGoroutine") (h : isT (callA P 0 false n f [] ⟨.nil, 0⟩) = true) : ClosedTrue P f :=
  ⟨hf, fun w => by obtain ⟨fn, c, h1, h2, _⟩ := hf; exact closed_calls hzp hm hn h1 (by rw [h2]; rfl) h w⟩
end Go.AM
