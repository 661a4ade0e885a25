/-
  DeskKnown: the program's variables, two of which are tables that are read; a closed run that begins with them.
-/
import Derived.Test.YtkiagdpknegcbaaGreatDoorAdSeg
import Derived.MakeChecks
import Derived.ChangeBears2
import Derived.WalkKit
import Derived.ProofKit
import Derived.OpenShut
set_option maxRecDepth 100000
namespace Go.AM
open Go Go.RowKit Go.ChangeShapes Go.WideShapes Go.ChangeAt

/-- A listed variable's cells. -/
theorem laid_at {P : Program} {W : World} {name : String} {d : DataW Unit} {r : List (String × DataW Unit)} {ps : List MemPlace} {k : Nat} {t : TypeId} (h : DataW.LaidVars P W ((name, d) :: r) ps) (hg : P.globalNamed name = some k) (ht : (P.globals[k]?).map (·.type) = some t) :
    (∃ ccs ty fz fuel p, W.heap[k]? = some (.cells ccs ty fz) ∧ DataW.trod (fun _ => ()) P W 0 (fun _ => true) false fuel t ccs.toList = some (d, p)) ∧ ∃ q, DataW.LaidVars P W r q := by
  obtain ⟨g, t', cs, fuel, p, q, hg', ht', hv, hd, hr, _⟩ := h
  obtain rfl := Option.some.inj (hg.symm.trans hg')
  obtain rfl := Option.some.inj (ht.symm.trans ht')
  refine ⟨?_, q, hr⟩
  simp only [World.var?, hg, Option.bind_some] at hv
  obtain ⟨ccs, ty, fz, hh⟩ : ∃ ccs ty fz, W.heap[k]? = some (.cells ccs ty fz) := by
    split at hv
    · rename_i c t fr hb; exact ⟨c, t, fr, hb⟩
    · cases hv
  rw [hh] at hv
  obtain rfl := Option.some.inj hv
  exact ⟨ccs, ty, fz, fuel, p, hh, hd⟩

/-- The values of a row of numbers. -/
def dval : DataW Unit → Value
  | .lit (.int k n) => .int k n
  | _ => undef
def dvals : DataW Unit → List Value
  | .agg xs => xs.map dval
  | _ => []

theorem arr_ints {P : Program} {W : World} {fuel : Nat} {t e : TypeId} {k : IntKind} {n : Nat} {cs : List Value} {d : DataW Unit} {p : List MemPlace} (ht : P.underlying t = some (.array n e)) (he : P.underlying e = some (.int k)) (hc : P.cellsOf e = 1) (hct : P.cellsOf t = n)
    (h : DataW.trod (fun _ => ()) P W 0 (fun _ => true) false fuel t cs = some (d, p)) {tab : List Value} (htab : dvals d = tab) : cs.length = n ∧ tab.length = n ∧ ∀ (i : Nat) (v : Value), tab[i]? = some v → ∃ m : Int, v = .int k m ∧ cs[i]? = some (.int k m) := by
  obtain ⟨ys, m, _, hx, hlen, hn, hel⟩ := DataW.trod_array ht h
  simp only [Prod.mk.injEq] at hx
  have htab' : tab = (ys.map (·.1)).map dval := by rw [← htab, hx.1]; rfl
  have hl : tab.length = n := by rw [htab']; simp; omega
  refine ⟨by rw [hlen, hct], hl, fun i v hv => ?_⟩
  have hi : i < n := by rw [← hl]; exact (List.getElem?_eq_some_iff.1 hv).1
  have h1 := hel i hi
  rw [hc, Nat.mul_one] at h1
  have hy : ys[i]? = some ys[i] := List.getElem?_eq_getElem (by omega)
  rw [hy] at h1
  obtain ⟨q, e1, e2, _⟩ := DataW.trod_int he h1
  refine ⟨q, ?_, ?_⟩
  · rw [htab', List.getElem?_map, List.getElem?_map, hy] at hv
    have := Option.some.inj hv
    rw [← this]
    show dval ys[i].1 = _
    rw [e2]
    rfl
  · have := congrArg (fun l : List Value => l[0]?) e1
    simpa using this

def mu6 (n3 n5 : Nat) : Mu := fun id => if id < 6 then some ⟨id, 0, 0, if id = 3 then n3 else if id = 5 then n5 else 0⟩ else none
theorem mu6_blk {n3 n5 id : Nat} {l : AM.Loc} (h : mu6 n3 n5 id = some l) : id < 6 ∧ l.blk = id ∧ l.off = 0 ∧ (id = 3 → l.size = n3) ∧ (id = 5 → l.size = n5) := by
  unfold mu6 at h
  split at h
  · simp only [Option.some.injEq] at h
    subst h
    exact ⟨by assumption, rfl, rfl, fun e => by simp [e], fun e => by simp [e]⟩
  · cases h

theorem inv6 {W : World} {t3 t5 : List Value} {c3 c5 : Array Value} {y3 y5 : TypeId} {z3 z5 : Nat × Nat} (g3 : W.heap[3]? = some (.cells c3 y3 z3)) (g5 : W.heap[5]? = some (.cells c5 y5 z5)) (s3 : c3.size = t3.length) (s5 : c5.size = t5.length)
    (e3 : ∀ (i : Nat) (v : Value), t3[i]? = some v → ∃ k m, v = .int k m ∧ c3[i]? = some (.int k m)) (e5 : ∀ (i : Nat) (v : Value), t5[i]? = some v → ∃ k m, v = .int k m ∧ c5[i]? = some (.int k m)) : Inv0 6 W (mu6 t3.length t5.length) (F.hL [(3, .cells t3 none), (5, .cells t5 none)] 6) W := by
  have hs : 5 < W.heap.size := (Array.getElem?_eq_some_iff.1 g5).1
  have hget : ∀ id b, (F.hL [(3, .cells t3 none), (5, .cells t5 none)] 6).get id = some b → (id = 3 ∧ b = .cells t3 none) ∨ (id = 5 ∧ b = .cells t5 none) := fun id b h => by
    have := F.hL_get 6 _ id b h
    simpa using this
  have cellsOK : ∀ {l : List Value} {c : Array Value}, (∀ (i : Nat) (v : Value), l[i]? = some v → ∃ k m, v = .int k m ∧ c[i]? = some (.int k m)) → ∀ (i : Nat) (v : Value), l[i]? = some v → ∃ q, c[0 + i]? = some q ∧ VR (mu6 t3.length t5.length) v q ∧ cellish v = true := by
    intro l c e i v hv
    obtain ⟨k, m, rfl, hc⟩ := e i v hv
    exact ⟨_, by rw [Nat.zero_add]; exact hc, .int _ _, rfl⟩
  refine ⟨⟨Nat.le_refl _, fun id b h => ?_, fun id b l h hl => ?_, fun id b l id' b' l' h ho => ?_, fun id l h => ?_, fun g hg => ?_⟩, fun id hid => ?_, fun id k l h ho => ?_, Below.refl _ _⟩
  · show id < 6
    rcases hget id b h with ⟨rfl, _⟩ | ⟨rfl, _⟩ <;> omega
  · obtain ⟨_, hb, hoff, hz3, hz5⟩ := mu6_blk hl
    rcases hget id b h with ⟨rfl, rfl⟩ | ⟨rfl, rfl⟩
    · have hz := hz3 rfl
      refine ⟨c3, y3, z3, by rw [hb]; exact g3, by rw [hz, s3], by rw [hoff, hz]; simp, fun i v hv => ?_, ⟨fun h => by (cases h), fun _ h => by (cases h)⟩⟩
      rw [hoff]; exact cellsOK e3 i v hv
    · have hz := hz5 rfl
      refine ⟨c5, y5, z5, by rw [hb]; exact g5, by rw [hz, s5], by rw [hoff, hz]; simp, fun i v hv => ?_, ⟨fun h => by (cases h), fun _ h => by (cases h)⟩⟩
      rw [hoff]; exact cellsOK e5 i v hv
  · rcases hget id b h with ⟨_, rfl⟩ | ⟨_, rfl⟩ <;> cases ho
  · obtain ⟨hid, hb, _⟩ := mu6_blk h
    rw [hb]; omega
  · exact ⟨⟨g, 0, 0, if g = 3 then t3.length else if g = 5 then t5.length else 0⟩, by unfold mu6; rw [if_pos hg], rfl, rfl⟩
  · have hid : 6 ≤ id := hid
    unfold mu6
    rw [if_neg (by omega)]
  · rcases hget id k h with ⟨_, rfl⟩ | ⟨_, rfl⟩ <;> cases ho

/-- A closed function, its body in pieces; it begins with what is known. -/
theorem closed_at {P : Program} {NG nt : Nat} {f : FuncId} {fn : Func} {c : Code} (hfn : P.funcs[f]? = some fn) (hb : fn.body = some c) (ht : fn.ntmps = nt) {ex : Ex} {fr : T Value} {h h0 : H} {μ : Mu} (hex : exEnd ex = true)
    {w : World} (i0 : Inv0 NG w μ h0 w) (hc : Cl P NG nt w c .nil h0 ex fr h) (hres : resA P fr h fn.results.toList = some [.bool true]) : Calls P f #[] w fun e w' => e = .returned (.bool true) ∧ Below w.heap.size w w' := by
  refine (callsIn_Fr (ro := none) (n := 0)).1 (callsIn_of_wp_marks (F := Fr none) (n := 0) hfn hb trivial ?_)
  have f0 : FR nt μ .nil { tmps := (#[] : Array Value) ++ Array.replicate (fn.ntmps - (#[] : Array Value).size) undef, defers := [] } := ⟨by simp [ht], fun t v hv => by simp at hv⟩
  refine wpIn_mono (hc _ _ w i0 f0) fun e a' w' hp => ?_
  obtain ⟨he, μ', i', f', l', s', d', ms, ed, nd, gd⟩ := hp
  have fin : LeavesInM (Fr none) 0 P fn a'.tmps (fun e w' => e = .returned (.bool true) ∧ Below w.heap.size w w') a'.defers .returning w' := by
    have ed' : a'.defers = ms.map (fun r => (⟨.collected r, #[]⟩ : Deferred)) := by rw [ed]; simp
    rw [ed']
    refine cl_leaves (w0 := w) (w := w) hres (fun w'' v i'' s'' d'' hvr => ?_) (Nat.le_refl _) ms a' w' i' f' rfl s' d' nd gd
    have := hvr.bool_inv
    subst this
    exact ⟨rfl, i''.below⟩
  cases ex with
  | normal =>
    cases e with
    | normal => exact fin
    | _ => exact he.elim
  | ret =>
    cases e with
    | ret => exact fin
    | _ => exact he.elim
  | exit j => simp [exEnd] at hex
end Go.AM
