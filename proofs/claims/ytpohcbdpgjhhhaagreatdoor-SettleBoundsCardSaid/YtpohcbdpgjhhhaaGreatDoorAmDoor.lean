/-
  An abstract machine for the model: laws whose code reads one table of bytes, which lies as the program's first variable.
-/
import Derived.Test.YtpohcbdpgjhhhaaGreatDoorAmLaw
import Derived.MakeChecks
import Derived.ChangeBears2
namespace Go.AM
open Go Go.RowKit Go.ChangeShapes Go.WideShapes Go.ChangeAt

def byteL (xs : List Nat) : List Value := xs.map fun (n : Nat) => Value.int .u8 (n : Int)

theorem tab_cells {P : Program} {W : World} {name : String} {xs : List Nat} {t e : TypeId} {d : DataW Unit} (hg : P.globalNamed name = some 0) (ht : (P.globals[0]?).map (·.type) = some t) (hu : P.underlying t = some (.array xs.length e))
    (he : P.underlying e = some (.int .u8)) (hc : P.cellsOf e = 1) (hct : P.cellsOf t = xs.length) (hd : d = .agg (xs.map fun (n : Nat) => .lit (.int .u8 (n : Int)))) (h : laidMet P [(name, d)] W) :
    ∃ ccs ty fz, W.heap[0]? = some (.cells ccs ty fz) ∧ ccs.size = xs.length ∧ ∀ (i x : Nat), xs[i]? = some x → ccs[i]? = some (.int .u8 (x : Int)) := by
  subst hd
  obtain ⟨ps, ⟨g, t', cs, fuel, p, q, hg', ht', hv, hd, _, _⟩, _, _⟩ := h
  obtain rfl := Option.some.inj (hg.symm.trans hg')
  obtain rfl := Option.some.inj (ht.symm.trans ht')
  simp only [World.var?, hg, Option.bind_some] at hv
  obtain ⟨ccs, ty, fz, hh⟩ : ∃ ccs ty fz, W.heap[0]? = some (.cells ccs ty fz) := by
    split at hv
    · rename_i c t fr hb; exact ⟨c, t, fr, hb⟩
    · cases hv
  rw [hh] at hv
  obtain rfl := Option.some.inj hv
  obtain ⟨ys, m, _, hx, hlen, hn, hel⟩ := DataW.trod_array hu hd
  simp only [Prod.mk.injEq, DataW.agg.injEq] at hx
  have hsz : ccs.size = xs.length := by rw [← Array.length_toList, hlen, hct]
  refine ⟨ccs, ty, fz, hh, hsz, fun i x hi => ?_⟩
  have hil : i < xs.length := (List.getElem?_eq_some_iff.1 hi).1
  have h1 := hel i hil
  rw [hc, Nat.mul_one] at h1
  have hy : ys[i]? = some ys[i] := List.getElem?_eq_getElem (by omega)
  rw [hy] at h1
  have h2 : (ys.map (·.1))[i]? = some (.lit (.int .u8 (x : Int))) := by rw [← hx.1, List.getElem?_map, hi]; rfl
  rw [List.getElem?_map, hy] at h2
  have h3 : ys[i].1 = .lit (.int .u8 (x : Int)) := Option.some.inj h2
  obtain ⟨n, e1, e2, _⟩ := DataW.trod_int he h1
  have e3 : DataW.lit (H := Unit) (.int .u8 n) = .lit (.int .u8 (x : Int)) := by rw [← h3, e2]
  injection e3 with e4
  injection e4 with _ e5
  subst e5
  have e6 : (ccs.toList.drop i)[0]? = some (.int .u8 (x : Int)) := by
    have := congrArg (fun l : List Value => l[0]?) e1
    simpa using this
  rw [List.getElem?_drop, Nat.add_zero, Array.getElem?_toList] at e6
  exact e6

def muT (n : Nat) : Mu := fun id => if id = 0 then some ⟨0, 0, 0, n⟩ else none
def hT (xs : List Nat) : H := (⟨.nil, 0⟩ : H).push (.cells (byteL xs) none)

theorem hT_get (xs : List Nat) (id : Nat) : (hT xs).get id = if id = 0 then some (.cells (byteL xs) none) else none := by
  unfold hT
  rw [H.get_push]
  rfl

theorem RO.table {W : World} {xs : List Nat} {ccs : Array Value} {ty : TypeId} {fz : Nat × Nat} (hh : W.heap[0]? = some (.cells ccs ty fz)) (hs : ccs.size = xs.length)
    (hc : ∀ (i x : Nat), xs[i]? = some x → ccs[i]? = some (.int .u8 (x : Int))) : RO 1 (muT xs.length) (hT xs) W := by
  have hmu : ∀ id l, muT xs.length id = some l → id = 0 ∧ l = ⟨0, 0, 0, xs.length⟩ := fun id l h => by
    unfold muT at h
    split at h
    · exact ⟨by assumption, (Option.some.inj h).symm⟩
    · cases h
  refine ⟨⟨Nat.le_refl _, fun id b h => ?_, fun id b l h hl => ?_, fun id b l id' b' l' h ho => ?_, fun id l h => ?_, fun g hg => ?_⟩, fun id b h => ?_, fun id hid => ?_⟩
  · rw [hT_get] at h
    split at h
    · subst_vars; exact Nat.lt_succ_self 0
    · cases h
  · obtain ⟨rfl, rfl⟩ := hmu id l hl
    rw [hT_get, if_pos rfl] at h
    obtain rfl := Option.some.inj h
    refine ⟨ccs, ty, fz, hh, hs, by simp [byteL], fun i v hv => ?_, ⟨fun h => by (cases h), fun _ h => by (cases h)⟩⟩
    simp only [byteL, List.getElem?_map, Option.map_eq_some_iff] at hv
    obtain ⟨x, hx, rfl⟩ := hv
    exact ⟨_, by rw [Nat.zero_add]; exact hc i x hx, .int _ _, rfl⟩
  · rw [hT_get] at h
    split at h
    · obtain rfl := Option.some.inj h; cases ho
    · cases h
  · obtain ⟨rfl, rfl⟩ := hmu id l h
    exact (Array.getElem?_eq_some_iff.1 hh).1
  · obtain rfl : g = 0 := by omega
    exact ⟨⟨0, 0, 0, xs.length⟩, rfl, rfl, rfl⟩
  · rw [hT_get] at h
    split at h
    · obtain rfl := Option.some.inj h; rfl
    · cases h
  · have : (hT xs).next = 1 := rfl
    unfold muT
    rw [if_neg (by omega)]

/-- Calls of a law that begins with a table. -/
theorem door_calls {P : Program} {Hn : Type} {enc : TypeId × Value → Hn} {base : Nat} {W : World} {xs : List Nat} {ccs : Array Value} {ty : TypeId} {fz : Nat × Nat} (hh : W.heap[0]? = some (.cells ccs ty fz)) (hs : ccs.size = xs.length)
    (hc : ∀ (i x : Nat), xs[i]? = some x → ccs[i]? = some (.int .u8 (x : Int))) {f : FuncId} (hzp : zerosPlain P = true) (hm : P.follows .mixedOrders = true) (hn : namesOK P = true) {fn : Func} (hfn : P.funcs[f]? = some fn) (hb : fn.body.isSome = true)
    {ts : List TypeId} {args : Array Value} {ds : List (DataW Hn)} {ps : List MemPlace} {n b0 : Nat} (hok : ∀ t ∈ ts, okT P n t = true)
    (hw : ∀ (j : Nat) t v, ts[j]? = some t → args.toList[j]? = some v → Value.okWide P W .any b0 t v) (ht : DataW.TrodAll enc P W base (fun _ => true) true ts args.toList ds ps)
    (run : ∀ (h : H) (as : List Value), Start h → h.get 0 = some (.cells (byteL xs) none) → 0 < h.next → TyAll P h ts as → ∃ n h', callB P 1 [] n f as h = some (.bool true, h')) :
    Calls P f args W fun e W' => e = .returned (.bool true) ∧ Below W.heap.size W W' := by
  have hpos : 0 < W.heap.size := (Array.getElem?_eq_some_iff.1 hh).1
  obtain ⟨μ, h, as, r, e, l, tya⟩ := args_open (NG := 1) hpos ts args.toList ds ps hok hw ht _ _ (RO.table hh hs hc)
  obtain ⟨n, h', hr⟩ := run h as ⟨r.rh.wf, r.ro⟩ (e.2.1 0 _ (by rw [hT_get, if_pos rfl])) (Nat.lt_of_lt_of_le (Nat.lt_succ_self 0) e.2.2) tya
  obtain ⟨_, hcl, _⟩ := callB_sound (NG := 1) hzp hm hn (fun f hf => by cases hf) n f as _ _ _ hr
  obtain ⟨fn', hfn', _, ⟨_, hcl⟩ | ⟨hb', _⟩⟩ := hcl (names_fn hn hfn).2
  case inr => rw [hfn] at hfn'; simp only [Option.some.injEq] at hfn'; subst hfn'; rw [hb'] at hb; simp at hb
  refine (hcl μ W args.toList r.rh (fun id hid _ => r.fr id hid) l).mono fun e w' ⟨cv, μ', he, hst, hv⟩ => ?_
  have := hv.bool_inv
  subst this
  exact ⟨he, hst.below r.ro⟩
end Go.AM
