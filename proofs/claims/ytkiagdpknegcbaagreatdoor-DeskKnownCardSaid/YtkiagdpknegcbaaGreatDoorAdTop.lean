/-
  An abstract machine for the model: what a call of it says of the model's call.
-/
import Derived.Test.YtkiagdpknegcbaaGreatDoorAdCall
namespace Go.AM
open Go Go.RowKit

def isT : Option (Value × H) → Bool
  | some (.bool b, _) => b
  | _ => false

theorem isT_some {r : Option (Value × H)} (h : isT r = true) : ∃ h', r = some (.bool true, h') := by
  unfold isT at h
  split at h
  · subst h; exact ⟨_, rfl⟩
  · simp at h

/-- Nothing is known, nothing is mapped. -/
theorem RH.nothing (w : World) : RH 0 (fun _ => none) ⟨.nil, 0⟩ w :=
  ⟨Nat.le_refl _, fun id b hb => by simp [H.get] at hb, fun id b l hb => by simp [H.get] at hb, fun id b l id' b' l' hb => by simp [H.get] at hb,
    fun id l hl => by simp at hl, fun g hg => by omega⟩

/-- A step that began with blocks that were only read leaves all that was there alone. -/
theorem Step.below {NG : Nat} {μ μ' : Mu} {h h' : H} {w w' : World} (st : Step NG μ h w μ' h' w') (ho : ∀ id k, h.get id = some k → k.owned = false) : Below w.heap.size w w' :=
  ⟨st.os, st.tape, st.output, st.size, fun k hk => st.frame k hk fun id c l hc hco => by rw [ho id c hc] at hco; simp at hco⟩

theorem closed_calls {P : Program} {lv : Bool} {n : Nat} {f : FuncId} {fn : Func} (hzp : zerosPlain P = true) (hm : P.follows .mixedOrders = true) (hn : namesOK P = true) (hfn : P.funcs[f]? = some fn) (hb : fn.body.isSome = true)
    (h : isT (callA P 0 lv n f [] ⟨.nil, 0⟩) = true) (w : World) : Calls P f #[] w fun e w' => e = .returned (.bool true) ∧ Below w.heap.size w w' := by
  obtain ⟨h', hr⟩ := isT_some h
  obtain ⟨_, hc, _⟩ := callA_sound (NG := 0) hzp hm hn n f [] _ _ _ hr
  obtain ⟨fn', hfn', _, ⟨_, hc⟩ | ⟨hb', _⟩⟩ := hc (names_fn hn hfn).2
  case inr => rw [hfn] at hfn'; simp only [Option.some.injEq] at hfn'; subst hfn'; rw [hb'] at hb; simp at hb
  refine (hc (fun _ => none) w [] (RH.nothing w) (fun _ _ _ => rfl) .nil).mono fun e w' ⟨cv, μ', he, hst, hv⟩ => ?_
  have := hv.bool_inv
  subst this
  exact ⟨he, hst.below fun id k hk => by simp [H.get] at hk⟩

end Go.AM
